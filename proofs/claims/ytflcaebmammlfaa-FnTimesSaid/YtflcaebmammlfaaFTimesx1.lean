import Derived.Test.YtflcaebmammlfaaFTimesx0
import Derived.Test.YtflcaebmammlfaaProg
namespace Go.Proofs.Ytflcaebmammlfaa.M
open Go Go.MG
set_option linter.unusedVariables false
set_option linter.unusedSimpArgs false
/-! ### Fspec_Inside -/
def Fspec_Inside.j3 (k : Nat) (v27 : Int) (v28 : Int) (v29 : Int) (v30 : Int) : Option (Timpl_Times × Bool) := (Fspec_TimesOk k (⟨v27, v28, v29, v30⟩ : Timpl_Times)).bind fun r32 => cond (!r32) (some ((⟨(0 : Int), (0 : Int), (0 : Int), (0 : Int)⟩ : Timpl_Times), false)) (some ((⟨v27, v28, v29, v30⟩ : Timpl_Times), true))
def Fspec_Inside.j2 (k : Nat) (v16 : Bool) (v17 : Int) (v18 : Int) (v19 : Int) (v20 : Int) (v21 : Int) (v22 : Int) (v23 : Int) (v24 : Int) : Option (Timpl_Times × Bool) := cond v16 (some ((⟨(0 : Int), (0 : Int), (0 : Int), (0 : Int)⟩ : Timpl_Times), false)) ((Fspec_l16Least k v19 v23).bind fun r25 => (Fspec_l16Least k v20 v24).bind fun r26 => cond (decide (v22 > v18)) (Fspec_Inside.j3 k v17 v22 r25 r26) (Fspec_Inside.j3 k v17 v18 r25 r26))
def Fspec_Inside (k : Nat) (a0 : Timpl_Times) (a1 : Timpl_Times) : Option (Timpl_Times × Bool) := (Fspec_TimesOk k a0).bind fun r33 => cond (!r33) (Fspec_Inside.j2 k true a0.Auth a0.Start a0.End a0.Renew a1.Auth a1.Start a1.End a1.Renew) ((Fspec_TimesOk k a1).bind fun r34 => Fspec_Inside.j2 k (!r34) a0.Auth a0.Start a0.End a0.Renew a1.Auth a1.Start a1.End a1.Renew)
theorem ent30 : Enters Try.prog 30 := ⟨Try.f30, Try.func30, rfl, by decide⟩
set_option maxHeartbeats 8000000 in
set_option maxRecDepth 100000 in
theorem Fspec_Inside_gives (k : Nat) (a0 : Timpl_Times) (a1 : Timpl_Times) (r : Timpl_Times × Bool) (H : Fspec_Inside k a0 a1 = some r) : Gives Try.prog 30 [V.agg [cI a0.Auth, cI a0.Start, cI a0.End, cI a0.Renew], V.agg [cI a1.Auth, cI a1.Start, cI a1.End, cI a1.Renew]] [] [V.agg [cI r.1.Auth, cI r.1.Start, cI r.1.End, cI r.1.Renew], V.one (cL r.2)] [] := by
  refine Gives.intro Try.func30 rfl rfl rfl rfl ?_
  intro F hF hm
  unfold Fspec_Inside at H
  obtain ⟨K, hK⟩ : ∃ K, k ≤ K := ⟨k, Nat.le_refl k⟩
  refine WpC.seq ?_
  refine WpC.regionL ?_
  refine L.box 8 hF rfl rfl rfl rfl ?_
  refine L.box 9 hF rfl rfl rfl rfl ?_
  refine L.alloc 10 info25 rfl hF rfl rfl rfl rfl ?_
  refine L.assign hF rfl rfl rfl ?_
  refine L.nil ?_
  refine WpC.seq ?_
  refine WpC.join (fun σ => ∃ kj2 : Nat, ∃ v16 : Bool, ∃ v17 : Int, ∃ v18 : Int, ∃ v19 : Int, ∃ v20 : Int, ∃ v21 : Int, ∃ v22 : Int, ∃ v23 : Int, ∃ v24 : Int, kj2 ≤ K ∧ Fspec_Inside.j2 kj2 v16 v17 v18 v19 v20 v21 v22 v23 v24 = some r ∧ σ = mkSt [(2, one (Cell.ptr 0 0)), (3, one (Cell.ptr 1 0)), (4, one (Cell.ptr 2 0)), (14, one (cL v16))] [] [(0, [cI v17, cI v18, cI v19, cI v20]), (1, [cI v21, cI v22, cI v23, cI v24]), (2, [cI (0 : Int), cI (0 : Int), cI (0 : Int), cI (0 : Int)])] 3) ?_ ?_
  · rintro _ ⟨kj2, v16, v17, v18, v19, v20, v21, v22, v23, v24, hkj2, H, rfl⟩
    unfold Fspec_Inside.j2 at H
    refine WpC.cond rfl (fun hc => ?_) (fun hc => ?_)
    · replace H := condT hc H
      refine WpC.seq ?_
      refine WpC.regionL ?_
      refine L.buildF built25 hF rfl rfl rfl rfl ?_
      refine L.storePtr shape25 hF rfl rfl rfl rfl rfl rfl rfl ?_
      refine L.assign hF rfl rfl rfl ?_
      refine L.nil ?_
      refine WpC.ret ?_
      cases H
      exact Leaves.ret rfl rfl rfl ⟨rfl, rfl⟩
    · replace H := condF hc H
      refine WpC.skip ?_
      refine WpC.seq ?_
      obtain ⟨r25, hr25, H⟩ := bindS H
      obtain ⟨r26, hr26, H⟩ := bindS H
      refine A.begin mixed rfl rfl ?_
      intro W hI hO
      have n131071 : W 0 #[true, true, true, true, true, true, true, true, true, true, true, true, true, true, true, true, true] (mkSt [(3, one (Cell.ptr 0 0)), (4, one (Cell.ptr 1 0)), (6, one (Cell.ptr 2 0))] [] [(0, (bx v21 v22 v23 v24)), (1, (bx 0 0 0 0)), (2, (bx v17 v18 r25 r26))] 3) := by
        refine hI _ _ _ (A.done (by kernel_rfl) ?_)
        refine WpC.join (fun σ => ∃ kj3 : Nat, ∃ v27 : Int, ∃ v28 : Int, ∃ v29 : Int, ∃ v30 : Int, kj3 ≤ K ∧ Fspec_Inside.j3 kj3 v27 v28 v29 v30 = some r ∧ σ = mkSt [(4, one (Cell.ptr 0 0)), (6, one (Cell.ptr 1 0))] [] [(0, [cI (0 : Int), cI (0 : Int), cI (0 : Int), cI (0 : Int)]), (1, [cI v27, cI v28, cI v29, cI v30])] 2) ?_ ?_
        · rintro _ ⟨kj3, v27, v28, v29, v30, hkj3, H, rfl⟩
          unfold Fspec_Inside.j3 at H
          refine WpC.seq ?_
          refine WpC.seq ?_
          refine WpC.regionL ?_
          refine L.loadPtr shape25 hF rfl rfl rfl rfl rfl rfl ?_
          obtain ⟨r32, hr32, H⟩ := bindS H
          refine L.call [false] [] [] 2 hF rfl rfl rfl ent22 rfl rfl rfl rfl rfl (Fspec_TimesOk_gives kj3  (⟨v27, v28, v29, v30⟩ : Timpl_Times) r32 hr32) rfl ?_
          refine L.not hF rfl rfl rfl ?_
          refine L.nil ?_
          refine WpC.cond rfl (fun hc => ?_) (fun hc => ?_)
          · replace H := condT hc H
            refine WpC.seq ?_
            refine WpC.regionL ?_
            refine L.buildF built25 hF rfl rfl rfl rfl ?_
            refine L.storePtr shape25 hF rfl rfl rfl rfl rfl rfl rfl ?_
            refine L.assign hF rfl rfl rfl ?_
            refine L.nil ?_
            refine WpC.ret ?_
            cases H
            exact Leaves.ret rfl rfl rfl ⟨rfl, rfl⟩
          · replace H := condF hc H
            refine WpC.skip ?_
            refine WpC.seq ?_
            refine WpC.regionL ?_
            refine L.loadPtr shape25 hF rfl rfl rfl rfl rfl rfl ?_
            refine L.storePtr shape25 hF rfl rfl rfl rfl rfl rfl rfl ?_
            refine L.assign hF rfl rfl rfl ?_
            refine L.nil ?_
            refine WpC.ret ?_
            cases H
            exact Leaves.ret rfl rfl rfl ⟨rfl, rfl⟩
        · refine WpC.seq ?_
          refine WpC.regionL ?_
          refine L.fieldAddr Try.underlying25 rfl info3 rfl hF rfl rfl rfl rfl rfl ?_
          refine L.loadPtr shape3 hF rfl rfl rfl rfl rfl rfl ?_
          refine L.fieldAddr Try.underlying25 rfl info3 rfl hF rfl rfl rfl rfl rfl ?_
          refine L.loadPtr shape3 hF rfl rfl rfl rfl rfl rfl ?_
          refine L.bin hF rfl rfl rfl rfl rfl rfl ?_
          refine L.nil ?_
          refine WpC.cond rfl (fun hc => ?_) (fun hc => ?_)
          · replace H := condT hc H
            refine WpC.regionL ?_
            refine L.fieldAddr Try.underlying25 rfl info3 rfl hF rfl rfl rfl rfl rfl ?_
            refine L.loadPtr shape3 hF rfl rfl rfl rfl rfl rfl ?_
            refine L.fieldAddr Try.underlying25 rfl info3 rfl hF rfl rfl rfl rfl rfl ?_
            refine L.storePtr shape3 hF rfl rfl rfl rfl rfl rfl rfl ?_
            refine L.nil ?_
            exact ⟨_, ⟨kj2, v17, v22, r25, r26, by omega, H, rfl⟩, Le.mk [(0, 1), (1, 2)] hm rfl ⟨⟨_, rfl, rfl⟩, ⟨_, rfl, rfl⟩, trivial⟩ trivial ⟨⟨_, _, rfl, rfl, rfl⟩, ⟨_, _, rfl, rfl, rfl⟩, trivial⟩⟩
          · replace H := condF hc H
            refine WpC.skip ?_
            exact ⟨_, ⟨kj2, v17, v18, r25, r26, by omega, H, rfl⟩, Le.mk [(0, 1), (1, 2)] hm rfl ⟨⟨_, rfl, rfl⟩, ⟨_, rfl, rfl⟩, trivial⟩ trivial ⟨⟨_, _, rfl, rfl, rfl⟩, ⟨_, _, rfl, rfl, rfl⟩, trivial⟩⟩
      have n65535 : W 1 #[true, true, true, true, true, true, true, true, true, true, true, true, true, true, true, true, false] (mkSt [(3, one (Cell.ptr 0 0)), (4, one (Cell.ptr 1 0)), (6, one (Cell.ptr 2 0)), (30, agg (bx v17 v18 r25 r26))] [] [(0, (bx v21 v22 v23 v24)), (1, (bx 0 0 0 0)), (2, (bx 0 0 0 0))] 3) := by
        refine hI _ _ _ ?_
        refine A.all [16] (by kernel_rfl) rfl ⟨⟨_, rfl, ?_⟩, trivial⟩
        · refine L.storePtr shape25 hF rfl rfl rfl rfl rfl rfl rfl ?_
          exact L.nil (A.on (hO _ _ _ n131071) (Le.mk [(0, 0), (1, 1), (2, 2)] hm rfl (S3 rfl rfl rfl rfl rfl rfl) trivial (B3 rfl rfl rfl rfl rfl rfl rfl rfl rfl)))
      have n32767 : W 2 #[true, true, true, true, true, true, true, true, true, true, true, true, true, true, true, false, false] (mkSt [(3, one (Cell.ptr 0 0)), (4, one (Cell.ptr 1 0)), (30, agg (bx v17 v18 r25 r26))] [] [(0, (bx v21 v22 v23 v24)), (1, (bx 0 0 0 0))] 2) := by
        refine hI _ _ _ ?_
        refine A.all [15] (by kernel_rfl) rfl ⟨⟨_, rfl, ?_⟩, trivial⟩
        · refine L.alloc 2 info25 rfl hF rfl rfl rfl rfl ?_
          exact L.nil (A.on (hO _ _ _ n65535) (Le.mk [(0, 0), (1, 1), (2, 2)] hm rfl (S4 rfl rfl rfl rfl rfl rfl rfl rfl) trivial (B3 rfl rfl rfl rfl rfl rfl rfl rfl rfl)))
      have n49151 : W 2 #[true, true, true, true, true, true, true, true, true, true, true, true, true, true, false, true, false] (mkSt [(3, one (Cell.ptr 0 0)), (4, one (Cell.ptr 1 0)), (6, one (Cell.ptr 2 0)), (17, one (cI v17)), (19, one (cI v18)), (24, one (cI r25)), (29, one (cI r26))] [] [(0, (bx v21 v22 v23 v24)), (1, (bx 0 0 0 0)), (2, (bx 0 0 0 0))] 3) := by
        refine hI _ _ _ ?_
        refine A.take 14 rfl (by kernel_rfl) (by kernel_rfl) (by kernel_rfl) rfl (Ca.build rfl (by rw [built25]; rfl)) (fun Q0 k0 => L.buildF built25 hF rfl rfl rfl rfl (L.nil k0)) ?_
        exact A.on (hO _ _ _ n65535) (Le.mk [(0, 0), (1, 1), (2, 2)] hm rfl (S4 rfl rfl rfl rfl rfl rfl rfl rfl) trivial (B3 rfl rfl rfl rfl rfl rfl rfl rfl rfl))
      have n49143 : W 3 #[true, true, true, false, true, true, true, true, true, true, true, true, true, true, false, true, false] (mkSt [(3, one (Cell.ptr 0 0)), (4, one (Cell.ptr 1 0)), (6, one (Cell.ptr 2 0)), (17, one (cI v17)), (18, one (Cell.ptr 3 1)), (24, one (cI r25)), (29, one (cI r26))] [] [(0, (bx v21 v22 v23 v24)), (1, (bx 0 0 0 0)), (2, (bx 0 0 0 0)), (3, (bx v17 v18 v19 v20))] 4) := by
        refine hI _ _ _ ?_
        refine A.all [3] (by kernel_rfl) rfl ⟨⟨_, rfl, ?_⟩, trivial⟩
        · refine L.loadPtr shape3 hF rfl rfl rfl rfl rfl rfl ?_
          exact L.nil (A.on (hO _ _ _ n49151) (Le.mk [(0, 0), (1, 1), (2, 2)] hm rfl (S7 rfl rfl rfl rfl rfl rfl rfl rfl rfl rfl rfl rfl rfl rfl) trivial (B3 rfl rfl rfl rfl rfl rfl rfl rfl rfl)))
      have n16383 : W 3 #[true, true, true, true, true, true, true, true, true, true, true, true, true, true, false, false, false] (mkSt [(3, one (Cell.ptr 0 0)), (4, one (Cell.ptr 1 0)), (17, one (cI v17)), (19, one (cI v18)), (24, one (cI r25)), (29, one (cI r26))] [] [(0, (bx v21 v22 v23 v24)), (1, (bx 0 0 0 0))] 2) := by
        refine hI _ _ _ ?_
        refine A.take 14 rfl (by kernel_rfl) (by kernel_rfl) (by kernel_rfl) rfl (Ca.build rfl (by rw [built25]; rfl)) (fun Q0 k0 => L.buildF built25 hF rfl rfl rfl rfl (L.nil k0)) ?_
        exact A.on (hO _ _ _ n32767) (Le.mk [(0, 0), (1, 1)] hm rfl (S3 rfl rfl rfl rfl rfl rfl) trivial (B2 rfl rfl rfl rfl rfl rfl))
      have n49149 : W 3 #[true, false, true, true, true, true, true, true, true, true, true, true, true, true, false, true, false] (mkSt [(3, one (Cell.ptr 0 0)), (4, one (Cell.ptr 1 0)), (6, one (Cell.ptr 2 0)), (16, one (Cell.ptr 3 0)), (19, one (cI v18)), (24, one (cI r25)), (29, one (cI r26))] [] [(0, (bx v21 v22 v23 v24)), (1, (bx 0 0 0 0)), (2, (bx 0 0 0 0)), (3, (bx v17 v18 v19 v20))] 4) := by
        refine hI _ _ _ ?_
        refine A.all [1] (by kernel_rfl) rfl ⟨⟨_, rfl, ?_⟩, trivial⟩
        · refine L.loadPtr shape3 hF rfl rfl rfl rfl rfl rfl ?_
          exact L.nil (A.on (hO _ _ _ n49151) (Le.mk [(0, 0), (1, 1), (2, 2)] hm rfl (S7 rfl rfl rfl rfl rfl rfl rfl rfl rfl rfl rfl rfl rfl rfl) trivial (B3 rfl rfl rfl rfl rfl rfl rfl rfl rfl)))
      have n40959 : W 3 #[true, true, true, true, true, true, true, true, true, true, true, true, true, false, false, true, false] (mkSt [(3, one (Cell.ptr 0 0)), (4, one (Cell.ptr 1 0)), (6, one (Cell.ptr 2 0)), (17, one (cI v17)), (19, one (cI v18)), (24, one (cI r25)), (26, one (cI v20)), (28, one (cI v24))] [] [(0, (bx v21 v22 v23 v24)), (1, (bx 0 0 0 0)), (2, (bx 0 0 0 0))] 3) := by
        refine hI _ _ _ ?_
        refine A.all [13] (by kernel_rfl) rfl ⟨⟨_, rfl, ?_⟩, trivial⟩
        · refine L.call [false, false] [] [] 3 hF rfl rfl rfl ent94 rfl rfl rfl rfl rfl (Fspec_l16Least_gives kj2  v20 v24 r26 hr26) rfl ?_
          exact L.nil (A.on (hO _ _ _ n49151) (Le.mk [(0, 0), (1, 1), (2, 2)] hm rfl (S7 rfl rfl rfl rfl rfl rfl rfl rfl rfl rfl rfl rfl rfl rfl) trivial (B3 rfl rfl rfl rfl rfl rfl rfl rfl rfl)))
      have n36863 : W 4 #[true, true, true, true, true, true, true, true, true, true, true, true, false, false, false, true, false] (mkSt [(3, one (Cell.ptr 0 0)), (4, one (Cell.ptr 1 0)), (6, one (Cell.ptr 2 0)), (17, one (cI v17)), (19, one (cI v18)), (24, one (cI r25)), (26, one (cI v20)), (27, one (Cell.ptr 0 3))] [] [(0, (bx v21 v22 v23 v24)), (1, (bx 0 0 0 0)), (2, (bx 0 0 0 0))] 3) := by
        refine hI _ _ _ ?_
        refine A.all [12] (by kernel_rfl) rfl ⟨⟨_, rfl, ?_⟩, trivial⟩
        · refine L.loadPtr shape3 hF rfl rfl rfl rfl rfl rfl ?_
          exact L.nil (A.on (hO _ _ _ n40959) (Le.mk [(0, 0), (1, 1), (2, 2)] hm rfl (S8 rfl rfl rfl rfl rfl rfl rfl rfl rfl rfl rfl rfl rfl rfl rfl rfl) trivial (B3 rfl rfl rfl rfl rfl rfl rfl rfl rfl)))
      have n40951 : W 4 #[true, true, true, false, true, true, true, true, true, true, true, true, true, false, false, true, false] (mkSt [(3, one (Cell.ptr 0 0)), (4, one (Cell.ptr 1 0)), (6, one (Cell.ptr 2 0)), (17, one (cI v17)), (18, one (Cell.ptr 3 1)), (24, one (cI r25)), (26, one (cI v20)), (28, one (cI v24))] [] [(0, (bx v21 v22 v23 v24)), (1, (bx 0 0 0 0)), (2, (bx 0 0 0 0)), (3, (bx v17 v18 v19 v20))] 4) := by
        refine hI _ _ _ ?_
        refine A.all [3, 13] (by kernel_rfl) rfl ⟨⟨_, rfl, ?_⟩, ⟨_, rfl, ?_⟩, trivial⟩
        · refine L.loadPtr shape3 hF rfl rfl rfl rfl rfl rfl ?_
          exact L.nil (A.on (hO _ _ _ n40959) (Le.mk [(0, 0), (1, 1), (2, 2)] hm rfl (S8 rfl rfl rfl rfl rfl rfl rfl rfl rfl rfl rfl rfl rfl rfl rfl rfl) trivial (B3 rfl rfl rfl rfl rfl rfl rfl rfl rfl)))
        · refine L.call [false, false] [] [] 4 hF rfl rfl rfl ent94 rfl rfl rfl rfl rfl (Fspec_l16Least_gives kj2  v20 v24 r26 hr26) rfl ?_
          exact L.nil (A.on (hO _ _ _ n49143) (Le.mk [(0, 0), (1, 1), (2, 2), (3, 3)] hm rfl (S7 rfl rfl rfl rfl rfl rfl rfl rfl rfl rfl rfl rfl rfl rfl) trivial (B4 rfl rfl rfl rfl rfl rfl rfl rfl rfl rfl rfl rfl)))
      have n39935 : W 4 #[true, true, true, true, true, true, true, true, true, true, false, true, true, false, false, true, false] (mkSt [(3, one (Cell.ptr 0 0)), (4, one (Cell.ptr 1 0)), (6, one (Cell.ptr 2 0)), (17, one (cI v17)), (19, one (cI v18)), (24, one (cI r25)), (25, one (Cell.ptr 3 3)), (28, one (cI v24))] [] [(0, (bx v21 v22 v23 v24)), (1, (bx 0 0 0 0)), (2, (bx 0 0 0 0)), (3, (bx v17 v18 v19 v20))] 4) := by
        refine hI _ _ _ ?_
        refine A.all [10] (by kernel_rfl) rfl ⟨⟨_, rfl, ?_⟩, trivial⟩
        · refine L.loadPtr shape3 hF rfl rfl rfl rfl rfl rfl ?_
          exact L.nil (A.on (hO _ _ _ n40959) (Le.mk [(0, 0), (1, 1), (2, 2)] hm rfl (S8 rfl rfl rfl rfl rfl rfl rfl rfl rfl rfl rfl rfl rfl rfl rfl rfl) trivial (B3 rfl rfl rfl rfl rfl rfl rfl rfl rfl)))
      have n8191 : W 4 #[true, true, true, true, true, true, true, true, true, true, true, true, true, false, false, false, false] (mkSt [(3, one (Cell.ptr 0 0)), (4, one (Cell.ptr 1 0)), (17, one (cI v17)), (19, one (cI v18)), (24, one (cI r25)), (26, one (cI v20)), (28, one (cI v24))] [] [(0, (bx v21 v22 v23 v24)), (1, (bx 0 0 0 0))] 2) := by
        refine hI _ _ _ ?_
        refine A.all [13, 15] (by kernel_rfl) rfl ⟨⟨_, rfl, ?_⟩, ⟨_, rfl, ?_⟩, trivial⟩
        · refine L.call [false, false] [] [] 2 hF rfl rfl rfl ent94 rfl rfl rfl rfl rfl (Fspec_l16Least_gives kj2  v20 v24 r26 hr26) rfl ?_
          exact L.nil (A.on (hO _ _ _ n16383) (Le.mk [(0, 0), (1, 1)] hm rfl (S6 rfl rfl rfl rfl rfl rfl rfl rfl rfl rfl rfl rfl) trivial (B2 rfl rfl rfl rfl rfl rfl)))
        · refine L.alloc 2 info25 rfl hF rfl rfl rfl rfl ?_
          exact L.nil (A.on (hO _ _ _ n40959) (Le.mk [(0, 0), (1, 1), (2, 2)] hm rfl (S8 rfl rfl rfl rfl rfl rfl rfl rfl rfl rfl rfl rfl rfl rfl rfl rfl) trivial (B3 rfl rfl rfl rfl rfl rfl rfl rfl rfl)))
      have n40957 : W 4 #[true, false, true, true, true, true, true, true, true, true, true, true, true, false, false, true, false] (mkSt [(3, one (Cell.ptr 0 0)), (4, one (Cell.ptr 1 0)), (6, one (Cell.ptr 2 0)), (16, one (Cell.ptr 3 0)), (19, one (cI v18)), (24, one (cI r25)), (26, one (cI v20)), (28, one (cI v24))] [] [(0, (bx v21 v22 v23 v24)), (1, (bx 0 0 0 0)), (2, (bx 0 0 0 0)), (3, (bx v17 v18 v19 v20))] 4) := by
        refine hI _ _ _ ?_
        refine A.all [1, 13] (by kernel_rfl) rfl ⟨⟨_, rfl, ?_⟩, ⟨_, rfl, ?_⟩, trivial⟩
        · refine L.loadPtr shape3 hF rfl rfl rfl rfl rfl rfl ?_
          exact L.nil (A.on (hO _ _ _ n40959) (Le.mk [(0, 0), (1, 1), (2, 2)] hm rfl (S8 rfl rfl rfl rfl rfl rfl rfl rfl rfl rfl rfl rfl rfl rfl rfl rfl) trivial (B3 rfl rfl rfl rfl rfl rfl rfl rfl rfl)))
        · refine L.call [false, false] [] [] 4 hF rfl rfl rfl ent94 rfl rfl rfl rfl rfl (Fspec_l16Least_gives kj2  v20 v24 r26 hr26) rfl ?_
          exact L.nil (A.on (hO _ _ _ n49149) (Le.mk [(0, 0), (1, 1), (2, 2), (3, 3)] hm rfl (S7 rfl rfl rfl rfl rfl rfl rfl rfl rfl rfl rfl rfl rfl rfl) trivial (B4 rfl rfl rfl rfl rfl rfl rfl rfl rfl rfl rfl rfl)))
      have n40703 : W 4 #[true, true, true, true, true, true, true, true, false, true, true, true, true, false, false, true, false] (mkSt [(3, one (Cell.ptr 0 0)), (4, one (Cell.ptr 1 0)), (6, one (Cell.ptr 2 0)), (17, one (cI v17)), (19, one (cI v18)), (21, one (cI v19)), (23, one (cI v23)), (26, one (cI v20)), (28, one (cI v24))] [] [(0, (bx v21 v22 v23 v24)), (1, (bx 0 0 0 0)), (2, (bx 0 0 0 0))] 3) := by
        refine hI _ _ _ ?_
        refine A.all [8] (by kernel_rfl) rfl ⟨⟨_, rfl, ?_⟩, trivial⟩
        · refine L.call [false, false] [] [] 3 hF rfl rfl rfl ent94 rfl rfl rfl rfl rfl (Fspec_l16Least_gives kj2  v19 v23 r25 hr25) rfl ?_
          exact L.nil (A.on (hO _ _ _ n40959) (Le.mk [(0, 0), (1, 1), (2, 2)] hm rfl (S8 rfl rfl rfl rfl rfl rfl rfl rfl rfl rfl rfl rfl rfl rfl rfl rfl) trivial (B3 rfl rfl rfl rfl rfl rfl rfl rfl rfl)))
      have n16375 : W 4 #[true, true, true, false, true, true, true, true, true, true, true, true, true, true, false, false, false] (mkSt [(3, one (Cell.ptr 0 0)), (4, one (Cell.ptr 1 0)), (17, one (cI v17)), (18, one (Cell.ptr 2 1)), (24, one (cI r25)), (29, one (cI r26))] [] [(0, (bx v21 v22 v23 v24)), (1, (bx 0 0 0 0)), (2, (bx v17 v18 v19 v20))] 3) := by
        refine hI _ _ _ ?_
        refine A.all [3, 15] (by kernel_rfl) rfl ⟨⟨_, rfl, ?_⟩, ⟨_, rfl, ?_⟩, trivial⟩
        · refine L.loadPtr shape3 hF rfl rfl rfl rfl rfl rfl ?_
          exact L.nil (A.on (hO _ _ _ n16383) (Le.mk [(0, 0), (1, 1)] hm rfl (S6 rfl rfl rfl rfl rfl rfl rfl rfl rfl rfl rfl rfl) trivial (B2 rfl rfl rfl rfl rfl rfl)))
        · refine L.alloc 3 info25 rfl hF rfl rfl rfl rfl ?_
          exact L.nil (A.on (hO _ _ _ n49143) (Le.mk [(0, 0), (1, 1), (2, 3), (3, 2)] hm rfl (S7 rfl rfl rfl rfl rfl rfl rfl rfl rfl rfl rfl rfl rfl rfl) trivial (B4 rfl rfl rfl rfl rfl rfl rfl rfl rfl rfl rfl rfl)))
      have n16381 : W 4 #[true, false, true, true, true, true, true, true, true, true, true, true, true, true, false, false, false] (mkSt [(3, one (Cell.ptr 0 0)), (4, one (Cell.ptr 1 0)), (16, one (Cell.ptr 2 0)), (19, one (cI v18)), (24, one (cI r25)), (29, one (cI r26))] [] [(0, (bx v21 v22 v23 v24)), (1, (bx 0 0 0 0)), (2, (bx v17 v18 v19 v20))] 3) := by
        refine hI _ _ _ ?_
        refine A.all [1, 15] (by kernel_rfl) rfl ⟨⟨_, rfl, ?_⟩, ⟨_, rfl, ?_⟩, trivial⟩
        · refine L.loadPtr shape3 hF rfl rfl rfl rfl rfl rfl ?_
          exact L.nil (A.on (hO _ _ _ n16383) (Le.mk [(0, 0), (1, 1)] hm rfl (S6 rfl rfl rfl rfl rfl rfl rfl rfl rfl rfl rfl rfl) trivial (B2 rfl rfl rfl rfl rfl rfl)))
        · refine L.alloc 3 info25 rfl hF rfl rfl rfl rfl ?_
          exact L.nil (A.on (hO _ _ _ n49149) (Le.mk [(0, 0), (1, 1), (2, 3), (3, 2)] hm rfl (S7 rfl rfl rfl rfl rfl rfl rfl rfl rfl rfl rfl rfl rfl rfl) trivial (B4 rfl rfl rfl rfl rfl rfl rfl rfl rfl rfl rfl rfl)))
      have n49141 : W 4 #[true, false, true, false, true, true, true, true, true, true, true, true, true, true, false, true, false] (mkSt [(3, one (Cell.ptr 0 0)), (4, one (Cell.ptr 1 0)), (6, one (Cell.ptr 2 0)), (16, one (Cell.ptr 3 0)), (18, one (Cell.ptr 3 1)), (24, one (cI r25)), (29, one (cI r26))] [] [(0, (bx v21 v22 v23 v24)), (1, (bx 0 0 0 0)), (2, (bx 0 0 0 0)), (3, (bx v17 v18 v19 v20))] 4) := by
        refine hI _ _ _ ?_
        refine A.all [1, 3] (by kernel_rfl) rfl ⟨⟨_, rfl, ?_⟩, ⟨_, rfl, ?_⟩, trivial⟩
        · refine L.loadPtr shape3 hF rfl rfl rfl rfl rfl rfl ?_
          exact L.nil (A.on (hO _ _ _ n49143) (Le.mk [(0, 0), (1, 1), (2, 2), (3, 3)] hm rfl (S7 rfl rfl rfl rfl rfl rfl rfl rfl rfl rfl rfl rfl rfl rfl) trivial (B4 rfl rfl rfl rfl rfl rfl rfl rfl rfl rfl rfl rfl)))
        · refine L.loadPtr shape3 hF rfl rfl rfl rfl rfl rfl ?_
          exact L.nil (A.on (hO _ _ _ n49149) (Le.mk [(0, 0), (1, 1), (2, 2), (3, 3)] hm rfl (S7 rfl rfl rfl rfl rfl rfl rfl rfl rfl rfl rfl rfl rfl rfl) trivial (B4 rfl rfl rfl rfl rfl rfl rfl rfl rfl rfl rfl rfl)))
      have n7167 : W 5 #[true, true, true, true, true, true, true, true, true, true, false, true, true, false, false, false, false] (mkSt [(3, one (Cell.ptr 0 0)), (4, one (Cell.ptr 1 0)), (17, one (cI v17)), (19, one (cI v18)), (24, one (cI r25)), (25, one (Cell.ptr 2 3)), (28, one (cI v24))] [] [(0, (bx v21 v22 v23 v24)), (1, (bx 0 0 0 0)), (2, (bx v17 v18 v19 v20))] 3) := by
        refine hI _ _ _ ?_
        refine A.all [10, 15] (by kernel_rfl) rfl ⟨⟨_, rfl, ?_⟩, ⟨_, rfl, ?_⟩, trivial⟩
        · refine L.loadPtr shape3 hF rfl rfl rfl rfl rfl rfl ?_
          exact L.nil (A.on (hO _ _ _ n8191) (Le.mk [(0, 0), (1, 1)] hm rfl (S7 rfl rfl rfl rfl rfl rfl rfl rfl rfl rfl rfl rfl rfl rfl) trivial (B2 rfl rfl rfl rfl rfl rfl)))
        · refine L.alloc 3 info25 rfl hF rfl rfl rfl rfl ?_
          exact L.nil (A.on (hO _ _ _ n39935) (Le.mk [(0, 0), (1, 1), (2, 3), (3, 2)] hm rfl (S8 rfl rfl rfl rfl rfl rfl rfl rfl rfl rfl rfl rfl rfl rfl rfl rfl) trivial (B4 rfl rfl rfl rfl rfl rfl rfl rfl rfl rfl rfl rfl)))
      have n36855 : W 5 #[true, true, true, false, true, true, true, true, true, true, true, true, false, false, false, true, false] (mkSt [(3, one (Cell.ptr 0 0)), (4, one (Cell.ptr 1 0)), (6, one (Cell.ptr 2 0)), (17, one (cI v17)), (18, one (Cell.ptr 3 1)), (24, one (cI r25)), (26, one (cI v20)), (27, one (Cell.ptr 0 3))] [] [(0, (bx v21 v22 v23 v24)), (1, (bx 0 0 0 0)), (2, (bx 0 0 0 0)), (3, (bx v17 v18 v19 v20))] 4) := by
        refine hI _ _ _ ?_
        refine A.all [3, 12] (by kernel_rfl) rfl ⟨⟨_, rfl, ?_⟩, ⟨_, rfl, ?_⟩, trivial⟩
        · refine L.loadPtr shape3 hF rfl rfl rfl rfl rfl rfl ?_
          exact L.nil (A.on (hO _ _ _ n36863) (Le.mk [(0, 0), (1, 1), (2, 2)] hm rfl (S8 rfl rfl rfl rfl rfl rfl rfl rfl rfl rfl rfl rfl rfl rfl rfl rfl) trivial (B3 rfl rfl rfl rfl rfl rfl rfl rfl rfl)))
        · refine L.loadPtr shape3 hF rfl rfl rfl rfl rfl rfl ?_
          exact L.nil (A.on (hO _ _ _ n40951) (Le.mk [(0, 0), (1, 1), (2, 2), (3, 3)] hm rfl (S8 rfl rfl rfl rfl rfl rfl rfl rfl rfl rfl rfl rfl rfl rfl rfl rfl) trivial (B4 rfl rfl rfl rfl rfl rfl rfl rfl rfl rfl rfl rfl)))
      have n4095 : W 5 #[true, true, true, true, true, true, true, true, true, true, true, true, false, false, false, false, false] (mkSt [(3, one (Cell.ptr 0 0)), (4, one (Cell.ptr 1 0)), (17, one (cI v17)), (19, one (cI v18)), (24, one (cI r25)), (26, one (cI v20)), (27, one (Cell.ptr 0 3))] [] [(0, (bx v21 v22 v23 v24)), (1, (bx 0 0 0 0))] 2) := by
        refine hI _ _ _ ?_
        refine A.all [12, 15] (by kernel_rfl) rfl ⟨⟨_, rfl, ?_⟩, ⟨_, rfl, ?_⟩, trivial⟩
        · refine L.loadPtr shape3 hF rfl rfl rfl rfl rfl rfl ?_
          exact L.nil (A.on (hO _ _ _ n8191) (Le.mk [(0, 0), (1, 1)] hm rfl (S7 rfl rfl rfl rfl rfl rfl rfl rfl rfl rfl rfl rfl rfl rfl) trivial (B2 rfl rfl rfl rfl rfl rfl)))
        · refine L.alloc 2 info25 rfl hF rfl rfl rfl rfl ?_
          exact L.nil (A.on (hO _ _ _ n36863) (Le.mk [(0, 0), (1, 1), (2, 2)] hm rfl (S8 rfl rfl rfl rfl rfl rfl rfl rfl rfl rfl rfl rfl rfl rfl rfl rfl) trivial (B3 rfl rfl rfl rfl rfl rfl rfl rfl rfl)))
      have n36861 : W 5 #[true, false, true, true, true, true, true, true, true, true, true, true, false, false, false, true, false] (mkSt [(3, one (Cell.ptr 0 0)), (4, one (Cell.ptr 1 0)), (6, one (Cell.ptr 2 0)), (16, one (Cell.ptr 3 0)), (19, one (cI v18)), (24, one (cI r25)), (26, one (cI v20)), (27, one (Cell.ptr 0 3))] [] [(0, (bx v21 v22 v23 v24)), (1, (bx 0 0 0 0)), (2, (bx 0 0 0 0)), (3, (bx v17 v18 v19 v20))] 4) := by
        refine hI _ _ _ ?_
        refine A.all [1, 12] (by kernel_rfl) rfl ⟨⟨_, rfl, ?_⟩, ⟨_, rfl, ?_⟩, trivial⟩
        · refine L.loadPtr shape3 hF rfl rfl rfl rfl rfl rfl ?_
          exact L.nil (A.on (hO _ _ _ n36863) (Le.mk [(0, 0), (1, 1), (2, 2)] hm rfl (S8 rfl rfl rfl rfl rfl rfl rfl rfl rfl rfl rfl rfl rfl rfl rfl rfl) trivial (B3 rfl rfl rfl rfl rfl rfl rfl rfl rfl)))
        · refine L.loadPtr shape3 hF rfl rfl rfl rfl rfl rfl ?_
          exact L.nil (A.on (hO _ _ _ n40957) (Le.mk [(0, 0), (1, 1), (2, 2), (3, 3)] hm rfl (S8 rfl rfl rfl rfl rfl rfl rfl rfl rfl rfl rfl rfl rfl rfl rfl rfl) trivial (B4 rfl rfl rfl rfl rfl rfl rfl rfl rfl rfl rfl rfl)))
      have n40575 : W 5 #[true, true, true, true, true, true, true, false, false, true, true, true, true, false, false, true, false] (mkSt [(3, one (Cell.ptr 0 0)), (4, one (Cell.ptr 1 0)), (6, one (Cell.ptr 2 0)), (17, one (cI v17)), (19, one (cI v18)), (21, one (cI v19)), (22, one (Cell.ptr 0 2)), (26, one (cI v20)), (28, one (cI v24))] [] [(0, (bx v21 v22 v23 v24)), (1, (bx 0 0 0 0)), (2, (bx 0 0 0 0))] 3) := by
        refine hI _ _ _ ?_
        refine A.all [7] (by kernel_rfl) rfl ⟨⟨_, rfl, ?_⟩, trivial⟩
        · refine L.loadPtr shape3 hF rfl rfl rfl rfl rfl rfl ?_
          exact L.nil (A.on (hO _ _ _ n40703) (Le.mk [(0, 0), (1, 1), (2, 2)] hm rfl (S9 rfl rfl rfl rfl rfl rfl rfl rfl rfl rfl rfl rfl rfl rfl rfl rfl rfl rfl) trivial (B3 rfl rfl rfl rfl rfl rfl rfl rfl rfl)))
      have n8183 : W 5 #[true, true, true, false, true, true, true, true, true, true, true, true, true, false, false, false, false] (mkSt [(3, one (Cell.ptr 0 0)), (4, one (Cell.ptr 1 0)), (17, one (cI v17)), (18, one (Cell.ptr 2 1)), (24, one (cI r25)), (26, one (cI v20)), (28, one (cI v24))] [] [(0, (bx v21 v22 v23 v24)), (1, (bx 0 0 0 0)), (2, (bx v17 v18 v19 v20))] 3) := by
        refine hI _ _ _ ?_
        refine A.all [3, 13, 15] (by kernel_rfl) rfl ⟨⟨_, rfl, ?_⟩, ⟨_, rfl, ?_⟩, ⟨_, rfl, ?_⟩, trivial⟩
        · refine L.loadPtr shape3 hF rfl rfl rfl rfl rfl rfl ?_
          exact L.nil (A.on (hO _ _ _ n8191) (Le.mk [(0, 0), (1, 1)] hm rfl (S7 rfl rfl rfl rfl rfl rfl rfl rfl rfl rfl rfl rfl rfl rfl) trivial (B2 rfl rfl rfl rfl rfl rfl)))
        · refine L.call [false, false] [] [] 3 hF rfl rfl rfl ent94 rfl rfl rfl rfl rfl (Fspec_l16Least_gives kj2  v20 v24 r26 hr26) rfl ?_
          exact L.nil (A.on (hO _ _ _ n16375) (Le.mk [(0, 0), (1, 1), (2, 2)] hm rfl (S6 rfl rfl rfl rfl rfl rfl rfl rfl rfl rfl rfl rfl) trivial (B3 rfl rfl rfl rfl rfl rfl rfl rfl rfl)))
        · refine L.alloc 3 info25 rfl hF rfl rfl rfl rfl ?_
          exact L.nil (A.on (hO _ _ _ n40951) (Le.mk [(0, 0), (1, 1), (2, 3), (3, 2)] hm rfl (S8 rfl rfl rfl rfl rfl rfl rfl rfl rfl rfl rfl rfl rfl rfl rfl rfl) trivial (B4 rfl rfl rfl rfl rfl rfl rfl rfl rfl rfl rfl rfl)))
      have n40671 : W 5 #[true, true, true, true, true, false, true, true, false, true, true, true, true, false, false, true, false] (mkSt [(3, one (Cell.ptr 0 0)), (4, one (Cell.ptr 1 0)), (6, one (Cell.ptr 2 0)), (17, one (cI v17)), (19, one (cI v18)), (20, one (Cell.ptr 3 2)), (23, one (cI v23)), (26, one (cI v20)), (28, one (cI v24))] [] [(0, (bx v21 v22 v23 v24)), (1, (bx 0 0 0 0)), (2, (bx 0 0 0 0)), (3, (bx v17 v18 v19 v20))] 4) := by
        refine hI _ _ _ ?_
        refine A.all [5] (by kernel_rfl) rfl ⟨⟨_, rfl, ?_⟩, trivial⟩
        · refine L.loadPtr shape3 hF rfl rfl rfl rfl rfl rfl ?_
          exact L.nil (A.on (hO _ _ _ n40703) (Le.mk [(0, 0), (1, 1), (2, 2)] hm rfl (S9 rfl rfl rfl rfl rfl rfl rfl rfl rfl rfl rfl rfl rfl rfl rfl rfl rfl rfl) trivial (B3 rfl rfl rfl rfl rfl rfl rfl rfl rfl)))
      have n8189 : W 5 #[true, false, true, true, true, true, true, true, true, true, true, true, true, false, false, false, false] (mkSt [(3, one (Cell.ptr 0 0)), (4, one (Cell.ptr 1 0)), (16, one (Cell.ptr 2 0)), (19, one (cI v18)), (24, one (cI r25)), (26, one (cI v20)), (28, one (cI v24))] [] [(0, (bx v21 v22 v23 v24)), (1, (bx 0 0 0 0)), (2, (bx v17 v18 v19 v20))] 3) := by
        refine hI _ _ _ ?_
        refine A.all [1, 13, 15] (by kernel_rfl) rfl ⟨⟨_, rfl, ?_⟩, ⟨_, rfl, ?_⟩, ⟨_, rfl, ?_⟩, trivial⟩
        · refine L.loadPtr shape3 hF rfl rfl rfl rfl rfl rfl ?_
          exact L.nil (A.on (hO _ _ _ n8191) (Le.mk [(0, 0), (1, 1)] hm rfl (S7 rfl rfl rfl rfl rfl rfl rfl rfl rfl rfl rfl rfl rfl rfl) trivial (B2 rfl rfl rfl rfl rfl rfl)))
        · refine L.call [false, false] [] [] 3 hF rfl rfl rfl ent94 rfl rfl rfl rfl rfl (Fspec_l16Least_gives kj2  v20 v24 r26 hr26) rfl ?_
          exact L.nil (A.on (hO _ _ _ n16381) (Le.mk [(0, 0), (1, 1), (2, 2)] hm rfl (S6 rfl rfl rfl rfl rfl rfl rfl rfl rfl rfl rfl rfl) trivial (B3 rfl rfl rfl rfl rfl rfl rfl rfl rfl)))
        · refine L.alloc 3 info25 rfl hF rfl rfl rfl rfl ?_
          exact L.nil (A.on (hO _ _ _ n40957) (Le.mk [(0, 0), (1, 1), (2, 3), (3, 2)] hm rfl (S8 rfl rfl rfl rfl rfl rfl rfl rfl rfl rfl rfl rfl rfl rfl rfl rfl) trivial (B4 rfl rfl rfl rfl rfl rfl rfl rfl rfl rfl rfl rfl)))
      have n40695 : W 5 #[true, true, true, false, true, true, true, true, false, true, true, true, true, false, false, true, false] (mkSt [(3, one (Cell.ptr 0 0)), (4, one (Cell.ptr 1 0)), (6, one (Cell.ptr 2 0)), (17, one (cI v17)), (18, one (Cell.ptr 3 1)), (21, one (cI v19)), (23, one (cI v23)), (26, one (cI v20)), (28, one (cI v24))] [] [(0, (bx v21 v22 v23 v24)), (1, (bx 0 0 0 0)), (2, (bx 0 0 0 0)), (3, (bx v17 v18 v19 v20))] 4) := by
        refine hI _ _ _ ?_
        refine A.all [3, 8] (by kernel_rfl) rfl ⟨⟨_, rfl, ?_⟩, ⟨_, rfl, ?_⟩, trivial⟩
        · refine L.loadPtr shape3 hF rfl rfl rfl rfl rfl rfl ?_
          exact L.nil (A.on (hO _ _ _ n40703) (Le.mk [(0, 0), (1, 1), (2, 2)] hm rfl (S9 rfl rfl rfl rfl rfl rfl rfl rfl rfl rfl rfl rfl rfl rfl rfl rfl rfl rfl) trivial (B3 rfl rfl rfl rfl rfl rfl rfl rfl rfl)))
        · refine L.call [false, false] [] [] 4 hF rfl rfl rfl ent94 rfl rfl rfl rfl rfl (Fspec_l16Least_gives kj2  v19 v23 r25 hr25) rfl ?_
          exact L.nil (A.on (hO _ _ _ n40951) (Le.mk [(0, 0), (1, 1), (2, 2), (3, 3)] hm rfl (S8 rfl rfl rfl rfl rfl rfl rfl rfl rfl rfl rfl rfl rfl rfl rfl rfl) trivial (B4 rfl rfl rfl rfl rfl rfl rfl rfl rfl rfl rfl rfl)))
      have n39679 : W 5 #[true, true, true, true, true, true, true, true, false, true, false, true, true, false, false, true, false] (mkSt [(3, one (Cell.ptr 0 0)), (4, one (Cell.ptr 1 0)), (6, one (Cell.ptr 2 0)), (17, one (cI v17)), (19, one (cI v18)), (21, one (cI v19)), (23, one (cI v23)), (25, one (Cell.ptr 3 3)), (28, one (cI v24))] [] [(0, (bx v21 v22 v23 v24)), (1, (bx 0 0 0 0)), (2, (bx 0 0 0 0)), (3, (bx v17 v18 v19 v20))] 4) := by
        refine hI _ _ _ ?_
        refine A.all [8, 10] (by kernel_rfl) rfl ⟨⟨_, rfl, ?_⟩, ⟨_, rfl, ?_⟩, trivial⟩
        · refine L.call [false, false] [] [] 4 hF rfl rfl rfl ent94 rfl rfl rfl rfl rfl (Fspec_l16Least_gives kj2  v19 v23 r25 hr25) rfl ?_
          exact L.nil (A.on (hO _ _ _ n39935) (Le.mk [(0, 0), (1, 1), (2, 2), (3, 3)] hm rfl (S8 rfl rfl rfl rfl rfl rfl rfl rfl rfl rfl rfl rfl rfl rfl rfl rfl) trivial (B4 rfl rfl rfl rfl rfl rfl rfl rfl rfl rfl rfl rfl)))
        · refine L.loadPtr shape3 hF rfl rfl rfl rfl rfl rfl ?_
          exact L.nil (A.on (hO _ _ _ n40703) (Le.mk [(0, 0), (1, 1), (2, 2)] hm rfl (S9 rfl rfl rfl rfl rfl rfl rfl rfl rfl rfl rfl rfl rfl rfl rfl rfl rfl rfl) trivial (B3 rfl rfl rfl rfl rfl rfl rfl rfl rfl)))
      have n40701 : W 5 #[true, false, true, true, true, true, true, true, false, true, true, true, true, false, false, true, false] (mkSt [(3, one (Cell.ptr 0 0)), (4, one (Cell.ptr 1 0)), (6, one (Cell.ptr 2 0)), (16, one (Cell.ptr 3 0)), (19, one (cI v18)), (21, one (cI v19)), (23, one (cI v23)), (26, one (cI v20)), (28, one (cI v24))] [] [(0, (bx v21 v22 v23 v24)), (1, (bx 0 0 0 0)), (2, (bx 0 0 0 0)), (3, (bx v17 v18 v19 v20))] 4) := by
        refine hI _ _ _ ?_
        refine A.all [1, 8] (by kernel_rfl) rfl ⟨⟨_, rfl, ?_⟩, ⟨_, rfl, ?_⟩, trivial⟩
        · refine L.loadPtr shape3 hF rfl rfl rfl rfl rfl rfl ?_
          exact L.nil (A.on (hO _ _ _ n40703) (Le.mk [(0, 0), (1, 1), (2, 2)] hm rfl (S9 rfl rfl rfl rfl rfl rfl rfl rfl rfl rfl rfl rfl rfl rfl rfl rfl rfl rfl) trivial (B3 rfl rfl rfl rfl rfl rfl rfl rfl rfl)))
        · refine L.call [false, false] [] [] 4 hF rfl rfl rfl ent94 rfl rfl rfl rfl rfl (Fspec_l16Least_gives kj2  v19 v23 r25 hr25) rfl ?_
          exact L.nil (A.on (hO _ _ _ n40957) (Le.mk [(0, 0), (1, 1), (2, 2), (3, 3)] hm rfl (S8 rfl rfl rfl rfl rfl rfl rfl rfl rfl rfl rfl rfl rfl rfl rfl rfl) trivial (B4 rfl rfl rfl rfl rfl rfl rfl rfl rfl rfl rfl rfl)))
      have n36607 : W 5 #[true, true, true, true, true, true, true, true, false, true, true, true, false, false, false, true, false] (mkSt [(3, one (Cell.ptr 0 0)), (4, one (Cell.ptr 1 0)), (6, one (Cell.ptr 2 0)), (17, one (cI v17)), (19, one (cI v18)), (21, one (cI v19)), (23, one (cI v23)), (26, one (cI v20)), (27, one (Cell.ptr 0 3))] [] [(0, (bx v21 v22 v23 v24)), (1, (bx 0 0 0 0)), (2, (bx 0 0 0 0))] 3) := by
        refine hI _ _ _ ?_
        refine A.all [8, 12] (by kernel_rfl) rfl ⟨⟨_, rfl, ?_⟩, ⟨_, rfl, ?_⟩, trivial⟩
        · refine L.call [false, false] [] [] 3 hF rfl rfl rfl ent94 rfl rfl rfl rfl rfl (Fspec_l16Least_gives kj2  v19 v23 r25 hr25) rfl ?_
          exact L.nil (A.on (hO _ _ _ n36863) (Le.mk [(0, 0), (1, 1), (2, 2)] hm rfl (S8 rfl rfl rfl rfl rfl rfl rfl rfl rfl rfl rfl rfl rfl rfl rfl rfl) trivial (B3 rfl rfl rfl rfl rfl rfl rfl rfl rfl)))
        · refine L.loadPtr shape3 hF rfl rfl rfl rfl rfl rfl ?_
          exact L.nil (A.on (hO _ _ _ n40703) (Le.mk [(0, 0), (1, 1), (2, 2)] hm rfl (S9 rfl rfl rfl rfl rfl rfl rfl rfl rfl rfl rfl rfl rfl rfl rfl rfl rfl rfl) trivial (B3 rfl rfl rfl rfl rfl rfl rfl rfl rfl)))
      have n7935 : W 5 #[true, true, true, true, true, true, true, true, false, true, true, true, true, false, false, false, false] (mkSt [(3, one (Cell.ptr 0 0)), (4, one (Cell.ptr 1 0)), (17, one (cI v17)), (19, one (cI v18)), (21, one (cI v19)), (23, one (cI v23)), (26, one (cI v20)), (28, one (cI v24))] [] [(0, (bx v21 v22 v23 v24)), (1, (bx 0 0 0 0))] 2) := by
        refine hI _ _ _ ?_
        refine A.all [8, 15] (by kernel_rfl) rfl ⟨⟨_, rfl, ?_⟩, ⟨_, rfl, ?_⟩, trivial⟩
        · refine L.call [false, false] [] [] 2 hF rfl rfl rfl ent94 rfl rfl rfl rfl rfl (Fspec_l16Least_gives kj2  v19 v23 r25 hr25) rfl ?_
          exact L.nil (A.on (hO _ _ _ n8191) (Le.mk [(0, 0), (1, 1)] hm rfl (S7 rfl rfl rfl rfl rfl rfl rfl rfl rfl rfl rfl rfl rfl rfl) trivial (B2 rfl rfl rfl rfl rfl rfl)))
        · refine L.alloc 2 info25 rfl hF rfl rfl rfl rfl ?_
          exact L.nil (A.on (hO _ _ _ n40703) (Le.mk [(0, 0), (1, 1), (2, 2)] hm rfl (S9 rfl rfl rfl rfl rfl rfl rfl rfl rfl rfl rfl rfl rfl rfl rfl rfl rfl rfl) trivial (B3 rfl rfl rfl rfl rfl rfl rfl rfl rfl)))
      have n16373 : W 5 #[true, false, true, false, true, true, true, true, true, true, true, true, true, true, false, false, false] (mkSt [(3, one (Cell.ptr 0 0)), (4, one (Cell.ptr 1 0)), (16, one (Cell.ptr 2 0)), (18, one (Cell.ptr 2 1)), (24, one (cI r25)), (29, one (cI r26))] [] [(0, (bx v21 v22 v23 v24)), (1, (bx 0 0 0 0)), (2, (bx v17 v18 v19 v20))] 3) := by
        refine hI _ _ _ ?_
        refine A.all [1, 3, 15] (by kernel_rfl) rfl ⟨⟨_, rfl, ?_⟩, ⟨_, rfl, ?_⟩, ⟨_, rfl, ?_⟩, trivial⟩
        · refine L.loadPtr shape3 hF rfl rfl rfl rfl rfl rfl ?_
          exact L.nil (A.on (hO _ _ _ n16375) (Le.mk [(0, 0), (1, 1), (2, 2)] hm rfl (S6 rfl rfl rfl rfl rfl rfl rfl rfl rfl rfl rfl rfl) trivial (B3 rfl rfl rfl rfl rfl rfl rfl rfl rfl)))
        · refine L.loadPtr shape3 hF rfl rfl rfl rfl rfl rfl ?_
          exact L.nil (A.on (hO _ _ _ n16381) (Le.mk [(0, 0), (1, 1), (2, 2)] hm rfl (S6 rfl rfl rfl rfl rfl rfl rfl rfl rfl rfl rfl rfl) trivial (B3 rfl rfl rfl rfl rfl rfl rfl rfl rfl)))
        · refine L.alloc 3 info25 rfl hF rfl rfl rfl rfl ?_
          exact L.nil (A.on (hO _ _ _ n49141) (Le.mk [(0, 0), (1, 1), (2, 3), (3, 2)] hm rfl (S7 rfl rfl rfl rfl rfl rfl rfl rfl rfl rfl rfl rfl rfl rfl) trivial (B4 rfl rfl rfl rfl rfl rfl rfl rfl rfl rfl rfl rfl)))
      have n35839 : W 5 #[true, true, true, true, true, true, true, true, true, true, false, true, false, false, false, true, false] (mkSt [(3, one (Cell.ptr 0 0)), (4, one (Cell.ptr 1 0)), (6, one (Cell.ptr 2 0)), (17, one (cI v17)), (19, one (cI v18)), (24, one (cI r25)), (25, one (Cell.ptr 3 3)), (27, one (Cell.ptr 0 3))] [] [(0, (bx v21 v22 v23 v24)), (1, (bx 0 0 0 0)), (2, (bx 0 0 0 0)), (3, (bx v17 v18 v19 v20))] 4) := by
        refine hI _ _ _ ?_
        refine A.all [10, 12] (by kernel_rfl) rfl ⟨⟨_, rfl, ?_⟩, ⟨_, rfl, ?_⟩, trivial⟩
        · refine L.loadPtr shape3 hF rfl rfl rfl rfl rfl rfl ?_
          exact L.nil (A.on (hO _ _ _ n36863) (Le.mk [(0, 0), (1, 1), (2, 2)] hm rfl (S8 rfl rfl rfl rfl rfl rfl rfl rfl rfl rfl rfl rfl rfl rfl rfl rfl) trivial (B3 rfl rfl rfl rfl rfl rfl rfl rfl rfl)))
        · refine L.loadPtr shape3 hF rfl rfl rfl rfl rfl rfl ?_
          exact L.nil (A.on (hO _ _ _ n39935) (Le.mk [(0, 0), (1, 1), (2, 2), (3, 3)] hm rfl (S8 rfl rfl rfl rfl rfl rfl rfl rfl rfl rfl rfl rfl rfl rfl rfl rfl) trivial (B4 rfl rfl rfl rfl rfl rfl rfl rfl rfl rfl rfl rfl)))
      have n39927 : W 5 #[true, true, true, false, true, true, true, true, true, true, false, true, true, false, false, true, false] (mkSt [(3, one (Cell.ptr 0 0)), (4, one (Cell.ptr 1 0)), (6, one (Cell.ptr 2 0)), (17, one (cI v17)), (18, one (Cell.ptr 3 1)), (24, one (cI r25)), (25, one (Cell.ptr 3 3)), (28, one (cI v24))] [] [(0, (bx v21 v22 v23 v24)), (1, (bx 0 0 0 0)), (2, (bx 0 0 0 0)), (3, (bx v17 v18 v19 v20))] 4) := by
        refine hI _ _ _ ?_
        refine A.all [3, 10] (by kernel_rfl) rfl ⟨⟨_, rfl, ?_⟩, ⟨_, rfl, ?_⟩, trivial⟩
        · refine L.loadPtr shape3 hF rfl rfl rfl rfl rfl rfl ?_
          exact L.nil (A.on (hO _ _ _ n39935) (Le.mk [(0, 0), (1, 1), (2, 2), (3, 3)] hm rfl (S8 rfl rfl rfl rfl rfl rfl rfl rfl rfl rfl rfl rfl rfl rfl rfl rfl) trivial (B4 rfl rfl rfl rfl rfl rfl rfl rfl rfl rfl rfl rfl)))
        · refine L.loadPtr shape3 hF rfl rfl rfl rfl rfl rfl ?_
          exact L.nil (A.on (hO _ _ _ n40951) (Le.mk [(0, 0), (1, 1), (2, 2), (3, 3)] hm rfl (S8 rfl rfl rfl rfl rfl rfl rfl rfl rfl rfl rfl rfl rfl rfl rfl rfl) trivial (B4 rfl rfl rfl rfl rfl rfl rfl rfl rfl rfl rfl rfl)))
      have n40949 : W 5 #[true, false, true, false, true, true, true, true, true, true, true, true, true, false, false, true, false] (mkSt [(3, one (Cell.ptr 0 0)), (4, one (Cell.ptr 1 0)), (6, one (Cell.ptr 2 0)), (16, one (Cell.ptr 3 0)), (18, one (Cell.ptr 3 1)), (24, one (cI r25)), (26, one (cI v20)), (28, one (cI v24))] [] [(0, (bx v21 v22 v23 v24)), (1, (bx 0 0 0 0)), (2, (bx 0 0 0 0)), (3, (bx v17 v18 v19 v20))] 4) := by
        refine hI _ _ _ ?_
        refine A.all [1, 3, 13] (by kernel_rfl) rfl ⟨⟨_, rfl, ?_⟩, ⟨_, rfl, ?_⟩, ⟨_, rfl, ?_⟩, trivial⟩
        · refine L.loadPtr shape3 hF rfl rfl rfl rfl rfl rfl ?_
          exact L.nil (A.on (hO _ _ _ n40951) (Le.mk [(0, 0), (1, 1), (2, 2), (3, 3)] hm rfl (S8 rfl rfl rfl rfl rfl rfl rfl rfl rfl rfl rfl rfl rfl rfl rfl rfl) trivial (B4 rfl rfl rfl rfl rfl rfl rfl rfl rfl rfl rfl rfl)))
        · refine L.loadPtr shape3 hF rfl rfl rfl rfl rfl rfl ?_
          exact L.nil (A.on (hO _ _ _ n40957) (Le.mk [(0, 0), (1, 1), (2, 2), (3, 3)] hm rfl (S8 rfl rfl rfl rfl rfl rfl rfl rfl rfl rfl rfl rfl rfl rfl rfl rfl) trivial (B4 rfl rfl rfl rfl rfl rfl rfl rfl rfl rfl rfl rfl)))
        · refine L.call [false, false] [] [] 4 hF rfl rfl rfl ent94 rfl rfl rfl rfl rfl (Fspec_l16Least_gives kj2  v20 v24 r26 hr26) rfl ?_
          exact L.nil (A.on (hO _ _ _ n49141) (Le.mk [(0, 0), (1, 1), (2, 2), (3, 3)] hm rfl (S7 rfl rfl rfl rfl rfl rfl rfl rfl rfl rfl rfl rfl rfl rfl) trivial (B4 rfl rfl rfl rfl rfl rfl rfl rfl rfl rfl rfl rfl)))
      have n39933 : W 5 #[true, false, true, true, true, true, true, true, true, true, false, true, true, false, false, true, false] (mkSt [(3, one (Cell.ptr 0 0)), (4, one (Cell.ptr 1 0)), (6, one (Cell.ptr 2 0)), (16, one (Cell.ptr 3 0)), (19, one (cI v18)), (24, one (cI r25)), (25, one (Cell.ptr 3 3)), (28, one (cI v24))] [] [(0, (bx v21 v22 v23 v24)), (1, (bx 0 0 0 0)), (2, (bx 0 0 0 0)), (3, (bx v17 v18 v19 v20))] 4) := by
        refine hI _ _ _ ?_
        refine A.all [1, 10] (by kernel_rfl) rfl ⟨⟨_, rfl, ?_⟩, ⟨_, rfl, ?_⟩, trivial⟩
        · refine L.loadPtr shape3 hF rfl rfl rfl rfl rfl rfl ?_
          exact L.nil (A.on (hO _ _ _ n39935) (Le.mk [(0, 0), (1, 1), (2, 2), (3, 3)] hm rfl (S8 rfl rfl rfl rfl rfl rfl rfl rfl rfl rfl rfl rfl rfl rfl rfl rfl) trivial (B4 rfl rfl rfl rfl rfl rfl rfl rfl rfl rfl rfl rfl)))
        · refine L.loadPtr shape3 hF rfl rfl rfl rfl rfl rfl ?_
          exact L.nil (A.on (hO _ _ _ n40957) (Le.mk [(0, 0), (1, 1), (2, 2), (3, 3)] hm rfl (S8 rfl rfl rfl rfl rfl rfl rfl rfl rfl rfl rfl rfl rfl rfl rfl rfl) trivial (B4 rfl rfl rfl rfl rfl rfl rfl rfl rfl rfl rfl rfl)))
      have n35831 : W 6 #[true, true, true, false, true, true, true, true, true, true, false, true, false, false, false, true, false] (mkSt [(3, one (Cell.ptr 0 0)), (4, one (Cell.ptr 1 0)), (6, one (Cell.ptr 2 0)), (17, one (cI v17)), (18, one (Cell.ptr 3 1)), (24, one (cI r25)), (25, one (Cell.ptr 3 3)), (27, one (Cell.ptr 0 3))] [] [(0, (bx v21 v22 v23 v24)), (1, (bx 0 0 0 0)), (2, (bx 0 0 0 0)), (3, (bx v17 v18 v19 v20))] 4) := by
        refine hI _ _ _ ?_
        refine A.all [3, 10, 12] (by kernel_rfl) rfl ⟨⟨_, rfl, ?_⟩, ⟨_, rfl, ?_⟩, ⟨_, rfl, ?_⟩, trivial⟩
        · refine L.loadPtr shape3 hF rfl rfl rfl rfl rfl rfl ?_
          exact L.nil (A.on (hO _ _ _ n35839) (Le.mk [(0, 0), (1, 1), (2, 2), (3, 3)] hm rfl (S8 rfl rfl rfl rfl rfl rfl rfl rfl rfl rfl rfl rfl rfl rfl rfl rfl) trivial (B4 rfl rfl rfl rfl rfl rfl rfl rfl rfl rfl rfl rfl)))
        · refine L.loadPtr shape3 hF rfl rfl rfl rfl rfl rfl ?_
          exact L.nil (A.on (hO _ _ _ n36855) (Le.mk [(0, 0), (1, 1), (2, 2), (3, 3)] hm rfl (S8 rfl rfl rfl rfl rfl rfl rfl rfl rfl rfl rfl rfl rfl rfl rfl rfl) trivial (B4 rfl rfl rfl rfl rfl rfl rfl rfl rfl rfl rfl rfl)))
        · refine L.loadPtr shape3 hF rfl rfl rfl rfl rfl rfl ?_
          exact L.nil (A.on (hO _ _ _ n39927) (Le.mk [(0, 0), (1, 1), (2, 2), (3, 3)] hm rfl (S8 rfl rfl rfl rfl rfl rfl rfl rfl rfl rfl rfl rfl rfl rfl rfl rfl) trivial (B4 rfl rfl rfl rfl rfl rfl rfl rfl rfl rfl rfl rfl)))
      have n35837 : W 6 #[true, false, true, true, true, true, true, true, true, true, false, true, false, false, false, true, false] (mkSt [(3, one (Cell.ptr 0 0)), (4, one (Cell.ptr 1 0)), (6, one (Cell.ptr 2 0)), (16, one (Cell.ptr 3 0)), (19, one (cI v18)), (24, one (cI r25)), (25, one (Cell.ptr 3 3)), (27, one (Cell.ptr 0 3))] [] [(0, (bx v21 v22 v23 v24)), (1, (bx 0 0 0 0)), (2, (bx 0 0 0 0)), (3, (bx v17 v18 v19 v20))] 4) := by
        refine hI _ _ _ ?_
        refine A.all [1, 10, 12] (by kernel_rfl) rfl ⟨⟨_, rfl, ?_⟩, ⟨_, rfl, ?_⟩, ⟨_, rfl, ?_⟩, trivial⟩
        · refine L.loadPtr shape3 hF rfl rfl rfl rfl rfl rfl ?_
          exact L.nil (A.on (hO _ _ _ n35839) (Le.mk [(0, 0), (1, 1), (2, 2), (3, 3)] hm rfl (S8 rfl rfl rfl rfl rfl rfl rfl rfl rfl rfl rfl rfl rfl rfl rfl rfl) trivial (B4 rfl rfl rfl rfl rfl rfl rfl rfl rfl rfl rfl rfl)))
        · refine L.loadPtr shape3 hF rfl rfl rfl rfl rfl rfl ?_
          exact L.nil (A.on (hO _ _ _ n36861) (Le.mk [(0, 0), (1, 1), (2, 2), (3, 3)] hm rfl (S8 rfl rfl rfl rfl rfl rfl rfl rfl rfl rfl rfl rfl rfl rfl rfl rfl) trivial (B4 rfl rfl rfl rfl rfl rfl rfl rfl rfl rfl rfl rfl)))
        · refine L.loadPtr shape3 hF rfl rfl rfl rfl rfl rfl ?_
          exact L.nil (A.on (hO _ _ _ n39933) (Le.mk [(0, 0), (1, 1), (2, 2), (3, 3)] hm rfl (S8 rfl rfl rfl rfl rfl rfl rfl rfl rfl rfl rfl rfl rfl rfl rfl rfl) trivial (B4 rfl rfl rfl rfl rfl rfl rfl rfl rfl rfl rfl rfl)))
      have n4087 : W 6 #[true, true, true, false, true, true, true, true, true, true, true, true, false, false, false, false, false] (mkSt [(3, one (Cell.ptr 0 0)), (4, one (Cell.ptr 1 0)), (17, one (cI v17)), (18, one (Cell.ptr 2 1)), (24, one (cI r25)), (26, one (cI v20)), (27, one (Cell.ptr 0 3))] [] [(0, (bx v21 v22 v23 v24)), (1, (bx 0 0 0 0)), (2, (bx v17 v18 v19 v20))] 3) := by
        refine hI _ _ _ ?_
        refine A.all [3, 12, 15] (by kernel_rfl) rfl ⟨⟨_, rfl, ?_⟩, ⟨_, rfl, ?_⟩, ⟨_, rfl, ?_⟩, trivial⟩
        · refine L.loadPtr shape3 hF rfl rfl rfl rfl rfl rfl ?_
          exact L.nil (A.on (hO _ _ _ n4095) (Le.mk [(0, 0), (1, 1)] hm rfl (S7 rfl rfl rfl rfl rfl rfl rfl rfl rfl rfl rfl rfl rfl rfl) trivial (B2 rfl rfl rfl rfl rfl rfl)))
        · refine L.loadPtr shape3 hF rfl rfl rfl rfl rfl rfl ?_
          exact L.nil (A.on (hO _ _ _ n8183) (Le.mk [(0, 0), (1, 1), (2, 2)] hm rfl (S7 rfl rfl rfl rfl rfl rfl rfl rfl rfl rfl rfl rfl rfl rfl) trivial (B3 rfl rfl rfl rfl rfl rfl rfl rfl rfl)))
        · refine L.alloc 3 info25 rfl hF rfl rfl rfl rfl ?_
          exact L.nil (A.on (hO _ _ _ n36855) (Le.mk [(0, 0), (1, 1), (2, 3), (3, 2)] hm rfl (S8 rfl rfl rfl rfl rfl rfl rfl rfl rfl rfl rfl rfl rfl rfl rfl rfl) trivial (B4 rfl rfl rfl rfl rfl rfl rfl rfl rfl rfl rfl rfl)))
      have n40543 : W 6 #[true, true, true, true, true, false, true, false, false, true, true, true, true, false, false, true, false] (mkSt [(3, one (Cell.ptr 0 0)), (4, one (Cell.ptr 1 0)), (6, one (Cell.ptr 2 0)), (17, one (cI v17)), (19, one (cI v18)), (20, one (Cell.ptr 3 2)), (22, one (Cell.ptr 0 2)), (26, one (cI v20)), (28, one (cI v24))] [] [(0, (bx v21 v22 v23 v24)), (1, (bx 0 0 0 0)), (2, (bx 0 0 0 0)), (3, (bx v17 v18 v19 v20))] 4) := by
        refine hI _ _ _ ?_
        refine A.all [5, 7] (by kernel_rfl) rfl ⟨⟨_, rfl, ?_⟩, ⟨_, rfl, ?_⟩, trivial⟩
        · refine L.loadPtr shape3 hF rfl rfl rfl rfl rfl rfl ?_
          exact L.nil (A.on (hO _ _ _ n40575) (Le.mk [(0, 0), (1, 1), (2, 2)] hm rfl (S9 rfl rfl rfl rfl rfl rfl rfl rfl rfl rfl rfl rfl rfl rfl rfl rfl rfl rfl) trivial (B3 rfl rfl rfl rfl rfl rfl rfl rfl rfl)))
        · refine L.loadPtr shape3 hF rfl rfl rfl rfl rfl rfl ?_
          exact L.nil (A.on (hO _ _ _ n40671) (Le.mk [(0, 0), (1, 1), (2, 2), (3, 3)] hm rfl (S9 rfl rfl rfl rfl rfl rfl rfl rfl rfl rfl rfl rfl rfl rfl rfl rfl rfl rfl) trivial (B4 rfl rfl rfl rfl rfl rfl rfl rfl rfl rfl rfl rfl)))
      have n4093 : W 6 #[true, false, true, true, true, true, true, true, true, true, true, true, false, false, false, false, false] (mkSt [(3, one (Cell.ptr 0 0)), (4, one (Cell.ptr 1 0)), (16, one (Cell.ptr 2 0)), (19, one (cI v18)), (24, one (cI r25)), (26, one (cI v20)), (27, one (Cell.ptr 0 3))] [] [(0, (bx v21 v22 v23 v24)), (1, (bx 0 0 0 0)), (2, (bx v17 v18 v19 v20))] 3) := by
        refine hI _ _ _ ?_
        refine A.all [1, 12, 15] (by kernel_rfl) rfl ⟨⟨_, rfl, ?_⟩, ⟨_, rfl, ?_⟩, ⟨_, rfl, ?_⟩, trivial⟩
        · refine L.loadPtr shape3 hF rfl rfl rfl rfl rfl rfl ?_
          exact L.nil (A.on (hO _ _ _ n4095) (Le.mk [(0, 0), (1, 1)] hm rfl (S7 rfl rfl rfl rfl rfl rfl rfl rfl rfl rfl rfl rfl rfl rfl) trivial (B2 rfl rfl rfl rfl rfl rfl)))
        · refine L.loadPtr shape3 hF rfl rfl rfl rfl rfl rfl ?_
          exact L.nil (A.on (hO _ _ _ n8189) (Le.mk [(0, 0), (1, 1), (2, 2)] hm rfl (S7 rfl rfl rfl rfl rfl rfl rfl rfl rfl rfl rfl rfl rfl rfl) trivial (B3 rfl rfl rfl rfl rfl rfl rfl rfl rfl)))
        · refine L.alloc 3 info25 rfl hF rfl rfl rfl rfl ?_
          exact L.nil (A.on (hO _ _ _ n36861) (Le.mk [(0, 0), (1, 1), (2, 3), (3, 2)] hm rfl (S8 rfl rfl rfl rfl rfl rfl rfl rfl rfl rfl rfl rfl rfl rfl rfl rfl) trivial (B4 rfl rfl rfl rfl rfl rfl rfl rfl rfl rfl rfl rfl)))
      have n40567 : W 6 #[true, true, true, false, true, true, true, false, false, true, true, true, true, false, false, true, false] (mkSt [(3, one (Cell.ptr 0 0)), (4, one (Cell.ptr 1 0)), (6, one (Cell.ptr 2 0)), (17, one (cI v17)), (18, one (Cell.ptr 3 1)), (21, one (cI v19)), (22, one (Cell.ptr 0 2)), (26, one (cI v20)), (28, one (cI v24))] [] [(0, (bx v21 v22 v23 v24)), (1, (bx 0 0 0 0)), (2, (bx 0 0 0 0)), (3, (bx v17 v18 v19 v20))] 4) := by
        refine hI _ _ _ ?_
        refine A.all [3, 7] (by kernel_rfl) rfl ⟨⟨_, rfl, ?_⟩, ⟨_, rfl, ?_⟩, trivial⟩
        · refine L.loadPtr shape3 hF rfl rfl rfl rfl rfl rfl ?_
          exact L.nil (A.on (hO _ _ _ n40575) (Le.mk [(0, 0), (1, 1), (2, 2)] hm rfl (S9 rfl rfl rfl rfl rfl rfl rfl rfl rfl rfl rfl rfl rfl rfl rfl rfl rfl rfl) trivial (B3 rfl rfl rfl rfl rfl rfl rfl rfl rfl)))
        · refine L.loadPtr shape3 hF rfl rfl rfl rfl rfl rfl ?_
          exact L.nil (A.on (hO _ _ _ n40695) (Le.mk [(0, 0), (1, 1), (2, 2), (3, 3)] hm rfl (S9 rfl rfl rfl rfl rfl rfl rfl rfl rfl rfl rfl rfl rfl rfl rfl rfl rfl rfl) trivial (B4 rfl rfl rfl rfl rfl rfl rfl rfl rfl rfl rfl rfl)))
      have n40573 : W 6 #[true, false, true, true, true, true, true, false, false, true, true, true, true, false, false, true, false] (mkSt [(3, one (Cell.ptr 0 0)), (4, one (Cell.ptr 1 0)), (6, one (Cell.ptr 2 0)), (16, one (Cell.ptr 3 0)), (19, one (cI v18)), (21, one (cI v19)), (22, one (Cell.ptr 0 2)), (26, one (cI v20)), (28, one (cI v24))] [] [(0, (bx v21 v22 v23 v24)), (1, (bx 0 0 0 0)), (2, (bx 0 0 0 0)), (3, (bx v17 v18 v19 v20))] 4) := by
        refine hI _ _ _ ?_
        refine A.all [1, 7] (by kernel_rfl) rfl ⟨⟨_, rfl, ?_⟩, ⟨_, rfl, ?_⟩, trivial⟩
        · refine L.loadPtr shape3 hF rfl rfl rfl rfl rfl rfl ?_
          exact L.nil (A.on (hO _ _ _ n40575) (Le.mk [(0, 0), (1, 1), (2, 2)] hm rfl (S9 rfl rfl rfl rfl rfl rfl rfl rfl rfl rfl rfl rfl rfl rfl rfl rfl rfl rfl) trivial (B3 rfl rfl rfl rfl rfl rfl rfl rfl rfl)))
        · refine L.loadPtr shape3 hF rfl rfl rfl rfl rfl rfl ?_
          exact L.nil (A.on (hO _ _ _ n40701) (Le.mk [(0, 0), (1, 1), (2, 2), (3, 3)] hm rfl (S9 rfl rfl rfl rfl rfl rfl rfl rfl rfl rfl rfl rfl rfl rfl rfl rfl rfl rfl) trivial (B4 rfl rfl rfl rfl rfl rfl rfl rfl rfl rfl rfl rfl)))
      have n39551 : W 6 #[true, true, true, true, true, true, true, false, false, true, false, true, true, false, false, true, false] (mkSt [(3, one (Cell.ptr 0 0)), (4, one (Cell.ptr 1 0)), (6, one (Cell.ptr 2 0)), (17, one (cI v17)), (19, one (cI v18)), (21, one (cI v19)), (22, one (Cell.ptr 0 2)), (25, one (Cell.ptr 3 3)), (28, one (cI v24))] [] [(0, (bx v21 v22 v23 v24)), (1, (bx 0 0 0 0)), (2, (bx 0 0 0 0)), (3, (bx v17 v18 v19 v20))] 4) := by
        refine hI _ _ _ ?_
        refine A.all [7, 10] (by kernel_rfl) rfl ⟨⟨_, rfl, ?_⟩, ⟨_, rfl, ?_⟩, trivial⟩
        · refine L.loadPtr shape3 hF rfl rfl rfl rfl rfl rfl ?_
          exact L.nil (A.on (hO _ _ _ n39679) (Le.mk [(0, 0), (1, 1), (2, 2), (3, 3)] hm rfl (S9 rfl rfl rfl rfl rfl rfl rfl rfl rfl rfl rfl rfl rfl rfl rfl rfl rfl rfl) trivial (B4 rfl rfl rfl rfl rfl rfl rfl rfl rfl rfl rfl rfl)))
        · refine L.loadPtr shape3 hF rfl rfl rfl rfl rfl rfl ?_
          exact L.nil (A.on (hO _ _ _ n40575) (Le.mk [(0, 0), (1, 1), (2, 2)] hm rfl (S9 rfl rfl rfl rfl rfl rfl rfl rfl rfl rfl rfl rfl rfl rfl rfl rfl rfl rfl) trivial (B3 rfl rfl rfl rfl rfl rfl rfl rfl rfl)))
      have n36479 : W 6 #[true, true, true, true, true, true, true, false, false, true, true, true, false, false, false, true, false] (mkSt [(3, one (Cell.ptr 0 0)), (4, one (Cell.ptr 1 0)), (6, one (Cell.ptr 2 0)), (17, one (cI v17)), (19, one (cI v18)), (21, one (cI v19)), (22, one (Cell.ptr 0 2)), (26, one (cI v20)), (27, one (Cell.ptr 0 3))] [] [(0, (bx v21 v22 v23 v24)), (1, (bx 0 0 0 0)), (2, (bx 0 0 0 0))] 3) := by
        refine hI _ _ _ ?_
        refine A.all [7, 12] (by kernel_rfl) rfl ⟨⟨_, rfl, ?_⟩, ⟨_, rfl, ?_⟩, trivial⟩
        · refine L.loadPtr shape3 hF rfl rfl rfl rfl rfl rfl ?_
          exact L.nil (A.on (hO _ _ _ n36607) (Le.mk [(0, 0), (1, 1), (2, 2)] hm rfl (S9 rfl rfl rfl rfl rfl rfl rfl rfl rfl rfl rfl rfl rfl rfl rfl rfl rfl rfl) trivial (B3 rfl rfl rfl rfl rfl rfl rfl rfl rfl)))
        · refine L.loadPtr shape3 hF rfl rfl rfl rfl rfl rfl ?_
          exact L.nil (A.on (hO _ _ _ n40575) (Le.mk [(0, 0), (1, 1), (2, 2)] hm rfl (S9 rfl rfl rfl rfl rfl rfl rfl rfl rfl rfl rfl rfl rfl rfl rfl rfl rfl rfl) trivial (B3 rfl rfl rfl rfl rfl rfl rfl rfl rfl)))
      have n7807 : W 6 #[true, true, true, true, true, true, true, false, false, true, true, true, true, false, false, false, false] (mkSt [(3, one (Cell.ptr 0 0)), (4, one (Cell.ptr 1 0)), (17, one (cI v17)), (19, one (cI v18)), (21, one (cI v19)), (22, one (Cell.ptr 0 2)), (26, one (cI v20)), (28, one (cI v24))] [] [(0, (bx v21 v22 v23 v24)), (1, (bx 0 0 0 0))] 2) := by
        refine hI _ _ _ ?_
        refine A.all [7, 15] (by kernel_rfl) rfl ⟨⟨_, rfl, ?_⟩, ⟨_, rfl, ?_⟩, trivial⟩
        · refine L.loadPtr shape3 hF rfl rfl rfl rfl rfl rfl ?_
          exact L.nil (A.on (hO _ _ _ n7935) (Le.mk [(0, 0), (1, 1)] hm rfl (S8 rfl rfl rfl rfl rfl rfl rfl rfl rfl rfl rfl rfl rfl rfl rfl rfl) trivial (B2 rfl rfl rfl rfl rfl rfl)))
        · refine L.alloc 2 info25 rfl hF rfl rfl rfl rfl ?_
          exact L.nil (A.on (hO _ _ _ n40575) (Le.mk [(0, 0), (1, 1), (2, 2)] hm rfl (S9 rfl rfl rfl rfl rfl rfl rfl rfl rfl rfl rfl rfl rfl rfl rfl rfl rfl rfl) trivial (B3 rfl rfl rfl rfl rfl rfl rfl rfl rfl)))
      have n7159 : W 6 #[true, true, true, false, true, true, true, true, true, true, false, true, true, false, false, false, false] (mkSt [(3, one (Cell.ptr 0 0)), (4, one (Cell.ptr 1 0)), (17, one (cI v17)), (18, one (Cell.ptr 2 1)), (24, one (cI r25)), (25, one (Cell.ptr 2 3)), (28, one (cI v24))] [] [(0, (bx v21 v22 v23 v24)), (1, (bx 0 0 0 0)), (2, (bx v17 v18 v19 v20))] 3) := by
        refine hI _ _ _ ?_
        refine A.all [3, 10, 15] (by kernel_rfl) rfl ⟨⟨_, rfl, ?_⟩, ⟨_, rfl, ?_⟩, ⟨_, rfl, ?_⟩, trivial⟩
        · refine L.loadPtr shape3 hF rfl rfl rfl rfl rfl rfl ?_
          exact L.nil (A.on (hO _ _ _ n7167) (Le.mk [(0, 0), (1, 1), (2, 2)] hm rfl (S7 rfl rfl rfl rfl rfl rfl rfl rfl rfl rfl rfl rfl rfl rfl) trivial (B3 rfl rfl rfl rfl rfl rfl rfl rfl rfl)))
        · refine L.loadPtr shape3 hF rfl rfl rfl rfl rfl rfl ?_
          exact L.nil (A.on (hO _ _ _ n8183) (Le.mk [(0, 0), (1, 1), (2, 2)] hm rfl (S7 rfl rfl rfl rfl rfl rfl rfl rfl rfl rfl rfl rfl rfl rfl) trivial (B3 rfl rfl rfl rfl rfl rfl rfl rfl rfl)))
        · refine L.alloc 3 info25 rfl hF rfl rfl rfl rfl ?_
          exact L.nil (A.on (hO _ _ _ n39927) (Le.mk [(0, 0), (1, 1), (2, 3), (3, 2)] hm rfl (S8 rfl rfl rfl rfl rfl rfl rfl rfl rfl rfl rfl rfl rfl rfl rfl rfl) trivial (B4 rfl rfl rfl rfl rfl rfl rfl rfl rfl rfl rfl rfl)))
      have n7165 : W 6 #[true, false, true, true, true, true, true, true, true, true, false, true, true, false, false, false, false] (mkSt [(3, one (Cell.ptr 0 0)), (4, one (Cell.ptr 1 0)), (16, one (Cell.ptr 2 0)), (19, one (cI v18)), (24, one (cI r25)), (25, one (Cell.ptr 2 3)), (28, one (cI v24))] [] [(0, (bx v21 v22 v23 v24)), (1, (bx 0 0 0 0)), (2, (bx v17 v18 v19 v20))] 3) := by
        refine hI _ _ _ ?_
        refine A.all [1, 10, 15] (by kernel_rfl) rfl ⟨⟨_, rfl, ?_⟩, ⟨_, rfl, ?_⟩, ⟨_, rfl, ?_⟩, trivial⟩
        · refine L.loadPtr shape3 hF rfl rfl rfl rfl rfl rfl ?_
          exact L.nil (A.on (hO _ _ _ n7167) (Le.mk [(0, 0), (1, 1), (2, 2)] hm rfl (S7 rfl rfl rfl rfl rfl rfl rfl rfl rfl rfl rfl rfl rfl rfl) trivial (B3 rfl rfl rfl rfl rfl rfl rfl rfl rfl)))
        · refine L.loadPtr shape3 hF rfl rfl rfl rfl rfl rfl ?_
          exact L.nil (A.on (hO _ _ _ n8189) (Le.mk [(0, 0), (1, 1), (2, 2)] hm rfl (S7 rfl rfl rfl rfl rfl rfl rfl rfl rfl rfl rfl rfl rfl rfl) trivial (B3 rfl rfl rfl rfl rfl rfl rfl rfl rfl)))
        · refine L.alloc 3 info25 rfl hF rfl rfl rfl rfl ?_
          exact L.nil (A.on (hO _ _ _ n39933) (Le.mk [(0, 0), (1, 1), (2, 3), (3, 2)] hm rfl (S8 rfl rfl rfl rfl rfl rfl rfl rfl rfl rfl rfl rfl rfl rfl rfl rfl) trivial (B4 rfl rfl rfl rfl rfl rfl rfl rfl rfl rfl rfl rfl)))
      have n40663 : W 6 #[true, true, true, false, true, false, true, true, false, true, true, true, true, false, false, true, false] (mkSt [(3, one (Cell.ptr 0 0)), (4, one (Cell.ptr 1 0)), (6, one (Cell.ptr 2 0)), (17, one (cI v17)), (18, one (Cell.ptr 3 1)), (20, one (Cell.ptr 3 2)), (23, one (cI v23)), (26, one (cI v20)), (28, one (cI v24))] [] [(0, (bx v21 v22 v23 v24)), (1, (bx 0 0 0 0)), (2, (bx 0 0 0 0)), (3, (bx v17 v18 v19 v20))] 4) := by
        refine hI _ _ _ ?_
        refine A.all [3, 5] (by kernel_rfl) rfl ⟨⟨_, rfl, ?_⟩, ⟨_, rfl, ?_⟩, trivial⟩
        · refine L.loadPtr shape3 hF rfl rfl rfl rfl rfl rfl ?_
          exact L.nil (A.on (hO _ _ _ n40671) (Le.mk [(0, 0), (1, 1), (2, 2), (3, 3)] hm rfl (S9 rfl rfl rfl rfl rfl rfl rfl rfl rfl rfl rfl rfl rfl rfl rfl rfl rfl rfl) trivial (B4 rfl rfl rfl rfl rfl rfl rfl rfl rfl rfl rfl rfl)))
        · refine L.loadPtr shape3 hF rfl rfl rfl rfl rfl rfl ?_
          exact L.nil (A.on (hO _ _ _ n40695) (Le.mk [(0, 0), (1, 1), (2, 2), (3, 3)] hm rfl (S9 rfl rfl rfl rfl rfl rfl rfl rfl rfl rfl rfl rfl rfl rfl rfl rfl rfl rfl) trivial (B4 rfl rfl rfl rfl rfl rfl rfl rfl rfl rfl rfl rfl)))
      have n40669 : W 6 #[true, false, true, true, true, false, true, true, false, true, true, true, true, false, false, true, false] (mkSt [(3, one (Cell.ptr 0 0)), (4, one (Cell.ptr 1 0)), (6, one (Cell.ptr 2 0)), (16, one (Cell.ptr 3 0)), (19, one (cI v18)), (20, one (Cell.ptr 3 2)), (23, one (cI v23)), (26, one (cI v20)), (28, one (cI v24))] [] [(0, (bx v21 v22 v23 v24)), (1, (bx 0 0 0 0)), (2, (bx 0 0 0 0)), (3, (bx v17 v18 v19 v20))] 4) := by
        refine hI _ _ _ ?_
        refine A.all [1, 5] (by kernel_rfl) rfl ⟨⟨_, rfl, ?_⟩, ⟨_, rfl, ?_⟩, trivial⟩
        · refine L.loadPtr shape3 hF rfl rfl rfl rfl rfl rfl ?_
          exact L.nil (A.on (hO _ _ _ n40671) (Le.mk [(0, 0), (1, 1), (2, 2), (3, 3)] hm rfl (S9 rfl rfl rfl rfl rfl rfl rfl rfl rfl rfl rfl rfl rfl rfl rfl rfl rfl rfl) trivial (B4 rfl rfl rfl rfl rfl rfl rfl rfl rfl rfl rfl rfl)))
        · refine L.loadPtr shape3 hF rfl rfl rfl rfl rfl rfl ?_
          exact L.nil (A.on (hO _ _ _ n40701) (Le.mk [(0, 0), (1, 1), (2, 2), (3, 3)] hm rfl (S9 rfl rfl rfl rfl rfl rfl rfl rfl rfl rfl rfl rfl rfl rfl rfl rfl rfl rfl) trivial (B4 rfl rfl rfl rfl rfl rfl rfl rfl rfl rfl rfl rfl)))
      have n39647 : W 6 #[true, true, true, true, true, false, true, true, false, true, false, true, true, false, false, true, false] (mkSt [(3, one (Cell.ptr 0 0)), (4, one (Cell.ptr 1 0)), (6, one (Cell.ptr 2 0)), (17, one (cI v17)), (19, one (cI v18)), (20, one (Cell.ptr 3 2)), (23, one (cI v23)), (25, one (Cell.ptr 3 3)), (28, one (cI v24))] [] [(0, (bx v21 v22 v23 v24)), (1, (bx 0 0 0 0)), (2, (bx 0 0 0 0)), (3, (bx v17 v18 v19 v20))] 4) := by
        refine hI _ _ _ ?_
        refine A.all [5, 10] (by kernel_rfl) rfl ⟨⟨_, rfl, ?_⟩, ⟨_, rfl, ?_⟩, trivial⟩
        · refine L.loadPtr shape3 hF rfl rfl rfl rfl rfl rfl ?_
          exact L.nil (A.on (hO _ _ _ n39679) (Le.mk [(0, 0), (1, 1), (2, 2), (3, 3)] hm rfl (S9 rfl rfl rfl rfl rfl rfl rfl rfl rfl rfl rfl rfl rfl rfl rfl rfl rfl rfl) trivial (B4 rfl rfl rfl rfl rfl rfl rfl rfl rfl rfl rfl rfl)))
        · refine L.loadPtr shape3 hF rfl rfl rfl rfl rfl rfl ?_
          exact L.nil (A.on (hO _ _ _ n40671) (Le.mk [(0, 0), (1, 1), (2, 2), (3, 3)] hm rfl (S9 rfl rfl rfl rfl rfl rfl rfl rfl rfl rfl rfl rfl rfl rfl rfl rfl rfl rfl) trivial (B4 rfl rfl rfl rfl rfl rfl rfl rfl rfl rfl rfl rfl)))
      have n36575 : W 6 #[true, true, true, true, true, false, true, true, false, true, true, true, false, false, false, true, false] (mkSt [(3, one (Cell.ptr 0 0)), (4, one (Cell.ptr 1 0)), (6, one (Cell.ptr 2 0)), (17, one (cI v17)), (19, one (cI v18)), (20, one (Cell.ptr 3 2)), (23, one (cI v23)), (26, one (cI v20)), (27, one (Cell.ptr 0 3))] [] [(0, (bx v21 v22 v23 v24)), (1, (bx 0 0 0 0)), (2, (bx 0 0 0 0)), (3, (bx v17 v18 v19 v20))] 4) := by
        refine hI _ _ _ ?_
        refine A.all [5, 12] (by kernel_rfl) rfl ⟨⟨_, rfl, ?_⟩, ⟨_, rfl, ?_⟩, trivial⟩
        · refine L.loadPtr shape3 hF rfl rfl rfl rfl rfl rfl ?_
          exact L.nil (A.on (hO _ _ _ n36607) (Le.mk [(0, 0), (1, 1), (2, 2)] hm rfl (S9 rfl rfl rfl rfl rfl rfl rfl rfl rfl rfl rfl rfl rfl rfl rfl rfl rfl rfl) trivial (B3 rfl rfl rfl rfl rfl rfl rfl rfl rfl)))
        · refine L.loadPtr shape3 hF rfl rfl rfl rfl rfl rfl ?_
          exact L.nil (A.on (hO _ _ _ n40671) (Le.mk [(0, 0), (1, 1), (2, 2), (3, 3)] hm rfl (S9 rfl rfl rfl rfl rfl rfl rfl rfl rfl rfl rfl rfl rfl rfl rfl rfl rfl rfl) trivial (B4 rfl rfl rfl rfl rfl rfl rfl rfl rfl rfl rfl rfl)))
      have n7903 : W 6 #[true, true, true, true, true, false, true, true, false, true, true, true, true, false, false, false, false] (mkSt [(3, one (Cell.ptr 0 0)), (4, one (Cell.ptr 1 0)), (17, one (cI v17)), (19, one (cI v18)), (20, one (Cell.ptr 2 2)), (23, one (cI v23)), (26, one (cI v20)), (28, one (cI v24))] [] [(0, (bx v21 v22 v23 v24)), (1, (bx 0 0 0 0)), (2, (bx v17 v18 v19 v20))] 3) := by
        refine hI _ _ _ ?_
        refine A.all [5, 15] (by kernel_rfl) rfl ⟨⟨_, rfl, ?_⟩, ⟨_, rfl, ?_⟩, trivial⟩
        · refine L.loadPtr shape3 hF rfl rfl rfl rfl rfl rfl ?_
          exact L.nil (A.on (hO _ _ _ n7935) (Le.mk [(0, 0), (1, 1)] hm rfl (S8 rfl rfl rfl rfl rfl rfl rfl rfl rfl rfl rfl rfl rfl rfl rfl rfl) trivial (B2 rfl rfl rfl rfl rfl rfl)))
        · refine L.alloc 3 info25 rfl hF rfl rfl rfl rfl ?_
          exact L.nil (A.on (hO _ _ _ n40671) (Le.mk [(0, 0), (1, 1), (2, 3), (3, 2)] hm rfl (S9 rfl rfl rfl rfl rfl rfl rfl rfl rfl rfl rfl rfl rfl rfl rfl rfl rfl rfl) trivial (B4 rfl rfl rfl rfl rfl rfl rfl rfl rfl rfl rfl rfl)))
      have n40693 : W 6 #[true, false, true, false, true, true, true, true, false, true, true, true, true, false, false, true, false] (mkSt [(3, one (Cell.ptr 0 0)), (4, one (Cell.ptr 1 0)), (6, one (Cell.ptr 2 0)), (16, one (Cell.ptr 3 0)), (18, one (Cell.ptr 3 1)), (21, one (cI v19)), (23, one (cI v23)), (26, one (cI v20)), (28, one (cI v24))] [] [(0, (bx v21 v22 v23 v24)), (1, (bx 0 0 0 0)), (2, (bx 0 0 0 0)), (3, (bx v17 v18 v19 v20))] 4) := by
        refine hI _ _ _ ?_
        refine A.all [1, 3, 8] (by kernel_rfl) rfl ⟨⟨_, rfl, ?_⟩, ⟨_, rfl, ?_⟩, ⟨_, rfl, ?_⟩, trivial⟩
        · refine L.loadPtr shape3 hF rfl rfl rfl rfl rfl rfl ?_
          exact L.nil (A.on (hO _ _ _ n40695) (Le.mk [(0, 0), (1, 1), (2, 2), (3, 3)] hm rfl (S9 rfl rfl rfl rfl rfl rfl rfl rfl rfl rfl rfl rfl rfl rfl rfl rfl rfl rfl) trivial (B4 rfl rfl rfl rfl rfl rfl rfl rfl rfl rfl rfl rfl)))
        · refine L.loadPtr shape3 hF rfl rfl rfl rfl rfl rfl ?_
          exact L.nil (A.on (hO _ _ _ n40701) (Le.mk [(0, 0), (1, 1), (2, 2), (3, 3)] hm rfl (S9 rfl rfl rfl rfl rfl rfl rfl rfl rfl rfl rfl rfl rfl rfl rfl rfl rfl rfl) trivial (B4 rfl rfl rfl rfl rfl rfl rfl rfl rfl rfl rfl rfl)))
        · refine L.call [false, false] [] [] 4 hF rfl rfl rfl ent94 rfl rfl rfl rfl rfl (Fspec_l16Least_gives kj2  v19 v23 r25 hr25) rfl ?_
          exact L.nil (A.on (hO _ _ _ n40949) (Le.mk [(0, 0), (1, 1), (2, 2), (3, 3)] hm rfl (S8 rfl rfl rfl rfl rfl rfl rfl rfl rfl rfl rfl rfl rfl rfl rfl rfl) trivial (B4 rfl rfl rfl rfl rfl rfl rfl rfl rfl rfl rfl rfl)))
      have n39671 : W 6 #[true, true, true, false, true, true, true, true, false, true, false, true, true, false, false, true, false] (mkSt [(3, one (Cell.ptr 0 0)), (4, one (Cell.ptr 1 0)), (6, one (Cell.ptr 2 0)), (17, one (cI v17)), (18, one (Cell.ptr 3 1)), (21, one (cI v19)), (23, one (cI v23)), (25, one (Cell.ptr 3 3)), (28, one (cI v24))] [] [(0, (bx v21 v22 v23 v24)), (1, (bx 0 0 0 0)), (2, (bx 0 0 0 0)), (3, (bx v17 v18 v19 v20))] 4) := by
        refine hI _ _ _ ?_
        refine A.all [3, 8, 10] (by kernel_rfl) rfl ⟨⟨_, rfl, ?_⟩, ⟨_, rfl, ?_⟩, ⟨_, rfl, ?_⟩, trivial⟩
        · refine L.loadPtr shape3 hF rfl rfl rfl rfl rfl rfl ?_
          exact L.nil (A.on (hO _ _ _ n39679) (Le.mk [(0, 0), (1, 1), (2, 2), (3, 3)] hm rfl (S9 rfl rfl rfl rfl rfl rfl rfl rfl rfl rfl rfl rfl rfl rfl rfl rfl rfl rfl) trivial (B4 rfl rfl rfl rfl rfl rfl rfl rfl rfl rfl rfl rfl)))
        · refine L.call [false, false] [] [] 4 hF rfl rfl rfl ent94 rfl rfl rfl rfl rfl (Fspec_l16Least_gives kj2  v19 v23 r25 hr25) rfl ?_
          exact L.nil (A.on (hO _ _ _ n39927) (Le.mk [(0, 0), (1, 1), (2, 2), (3, 3)] hm rfl (S8 rfl rfl rfl rfl rfl rfl rfl rfl rfl rfl rfl rfl rfl rfl rfl rfl) trivial (B4 rfl rfl rfl rfl rfl rfl rfl rfl rfl rfl rfl rfl)))
        · refine L.loadPtr shape3 hF rfl rfl rfl rfl rfl rfl ?_
          exact L.nil (A.on (hO _ _ _ n40695) (Le.mk [(0, 0), (1, 1), (2, 2), (3, 3)] hm rfl (S9 rfl rfl rfl rfl rfl rfl rfl rfl rfl rfl rfl rfl rfl rfl rfl rfl rfl rfl) trivial (B4 rfl rfl rfl rfl rfl rfl rfl rfl rfl rfl rfl rfl)))
      have n36599 : W 6 #[true, true, true, false, true, true, true, true, false, true, true, true, false, false, false, true, false] (mkSt [(3, one (Cell.ptr 0 0)), (4, one (Cell.ptr 1 0)), (6, one (Cell.ptr 2 0)), (17, one (cI v17)), (18, one (Cell.ptr 3 1)), (21, one (cI v19)), (23, one (cI v23)), (26, one (cI v20)), (27, one (Cell.ptr 0 3))] [] [(0, (bx v21 v22 v23 v24)), (1, (bx 0 0 0 0)), (2, (bx 0 0 0 0)), (3, (bx v17 v18 v19 v20))] 4) := by
        refine hI _ _ _ ?_
        refine A.all [3, 8, 12] (by kernel_rfl) rfl ⟨⟨_, rfl, ?_⟩, ⟨_, rfl, ?_⟩, ⟨_, rfl, ?_⟩, trivial⟩
        · refine L.loadPtr shape3 hF rfl rfl rfl rfl rfl rfl ?_
          exact L.nil (A.on (hO _ _ _ n36607) (Le.mk [(0, 0), (1, 1), (2, 2)] hm rfl (S9 rfl rfl rfl rfl rfl rfl rfl rfl rfl rfl rfl rfl rfl rfl rfl rfl rfl rfl) trivial (B3 rfl rfl rfl rfl rfl rfl rfl rfl rfl)))
        · refine L.call [false, false] [] [] 4 hF rfl rfl rfl ent94 rfl rfl rfl rfl rfl (Fspec_l16Least_gives kj2  v19 v23 r25 hr25) rfl ?_
          exact L.nil (A.on (hO _ _ _ n36855) (Le.mk [(0, 0), (1, 1), (2, 2), (3, 3)] hm rfl (S8 rfl rfl rfl rfl rfl rfl rfl rfl rfl rfl rfl rfl rfl rfl rfl rfl) trivial (B4 rfl rfl rfl rfl rfl rfl rfl rfl rfl rfl rfl rfl)))
        · refine L.loadPtr shape3 hF rfl rfl rfl rfl rfl rfl ?_
          exact L.nil (A.on (hO _ _ _ n40695) (Le.mk [(0, 0), (1, 1), (2, 2), (3, 3)] hm rfl (S9 rfl rfl rfl rfl rfl rfl rfl rfl rfl rfl rfl rfl rfl rfl rfl rfl rfl rfl) trivial (B4 rfl rfl rfl rfl rfl rfl rfl rfl rfl rfl rfl rfl)))
      have n39677 : W 6 #[true, false, true, true, true, true, true, true, false, true, false, true, true, false, false, true, false] (mkSt [(3, one (Cell.ptr 0 0)), (4, one (Cell.ptr 1 0)), (6, one (Cell.ptr 2 0)), (16, one (Cell.ptr 3 0)), (19, one (cI v18)), (21, one (cI v19)), (23, one (cI v23)), (25, one (Cell.ptr 3 3)), (28, one (cI v24))] [] [(0, (bx v21 v22 v23 v24)), (1, (bx 0 0 0 0)), (2, (bx 0 0 0 0)), (3, (bx v17 v18 v19 v20))] 4) := by
        refine hI _ _ _ ?_
        refine A.all [1, 8, 10] (by kernel_rfl) rfl ⟨⟨_, rfl, ?_⟩, ⟨_, rfl, ?_⟩, ⟨_, rfl, ?_⟩, trivial⟩
        · refine L.loadPtr shape3 hF rfl rfl rfl rfl rfl rfl ?_
          exact L.nil (A.on (hO _ _ _ n39679) (Le.mk [(0, 0), (1, 1), (2, 2), (3, 3)] hm rfl (S9 rfl rfl rfl rfl rfl rfl rfl rfl rfl rfl rfl rfl rfl rfl rfl rfl rfl rfl) trivial (B4 rfl rfl rfl rfl rfl rfl rfl rfl rfl rfl rfl rfl)))
        · refine L.call [false, false] [] [] 4 hF rfl rfl rfl ent94 rfl rfl rfl rfl rfl (Fspec_l16Least_gives kj2  v19 v23 r25 hr25) rfl ?_
          exact L.nil (A.on (hO _ _ _ n39933) (Le.mk [(0, 0), (1, 1), (2, 2), (3, 3)] hm rfl (S8 rfl rfl rfl rfl rfl rfl rfl rfl rfl rfl rfl rfl rfl rfl rfl rfl) trivial (B4 rfl rfl rfl rfl rfl rfl rfl rfl rfl rfl rfl rfl)))
        · refine L.loadPtr shape3 hF rfl rfl rfl rfl rfl rfl ?_
          exact L.nil (A.on (hO _ _ _ n40701) (Le.mk [(0, 0), (1, 1), (2, 2), (3, 3)] hm rfl (S9 rfl rfl rfl rfl rfl rfl rfl rfl rfl rfl rfl rfl rfl rfl rfl rfl rfl rfl) trivial (B4 rfl rfl rfl rfl rfl rfl rfl rfl rfl rfl rfl rfl)))
      have n36605 : W 6 #[true, false, true, true, true, true, true, true, false, true, true, true, false, false, false, true, false] (mkSt [(3, one (Cell.ptr 0 0)), (4, one (Cell.ptr 1 0)), (6, one (Cell.ptr 2 0)), (16, one (Cell.ptr 3 0)), (19, one (cI v18)), (21, one (cI v19)), (23, one (cI v23)), (26, one (cI v20)), (27, one (Cell.ptr 0 3))] [] [(0, (bx v21 v22 v23 v24)), (1, (bx 0 0 0 0)), (2, (bx 0 0 0 0)), (3, (bx v17 v18 v19 v20))] 4) := by
        refine hI _ _ _ ?_
        refine A.all [1, 8, 12] (by kernel_rfl) rfl ⟨⟨_, rfl, ?_⟩, ⟨_, rfl, ?_⟩, ⟨_, rfl, ?_⟩, trivial⟩
        · refine L.loadPtr shape3 hF rfl rfl rfl rfl rfl rfl ?_
          exact L.nil (A.on (hO _ _ _ n36607) (Le.mk [(0, 0), (1, 1), (2, 2)] hm rfl (S9 rfl rfl rfl rfl rfl rfl rfl rfl rfl rfl rfl rfl rfl rfl rfl rfl rfl rfl) trivial (B3 rfl rfl rfl rfl rfl rfl rfl rfl rfl)))
        · refine L.call [false, false] [] [] 4 hF rfl rfl rfl ent94 rfl rfl rfl rfl rfl (Fspec_l16Least_gives kj2  v19 v23 r25 hr25) rfl ?_
          exact L.nil (A.on (hO _ _ _ n36861) (Le.mk [(0, 0), (1, 1), (2, 2), (3, 3)] hm rfl (S8 rfl rfl rfl rfl rfl rfl rfl rfl rfl rfl rfl rfl rfl rfl rfl rfl) trivial (B4 rfl rfl rfl rfl rfl rfl rfl rfl rfl rfl rfl rfl)))
        · refine L.loadPtr shape3 hF rfl rfl rfl rfl rfl rfl ?_
          exact L.nil (A.on (hO _ _ _ n40701) (Le.mk [(0, 0), (1, 1), (2, 2), (3, 3)] hm rfl (S9 rfl rfl rfl rfl rfl rfl rfl rfl rfl rfl rfl rfl rfl rfl rfl rfl rfl rfl) trivial (B4 rfl rfl rfl rfl rfl rfl rfl rfl rfl rfl rfl rfl)))
      have n35583 : W 6 #[true, true, true, true, true, true, true, true, false, true, false, true, false, false, false, true, false] (mkSt [(3, one (Cell.ptr 0 0)), (4, one (Cell.ptr 1 0)), (6, one (Cell.ptr 2 0)), (17, one (cI v17)), (19, one (cI v18)), (21, one (cI v19)), (23, one (cI v23)), (25, one (Cell.ptr 3 3)), (27, one (Cell.ptr 0 3))] [] [(0, (bx v21 v22 v23 v24)), (1, (bx 0 0 0 0)), (2, (bx 0 0 0 0)), (3, (bx v17 v18 v19 v20))] 4) := by
        refine hI _ _ _ ?_
        refine A.all [8, 10, 12] (by kernel_rfl) rfl ⟨⟨_, rfl, ?_⟩, ⟨_, rfl, ?_⟩, ⟨_, rfl, ?_⟩, trivial⟩
        · refine L.call [false, false] [] [] 4 hF rfl rfl rfl ent94 rfl rfl rfl rfl rfl (Fspec_l16Least_gives kj2  v19 v23 r25 hr25) rfl ?_
          exact L.nil (A.on (hO _ _ _ n35839) (Le.mk [(0, 0), (1, 1), (2, 2), (3, 3)] hm rfl (S8 rfl rfl rfl rfl rfl rfl rfl rfl rfl rfl rfl rfl rfl rfl rfl rfl) trivial (B4 rfl rfl rfl rfl rfl rfl rfl rfl rfl rfl rfl rfl)))
        · refine L.loadPtr shape3 hF rfl rfl rfl rfl rfl rfl ?_
          exact L.nil (A.on (hO _ _ _ n36607) (Le.mk [(0, 0), (1, 1), (2, 2)] hm rfl (S9 rfl rfl rfl rfl rfl rfl rfl rfl rfl rfl rfl rfl rfl rfl rfl rfl rfl rfl) trivial (B3 rfl rfl rfl rfl rfl rfl rfl rfl rfl)))
        · refine L.loadPtr shape3 hF rfl rfl rfl rfl rfl rfl ?_
          exact L.nil (A.on (hO _ _ _ n39679) (Le.mk [(0, 0), (1, 1), (2, 2), (3, 3)] hm rfl (S9 rfl rfl rfl rfl rfl rfl rfl rfl rfl rfl rfl rfl rfl rfl rfl rfl rfl rfl) trivial (B4 rfl rfl rfl rfl rfl rfl rfl rfl rfl rfl rfl rfl)))
      have n7933 : W 6 #[true, false, true, true, true, true, true, true, false, true, true, true, true, false, false, false, false] (mkSt [(3, one (Cell.ptr 0 0)), (4, one (Cell.ptr 1 0)), (16, one (Cell.ptr 2 0)), (19, one (cI v18)), (21, one (cI v19)), (23, one (cI v23)), (26, one (cI v20)), (28, one (cI v24))] [] [(0, (bx v21 v22 v23 v24)), (1, (bx 0 0 0 0)), (2, (bx v17 v18 v19 v20))] 3) := by
        refine hI _ _ _ ?_
        refine A.all [1, 8, 15] (by kernel_rfl) rfl ⟨⟨_, rfl, ?_⟩, ⟨_, rfl, ?_⟩, ⟨_, rfl, ?_⟩, trivial⟩
        · refine L.loadPtr shape3 hF rfl rfl rfl rfl rfl rfl ?_
          exact L.nil (A.on (hO _ _ _ n7935) (Le.mk [(0, 0), (1, 1)] hm rfl (S8 rfl rfl rfl rfl rfl rfl rfl rfl rfl rfl rfl rfl rfl rfl rfl rfl) trivial (B2 rfl rfl rfl rfl rfl rfl)))
        · refine L.call [false, false] [] [] 3 hF rfl rfl rfl ent94 rfl rfl rfl rfl rfl (Fspec_l16Least_gives kj2  v19 v23 r25 hr25) rfl ?_
          exact L.nil (A.on (hO _ _ _ n8189) (Le.mk [(0, 0), (1, 1), (2, 2)] hm rfl (S7 rfl rfl rfl rfl rfl rfl rfl rfl rfl rfl rfl rfl rfl rfl) trivial (B3 rfl rfl rfl rfl rfl rfl rfl rfl rfl)))
        · refine L.alloc 3 info25 rfl hF rfl rfl rfl rfl ?_
          exact L.nil (A.on (hO _ _ _ n40701) (Le.mk [(0, 0), (1, 1), (2, 3), (3, 2)] hm rfl (S9 rfl rfl rfl rfl rfl rfl rfl rfl rfl rfl rfl rfl rfl rfl rfl rfl rfl rfl) trivial (B4 rfl rfl rfl rfl rfl rfl rfl rfl rfl rfl rfl rfl)))
      have n6911 : W 6 #[true, true, true, true, true, true, true, true, false, true, false, true, true, false, false, false, false] (mkSt [(3, one (Cell.ptr 0 0)), (4, one (Cell.ptr 1 0)), (17, one (cI v17)), (19, one (cI v18)), (21, one (cI v19)), (23, one (cI v23)), (25, one (Cell.ptr 2 3)), (28, one (cI v24))] [] [(0, (bx v21 v22 v23 v24)), (1, (bx 0 0 0 0)), (2, (bx v17 v18 v19 v20))] 3) := by
        refine hI _ _ _ ?_
        refine A.all [8, 10, 15] (by kernel_rfl) rfl ⟨⟨_, rfl, ?_⟩, ⟨_, rfl, ?_⟩, ⟨_, rfl, ?_⟩, trivial⟩
        · refine L.call [false, false] [] [] 3 hF rfl rfl rfl ent94 rfl rfl rfl rfl rfl (Fspec_l16Least_gives kj2  v19 v23 r25 hr25) rfl ?_
          exact L.nil (A.on (hO _ _ _ n7167) (Le.mk [(0, 0), (1, 1), (2, 2)] hm rfl (S7 rfl rfl rfl rfl rfl rfl rfl rfl rfl rfl rfl rfl rfl rfl) trivial (B3 rfl rfl rfl rfl rfl rfl rfl rfl rfl)))
        · refine L.loadPtr shape3 hF rfl rfl rfl rfl rfl rfl ?_
          exact L.nil (A.on (hO _ _ _ n7935) (Le.mk [(0, 0), (1, 1)] hm rfl (S8 rfl rfl rfl rfl rfl rfl rfl rfl rfl rfl rfl rfl rfl rfl rfl rfl) trivial (B2 rfl rfl rfl rfl rfl rfl)))
        · refine L.alloc 3 info25 rfl hF rfl rfl rfl rfl ?_
          exact L.nil (A.on (hO _ _ _ n39679) (Le.mk [(0, 0), (1, 1), (2, 3), (3, 2)] hm rfl (S9 rfl rfl rfl rfl rfl rfl rfl rfl rfl rfl rfl rfl rfl rfl rfl rfl rfl rfl) trivial (B4 rfl rfl rfl rfl rfl rfl rfl rfl rfl rfl rfl rfl)))
      have n3839 : W 6 #[true, true, true, true, true, true, true, true, false, true, true, true, false, false, false, false, false] (mkSt [(3, one (Cell.ptr 0 0)), (4, one (Cell.ptr 1 0)), (17, one (cI v17)), (19, one (cI v18)), (21, one (cI v19)), (23, one (cI v23)), (26, one (cI v20)), (27, one (Cell.ptr 0 3))] [] [(0, (bx v21 v22 v23 v24)), (1, (bx 0 0 0 0))] 2) := by
        refine hI _ _ _ ?_
        refine A.all [8, 12, 15] (by kernel_rfl) rfl ⟨⟨_, rfl, ?_⟩, ⟨_, rfl, ?_⟩, ⟨_, rfl, ?_⟩, trivial⟩
        · refine L.call [false, false] [] [] 2 hF rfl rfl rfl ent94 rfl rfl rfl rfl rfl (Fspec_l16Least_gives kj2  v19 v23 r25 hr25) rfl ?_
          exact L.nil (A.on (hO _ _ _ n4095) (Le.mk [(0, 0), (1, 1)] hm rfl (S7 rfl rfl rfl rfl rfl rfl rfl rfl rfl rfl rfl rfl rfl rfl) trivial (B2 rfl rfl rfl rfl rfl rfl)))
        · refine L.loadPtr shape3 hF rfl rfl rfl rfl rfl rfl ?_
          exact L.nil (A.on (hO _ _ _ n7935) (Le.mk [(0, 0), (1, 1)] hm rfl (S8 rfl rfl rfl rfl rfl rfl rfl rfl rfl rfl rfl rfl rfl rfl rfl rfl) trivial (B2 rfl rfl rfl rfl rfl rfl)))
        · refine L.alloc 2 info25 rfl hF rfl rfl rfl rfl ?_
          exact L.nil (A.on (hO _ _ _ n36607) (Le.mk [(0, 0), (1, 1), (2, 2)] hm rfl (S9 rfl rfl rfl rfl rfl rfl rfl rfl rfl rfl rfl rfl rfl rfl rfl rfl rfl rfl) trivial (B3 rfl rfl rfl rfl rfl rfl rfl rfl rfl)))
      have n7927 : W 6 #[true, true, true, false, true, true, true, true, false, true, true, true, true, false, false, false, false] (mkSt [(3, one (Cell.ptr 0 0)), (4, one (Cell.ptr 1 0)), (17, one (cI v17)), (18, one (Cell.ptr 2 1)), (21, one (cI v19)), (23, one (cI v23)), (26, one (cI v20)), (28, one (cI v24))] [] [(0, (bx v21 v22 v23 v24)), (1, (bx 0 0 0 0)), (2, (bx v17 v18 v19 v20))] 3) := by
        refine hI _ _ _ ?_
        refine A.all [3, 8, 15] (by kernel_rfl) rfl ⟨⟨_, rfl, ?_⟩, ⟨_, rfl, ?_⟩, ⟨_, rfl, ?_⟩, trivial⟩
        · refine L.loadPtr shape3 hF rfl rfl rfl rfl rfl rfl ?_
          exact L.nil (A.on (hO _ _ _ n7935) (Le.mk [(0, 0), (1, 1)] hm rfl (S8 rfl rfl rfl rfl rfl rfl rfl rfl rfl rfl rfl rfl rfl rfl rfl rfl) trivial (B2 rfl rfl rfl rfl rfl rfl)))
        · refine L.call [false, false] [] [] 3 hF rfl rfl rfl ent94 rfl rfl rfl rfl rfl (Fspec_l16Least_gives kj2  v19 v23 r25 hr25) rfl ?_
          exact L.nil (A.on (hO _ _ _ n8183) (Le.mk [(0, 0), (1, 1), (2, 2)] hm rfl (S7 rfl rfl rfl rfl rfl rfl rfl rfl rfl rfl rfl rfl rfl rfl) trivial (B3 rfl rfl rfl rfl rfl rfl rfl rfl rfl)))
        · refine L.alloc 3 info25 rfl hF rfl rfl rfl rfl ?_
          exact L.nil (A.on (hO _ _ _ n40695) (Le.mk [(0, 0), (1, 1), (2, 3), (3, 2)] hm rfl (S9 rfl rfl rfl rfl rfl rfl rfl rfl rfl rfl rfl rfl rfl rfl rfl rfl rfl rfl) trivial (B4 rfl rfl rfl rfl rfl rfl rfl rfl rfl rfl rfl rfl)))
      have n3071 : W 6 #[true, true, true, true, true, true, true, true, true, true, false, true, false, false, false, false, false] (mkSt [(3, one (Cell.ptr 0 0)), (4, one (Cell.ptr 1 0)), (17, one (cI v17)), (19, one (cI v18)), (24, one (cI r25)), (25, one (Cell.ptr 2 3)), (27, one (Cell.ptr 0 3))] [] [(0, (bx v21 v22 v23 v24)), (1, (bx 0 0 0 0)), (2, (bx v17 v18 v19 v20))] 3) := by
        refine hI _ _ _ ?_
        refine A.all [10, 12, 15] (by kernel_rfl) rfl ⟨⟨_, rfl, ?_⟩, ⟨_, rfl, ?_⟩, ⟨_, rfl, ?_⟩, trivial⟩
        · refine L.loadPtr shape3 hF rfl rfl rfl rfl rfl rfl ?_
          exact L.nil (A.on (hO _ _ _ n4095) (Le.mk [(0, 0), (1, 1)] hm rfl (S7 rfl rfl rfl rfl rfl rfl rfl rfl rfl rfl rfl rfl rfl rfl) trivial (B2 rfl rfl rfl rfl rfl rfl)))
        · refine L.loadPtr shape3 hF rfl rfl rfl rfl rfl rfl ?_
          exact L.nil (A.on (hO _ _ _ n7167) (Le.mk [(0, 0), (1, 1), (2, 2)] hm rfl (S7 rfl rfl rfl rfl rfl rfl rfl rfl rfl rfl rfl rfl rfl rfl) trivial (B3 rfl rfl rfl rfl rfl rfl rfl rfl rfl)))
        · refine L.alloc 3 info25 rfl hF rfl rfl rfl rfl ?_
          exact L.nil (A.on (hO _ _ _ n35839) (Le.mk [(0, 0), (1, 1), (2, 3), (3, 2)] hm rfl (S8 rfl rfl rfl rfl rfl rfl rfl rfl rfl rfl rfl rfl rfl rfl rfl rfl) trivial (B4 rfl rfl rfl rfl rfl rfl rfl rfl rfl rfl rfl rfl)))
      have n39925 : W 6 #[true, false, true, false, true, true, true, true, true, true, false, true, true, false, false, true, false] (mkSt [(3, one (Cell.ptr 0 0)), (4, one (Cell.ptr 1 0)), (6, one (Cell.ptr 2 0)), (16, one (Cell.ptr 3 0)), (18, one (Cell.ptr 3 1)), (24, one (cI r25)), (25, one (Cell.ptr 3 3)), (28, one (cI v24))] [] [(0, (bx v21 v22 v23 v24)), (1, (bx 0 0 0 0)), (2, (bx 0 0 0 0)), (3, (bx v17 v18 v19 v20))] 4) := by
        refine hI _ _ _ ?_
        refine A.all [1, 3, 10] (by kernel_rfl) rfl ⟨⟨_, rfl, ?_⟩, ⟨_, rfl, ?_⟩, ⟨_, rfl, ?_⟩, trivial⟩
        · refine L.loadPtr shape3 hF rfl rfl rfl rfl rfl rfl ?_
          exact L.nil (A.on (hO _ _ _ n39927) (Le.mk [(0, 0), (1, 1), (2, 2), (3, 3)] hm rfl (S8 rfl rfl rfl rfl rfl rfl rfl rfl rfl rfl rfl rfl rfl rfl rfl rfl) trivial (B4 rfl rfl rfl rfl rfl rfl rfl rfl rfl rfl rfl rfl)))
        · refine L.loadPtr shape3 hF rfl rfl rfl rfl rfl rfl ?_
          exact L.nil (A.on (hO _ _ _ n39933) (Le.mk [(0, 0), (1, 1), (2, 2), (3, 3)] hm rfl (S8 rfl rfl rfl rfl rfl rfl rfl rfl rfl rfl rfl rfl rfl rfl rfl rfl) trivial (B4 rfl rfl rfl rfl rfl rfl rfl rfl rfl rfl rfl rfl)))
        · refine L.loadPtr shape3 hF rfl rfl rfl rfl rfl rfl ?_
          exact L.nil (A.on (hO _ _ _ n40949) (Le.mk [(0, 0), (1, 1), (2, 2), (3, 3)] hm rfl (S8 rfl rfl rfl rfl rfl rfl rfl rfl rfl rfl rfl rfl rfl rfl rfl rfl) trivial (B4 rfl rfl rfl rfl rfl rfl rfl rfl rfl rfl rfl rfl)))
      have n36853 : W 6 #[true, false, true, false, true, true, true, true, true, true, true, true, false, false, false, true, false] (mkSt [(3, one (Cell.ptr 0 0)), (4, one (Cell.ptr 1 0)), (6, one (Cell.ptr 2 0)), (16, one (Cell.ptr 3 0)), (18, one (Cell.ptr 3 1)), (24, one (cI r25)), (26, one (cI v20)), (27, one (Cell.ptr 0 3))] [] [(0, (bx v21 v22 v23 v24)), (1, (bx 0 0 0 0)), (2, (bx 0 0 0 0)), (3, (bx v17 v18 v19 v20))] 4) := by
        refine hI _ _ _ ?_
        refine A.all [1, 3, 12] (by kernel_rfl) rfl ⟨⟨_, rfl, ?_⟩, ⟨_, rfl, ?_⟩, ⟨_, rfl, ?_⟩, trivial⟩
        · refine L.loadPtr shape3 hF rfl rfl rfl rfl rfl rfl ?_
          exact L.nil (A.on (hO _ _ _ n36855) (Le.mk [(0, 0), (1, 1), (2, 2), (3, 3)] hm rfl (S8 rfl rfl rfl rfl rfl rfl rfl rfl rfl rfl rfl rfl rfl rfl rfl rfl) trivial (B4 rfl rfl rfl rfl rfl rfl rfl rfl rfl rfl rfl rfl)))
        · refine L.loadPtr shape3 hF rfl rfl rfl rfl rfl rfl ?_
          exact L.nil (A.on (hO _ _ _ n36861) (Le.mk [(0, 0), (1, 1), (2, 2), (3, 3)] hm rfl (S8 rfl rfl rfl rfl rfl rfl rfl rfl rfl rfl rfl rfl rfl rfl rfl rfl) trivial (B4 rfl rfl rfl rfl rfl rfl rfl rfl rfl rfl rfl rfl)))
        · refine L.loadPtr shape3 hF rfl rfl rfl rfl rfl rfl ?_
          exact L.nil (A.on (hO _ _ _ n40949) (Le.mk [(0, 0), (1, 1), (2, 2), (3, 3)] hm rfl (S8 rfl rfl rfl rfl rfl rfl rfl rfl rfl rfl rfl rfl rfl rfl rfl rfl) trivial (B4 rfl rfl rfl rfl rfl rfl rfl rfl rfl rfl rfl rfl)))
      have n8181 : W 6 #[true, false, true, false, true, true, true, true, true, true, true, true, true, false, false, false, false] (mkSt [(3, one (Cell.ptr 0 0)), (4, one (Cell.ptr 1 0)), (16, one (Cell.ptr 2 0)), (18, one (Cell.ptr 2 1)), (24, one (cI r25)), (26, one (cI v20)), (28, one (cI v24))] [] [(0, (bx v21 v22 v23 v24)), (1, (bx 0 0 0 0)), (2, (bx v17 v18 v19 v20))] 3) := by
        refine hI _ _ _ ?_
        refine A.all [1, 3, 13, 15] (by kernel_rfl) rfl ⟨⟨_, rfl, ?_⟩, ⟨_, rfl, ?_⟩, ⟨_, rfl, ?_⟩, ⟨_, rfl, ?_⟩, trivial⟩
        · refine L.loadPtr shape3 hF rfl rfl rfl rfl rfl rfl ?_
          exact L.nil (A.on (hO _ _ _ n8183) (Le.mk [(0, 0), (1, 1), (2, 2)] hm rfl (S7 rfl rfl rfl rfl rfl rfl rfl rfl rfl rfl rfl rfl rfl rfl) trivial (B3 rfl rfl rfl rfl rfl rfl rfl rfl rfl)))
        · refine L.loadPtr shape3 hF rfl rfl rfl rfl rfl rfl ?_
          exact L.nil (A.on (hO _ _ _ n8189) (Le.mk [(0, 0), (1, 1), (2, 2)] hm rfl (S7 rfl rfl rfl rfl rfl rfl rfl rfl rfl rfl rfl rfl rfl rfl) trivial (B3 rfl rfl rfl rfl rfl rfl rfl rfl rfl)))
        · refine L.call [false, false] [] [] 3 hF rfl rfl rfl ent94 rfl rfl rfl rfl rfl (Fspec_l16Least_gives kj2  v20 v24 r26 hr26) rfl ?_
          exact L.nil (A.on (hO _ _ _ n16373) (Le.mk [(0, 0), (1, 1), (2, 2)] hm rfl (S6 rfl rfl rfl rfl rfl rfl rfl rfl rfl rfl rfl rfl) trivial (B3 rfl rfl rfl rfl rfl rfl rfl rfl rfl)))
        · refine L.alloc 3 info25 rfl hF rfl rfl rfl rfl ?_
          exact L.nil (A.on (hO _ _ _ n40949) (Le.mk [(0, 0), (1, 1), (2, 3), (3, 2)] hm rfl (S8 rfl rfl rfl rfl rfl rfl rfl rfl rfl rfl rfl rfl rfl rfl rfl rfl) trivial (B4 rfl rfl rfl rfl rfl rfl rfl rfl rfl rfl rfl rfl)))
      have n3063 : W 7 #[true, true, true, false, true, true, true, true, true, true, false, true, false, false, false, false, false] (mkSt [(3, one (Cell.ptr 0 0)), (4, one (Cell.ptr 1 0)), (17, one (cI v17)), (18, one (Cell.ptr 2 1)), (24, one (cI r25)), (25, one (Cell.ptr 2 3)), (27, one (Cell.ptr 0 3))] [] [(0, (bx v21 v22 v23 v24)), (1, (bx 0 0 0 0)), (2, (bx v17 v18 v19 v20))] 3) := by
        refine hI _ _ _ ?_
        refine A.all [3, 10, 12, 15] (by kernel_rfl) rfl ⟨⟨_, rfl, ?_⟩, ⟨_, rfl, ?_⟩, ⟨_, rfl, ?_⟩, ⟨_, rfl, ?_⟩, trivial⟩
        · refine L.loadPtr shape3 hF rfl rfl rfl rfl rfl rfl ?_
          exact L.nil (A.on (hO _ _ _ n3071) (Le.mk [(0, 0), (1, 1), (2, 2)] hm rfl (S7 rfl rfl rfl rfl rfl rfl rfl rfl rfl rfl rfl rfl rfl rfl) trivial (B3 rfl rfl rfl rfl rfl rfl rfl rfl rfl)))
        · refine L.loadPtr shape3 hF rfl rfl rfl rfl rfl rfl ?_
          exact L.nil (A.on (hO _ _ _ n4087) (Le.mk [(0, 0), (1, 1), (2, 2)] hm rfl (S7 rfl rfl rfl rfl rfl rfl rfl rfl rfl rfl rfl rfl rfl rfl) trivial (B3 rfl rfl rfl rfl rfl rfl rfl rfl rfl)))
        · refine L.loadPtr shape3 hF rfl rfl rfl rfl rfl rfl ?_
          exact L.nil (A.on (hO _ _ _ n7159) (Le.mk [(0, 0), (1, 1), (2, 2)] hm rfl (S7 rfl rfl rfl rfl rfl rfl rfl rfl rfl rfl rfl rfl rfl rfl) trivial (B3 rfl rfl rfl rfl rfl rfl rfl rfl rfl)))
        · refine L.alloc 3 info25 rfl hF rfl rfl rfl rfl ?_
          exact L.nil (A.on (hO _ _ _ n35831) (Le.mk [(0, 0), (1, 1), (2, 3), (3, 2)] hm rfl (S8 rfl rfl rfl rfl rfl rfl rfl rfl rfl rfl rfl rfl rfl rfl rfl rfl) trivial (B4 rfl rfl rfl rfl rfl rfl rfl rfl rfl rfl rfl rfl)))
      have n4085 : W 7 #[true, false, true, false, true, true, true, true, true, true, true, true, false, false, false, false, false] (mkSt [(3, one (Cell.ptr 0 0)), (4, one (Cell.ptr 1 0)), (16, one (Cell.ptr 2 0)), (18, one (Cell.ptr 2 1)), (24, one (cI r25)), (26, one (cI v20)), (27, one (Cell.ptr 0 3))] [] [(0, (bx v21 v22 v23 v24)), (1, (bx 0 0 0 0)), (2, (bx v17 v18 v19 v20))] 3) := by
        refine hI _ _ _ ?_
        refine A.all [1, 3, 12, 15] (by kernel_rfl) rfl ⟨⟨_, rfl, ?_⟩, ⟨_, rfl, ?_⟩, ⟨_, rfl, ?_⟩, ⟨_, rfl, ?_⟩, trivial⟩
        · refine L.loadPtr shape3 hF rfl rfl rfl rfl rfl rfl ?_
          exact L.nil (A.on (hO _ _ _ n4087) (Le.mk [(0, 0), (1, 1), (2, 2)] hm rfl (S7 rfl rfl rfl rfl rfl rfl rfl rfl rfl rfl rfl rfl rfl rfl) trivial (B3 rfl rfl rfl rfl rfl rfl rfl rfl rfl)))
        · refine L.loadPtr shape3 hF rfl rfl rfl rfl rfl rfl ?_
          exact L.nil (A.on (hO _ _ _ n4093) (Le.mk [(0, 0), (1, 1), (2, 2)] hm rfl (S7 rfl rfl rfl rfl rfl rfl rfl rfl rfl rfl rfl rfl rfl rfl) trivial (B3 rfl rfl rfl rfl rfl rfl rfl rfl rfl)))
        · refine L.loadPtr shape3 hF rfl rfl rfl rfl rfl rfl ?_
          exact L.nil (A.on (hO _ _ _ n8181) (Le.mk [(0, 0), (1, 1), (2, 2)] hm rfl (S7 rfl rfl rfl rfl rfl rfl rfl rfl rfl rfl rfl rfl rfl rfl) trivial (B3 rfl rfl rfl rfl rfl rfl rfl rfl rfl)))
        · refine L.alloc 3 info25 rfl hF rfl rfl rfl rfl ?_
          exact L.nil (A.on (hO _ _ _ n36853) (Le.mk [(0, 0), (1, 1), (2, 3), (3, 2)] hm rfl (S8 rfl rfl rfl rfl rfl rfl rfl rfl rfl rfl rfl rfl rfl rfl rfl rfl) trivial (B4 rfl rfl rfl rfl rfl rfl rfl rfl rfl rfl rfl rfl)))
      have n3069 : W 7 #[true, false, true, true, true, true, true, true, true, true, false, true, false, false, false, false, false] (mkSt [(3, one (Cell.ptr 0 0)), (4, one (Cell.ptr 1 0)), (16, one (Cell.ptr 2 0)), (19, one (cI v18)), (24, one (cI r25)), (25, one (Cell.ptr 2 3)), (27, one (Cell.ptr 0 3))] [] [(0, (bx v21 v22 v23 v24)), (1, (bx 0 0 0 0)), (2, (bx v17 v18 v19 v20))] 3) := by
        refine hI _ _ _ ?_
        refine A.all [1, 10, 12, 15] (by kernel_rfl) rfl ⟨⟨_, rfl, ?_⟩, ⟨_, rfl, ?_⟩, ⟨_, rfl, ?_⟩, ⟨_, rfl, ?_⟩, trivial⟩
        · refine L.loadPtr shape3 hF rfl rfl rfl rfl rfl rfl ?_
          exact L.nil (A.on (hO _ _ _ n3071) (Le.mk [(0, 0), (1, 1), (2, 2)] hm rfl (S7 rfl rfl rfl rfl rfl rfl rfl rfl rfl rfl rfl rfl rfl rfl) trivial (B3 rfl rfl rfl rfl rfl rfl rfl rfl rfl)))
        · refine L.loadPtr shape3 hF rfl rfl rfl rfl rfl rfl ?_
          exact L.nil (A.on (hO _ _ _ n4093) (Le.mk [(0, 0), (1, 1), (2, 2)] hm rfl (S7 rfl rfl rfl rfl rfl rfl rfl rfl rfl rfl rfl rfl rfl rfl) trivial (B3 rfl rfl rfl rfl rfl rfl rfl rfl rfl)))
        · refine L.loadPtr shape3 hF rfl rfl rfl rfl rfl rfl ?_
          exact L.nil (A.on (hO _ _ _ n7165) (Le.mk [(0, 0), (1, 1), (2, 2)] hm rfl (S7 rfl rfl rfl rfl rfl rfl rfl rfl rfl rfl rfl rfl rfl rfl) trivial (B3 rfl rfl rfl rfl rfl rfl rfl rfl rfl)))
        · refine L.alloc 3 info25 rfl hF rfl rfl rfl rfl ?_
          exact L.nil (A.on (hO _ _ _ n35837) (Le.mk [(0, 0), (1, 1), (2, 3), (3, 2)] hm rfl (S8 rfl rfl rfl rfl rfl rfl rfl rfl rfl rfl rfl rfl rfl rfl rfl rfl) trivial (B4 rfl rfl rfl rfl rfl rfl rfl rfl rfl rfl rfl rfl)))
      have n40535 : W 7 #[true, true, true, false, true, false, true, false, false, true, true, true, true, false, false, true, false] (mkSt [(3, one (Cell.ptr 0 0)), (4, one (Cell.ptr 1 0)), (6, one (Cell.ptr 2 0)), (17, one (cI v17)), (18, one (Cell.ptr 3 1)), (20, one (Cell.ptr 3 2)), (22, one (Cell.ptr 0 2)), (26, one (cI v20)), (28, one (cI v24))] [] [(0, (bx v21 v22 v23 v24)), (1, (bx 0 0 0 0)), (2, (bx 0 0 0 0)), (3, (bx v17 v18 v19 v20))] 4) := by
        refine hI _ _ _ ?_
        refine A.all [3, 5, 7] (by kernel_rfl) rfl ⟨⟨_, rfl, ?_⟩, ⟨_, rfl, ?_⟩, ⟨_, rfl, ?_⟩, trivial⟩
        · refine L.loadPtr shape3 hF rfl rfl rfl rfl rfl rfl ?_
          exact L.nil (A.on (hO _ _ _ n40543) (Le.mk [(0, 0), (1, 1), (2, 2), (3, 3)] hm rfl (S9 rfl rfl rfl rfl rfl rfl rfl rfl rfl rfl rfl rfl rfl rfl rfl rfl rfl rfl) trivial (B4 rfl rfl rfl rfl rfl rfl rfl rfl rfl rfl rfl rfl)))
        · refine L.loadPtr shape3 hF rfl rfl rfl rfl rfl rfl ?_
          exact L.nil (A.on (hO _ _ _ n40567) (Le.mk [(0, 0), (1, 1), (2, 2), (3, 3)] hm rfl (S9 rfl rfl rfl rfl rfl rfl rfl rfl rfl rfl rfl rfl rfl rfl rfl rfl rfl rfl) trivial (B4 rfl rfl rfl rfl rfl rfl rfl rfl rfl rfl rfl rfl)))
        · refine L.loadPtr shape3 hF rfl rfl rfl rfl rfl rfl ?_
          exact L.nil (A.on (hO _ _ _ n40663) (Le.mk [(0, 0), (1, 1), (2, 2), (3, 3)] hm rfl (S9 rfl rfl rfl rfl rfl rfl rfl rfl rfl rfl rfl rfl rfl rfl rfl rfl rfl rfl) trivial (B4 rfl rfl rfl rfl rfl rfl rfl rfl rfl rfl rfl rfl)))
      have n39519 : W 7 #[true, true, true, true, true, false, true, false, false, true, false, true, true, false, false, true, false] (mkSt [(3, one (Cell.ptr 0 0)), (4, one (Cell.ptr 1 0)), (6, one (Cell.ptr 2 0)), (17, one (cI v17)), (19, one (cI v18)), (20, one (Cell.ptr 3 2)), (22, one (Cell.ptr 0 2)), (25, one (Cell.ptr 3 3)), (28, one (cI v24))] [] [(0, (bx v21 v22 v23 v24)), (1, (bx 0 0 0 0)), (2, (bx 0 0 0 0)), (3, (bx v17 v18 v19 v20))] 4) := by
        refine hI _ _ _ ?_
        refine A.all [5, 7, 10] (by kernel_rfl) rfl ⟨⟨_, rfl, ?_⟩, ⟨_, rfl, ?_⟩, ⟨_, rfl, ?_⟩, trivial⟩
        · refine L.loadPtr shape3 hF rfl rfl rfl rfl rfl rfl ?_
          exact L.nil (A.on (hO _ _ _ n39551) (Le.mk [(0, 0), (1, 1), (2, 2), (3, 3)] hm rfl (S9 rfl rfl rfl rfl rfl rfl rfl rfl rfl rfl rfl rfl rfl rfl rfl rfl rfl rfl) trivial (B4 rfl rfl rfl rfl rfl rfl rfl rfl rfl rfl rfl rfl)))
        · refine L.loadPtr shape3 hF rfl rfl rfl rfl rfl rfl ?_
          exact L.nil (A.on (hO _ _ _ n39647) (Le.mk [(0, 0), (1, 1), (2, 2), (3, 3)] hm rfl (S9 rfl rfl rfl rfl rfl rfl rfl rfl rfl rfl rfl rfl rfl rfl rfl rfl rfl rfl) trivial (B4 rfl rfl rfl rfl rfl rfl rfl rfl rfl rfl rfl rfl)))
        · refine L.loadPtr shape3 hF rfl rfl rfl rfl rfl rfl ?_
          exact L.nil (A.on (hO _ _ _ n40543) (Le.mk [(0, 0), (1, 1), (2, 2), (3, 3)] hm rfl (S9 rfl rfl rfl rfl rfl rfl rfl rfl rfl rfl rfl rfl rfl rfl rfl rfl rfl rfl) trivial (B4 rfl rfl rfl rfl rfl rfl rfl rfl rfl rfl rfl rfl)))
      have n40541 : W 7 #[true, false, true, true, true, false, true, false, false, true, true, true, true, false, false, true, false] (mkSt [(3, one (Cell.ptr 0 0)), (4, one (Cell.ptr 1 0)), (6, one (Cell.ptr 2 0)), (16, one (Cell.ptr 3 0)), (19, one (cI v18)), (20, one (Cell.ptr 3 2)), (22, one (Cell.ptr 0 2)), (26, one (cI v20)), (28, one (cI v24))] [] [(0, (bx v21 v22 v23 v24)), (1, (bx 0 0 0 0)), (2, (bx 0 0 0 0)), (3, (bx v17 v18 v19 v20))] 4) := by
        refine hI _ _ _ ?_
        refine A.all [1, 5, 7] (by kernel_rfl) rfl ⟨⟨_, rfl, ?_⟩, ⟨_, rfl, ?_⟩, ⟨_, rfl, ?_⟩, trivial⟩
        · refine L.loadPtr shape3 hF rfl rfl rfl rfl rfl rfl ?_
          exact L.nil (A.on (hO _ _ _ n40543) (Le.mk [(0, 0), (1, 1), (2, 2), (3, 3)] hm rfl (S9 rfl rfl rfl rfl rfl rfl rfl rfl rfl rfl rfl rfl rfl rfl rfl rfl rfl rfl) trivial (B4 rfl rfl rfl rfl rfl rfl rfl rfl rfl rfl rfl rfl)))
        · refine L.loadPtr shape3 hF rfl rfl rfl rfl rfl rfl ?_
          exact L.nil (A.on (hO _ _ _ n40573) (Le.mk [(0, 0), (1, 1), (2, 2), (3, 3)] hm rfl (S9 rfl rfl rfl rfl rfl rfl rfl rfl rfl rfl rfl rfl rfl rfl rfl rfl rfl rfl) trivial (B4 rfl rfl rfl rfl rfl rfl rfl rfl rfl rfl rfl rfl)))
        · refine L.loadPtr shape3 hF rfl rfl rfl rfl rfl rfl ?_
          exact L.nil (A.on (hO _ _ _ n40669) (Le.mk [(0, 0), (1, 1), (2, 2), (3, 3)] hm rfl (S9 rfl rfl rfl rfl rfl rfl rfl rfl rfl rfl rfl rfl rfl rfl rfl rfl rfl rfl) trivial (B4 rfl rfl rfl rfl rfl rfl rfl rfl rfl rfl rfl rfl)))
      have n36447 : W 7 #[true, true, true, true, true, false, true, false, false, true, true, true, false, false, false, true, false] (mkSt [(3, one (Cell.ptr 0 0)), (4, one (Cell.ptr 1 0)), (6, one (Cell.ptr 2 0)), (17, one (cI v17)), (19, one (cI v18)), (20, one (Cell.ptr 3 2)), (22, one (Cell.ptr 0 2)), (26, one (cI v20)), (27, one (Cell.ptr 0 3))] [] [(0, (bx v21 v22 v23 v24)), (1, (bx 0 0 0 0)), (2, (bx 0 0 0 0)), (3, (bx v17 v18 v19 v20))] 4) := by
        refine hI _ _ _ ?_
        refine A.all [5, 7, 12] (by kernel_rfl) rfl ⟨⟨_, rfl, ?_⟩, ⟨_, rfl, ?_⟩, ⟨_, rfl, ?_⟩, trivial⟩
        · refine L.loadPtr shape3 hF rfl rfl rfl rfl rfl rfl ?_
          exact L.nil (A.on (hO _ _ _ n36479) (Le.mk [(0, 0), (1, 1), (2, 2)] hm rfl (S9 rfl rfl rfl rfl rfl rfl rfl rfl rfl rfl rfl rfl rfl rfl rfl rfl rfl rfl) trivial (B3 rfl rfl rfl rfl rfl rfl rfl rfl rfl)))
        · refine L.loadPtr shape3 hF rfl rfl rfl rfl rfl rfl ?_
          exact L.nil (A.on (hO _ _ _ n36575) (Le.mk [(0, 0), (1, 1), (2, 2), (3, 3)] hm rfl (S9 rfl rfl rfl rfl rfl rfl rfl rfl rfl rfl rfl rfl rfl rfl rfl rfl rfl rfl) trivial (B4 rfl rfl rfl rfl rfl rfl rfl rfl rfl rfl rfl rfl)))
        · refine L.loadPtr shape3 hF rfl rfl rfl rfl rfl rfl ?_
          exact L.nil (A.on (hO _ _ _ n40543) (Le.mk [(0, 0), (1, 1), (2, 2), (3, 3)] hm rfl (S9 rfl rfl rfl rfl rfl rfl rfl rfl rfl rfl rfl rfl rfl rfl rfl rfl rfl rfl) trivial (B4 rfl rfl rfl rfl rfl rfl rfl rfl rfl rfl rfl rfl)))
      have n7775 : W 7 #[true, true, true, true, true, false, true, false, false, true, true, true, true, false, false, false, false] (mkSt [(3, one (Cell.ptr 0 0)), (4, one (Cell.ptr 1 0)), (17, one (cI v17)), (19, one (cI v18)), (20, one (Cell.ptr 2 2)), (22, one (Cell.ptr 0 2)), (26, one (cI v20)), (28, one (cI v24))] [] [(0, (bx v21 v22 v23 v24)), (1, (bx 0 0 0 0)), (2, (bx v17 v18 v19 v20))] 3) := by
        refine hI _ _ _ ?_
        refine A.all [5, 7, 15] (by kernel_rfl) rfl ⟨⟨_, rfl, ?_⟩, ⟨_, rfl, ?_⟩, ⟨_, rfl, ?_⟩, trivial⟩
        · refine L.loadPtr shape3 hF rfl rfl rfl rfl rfl rfl ?_
          exact L.nil (A.on (hO _ _ _ n7807) (Le.mk [(0, 0), (1, 1)] hm rfl (S8 rfl rfl rfl rfl rfl rfl rfl rfl rfl rfl rfl rfl rfl rfl rfl rfl) trivial (B2 rfl rfl rfl rfl rfl rfl)))
        · refine L.loadPtr shape3 hF rfl rfl rfl rfl rfl rfl ?_
          exact L.nil (A.on (hO _ _ _ n7903) (Le.mk [(0, 0), (1, 1), (2, 2)] hm rfl (S8 rfl rfl rfl rfl rfl rfl rfl rfl rfl rfl rfl rfl rfl rfl rfl rfl) trivial (B3 rfl rfl rfl rfl rfl rfl rfl rfl rfl)))
        · refine L.alloc 3 info25 rfl hF rfl rfl rfl rfl ?_
          exact L.nil (A.on (hO _ _ _ n40543) (Le.mk [(0, 0), (1, 1), (2, 3), (3, 2)] hm rfl (S9 rfl rfl rfl rfl rfl rfl rfl rfl rfl rfl rfl rfl rfl rfl rfl rfl rfl rfl) trivial (B4 rfl rfl rfl rfl rfl rfl rfl rfl rfl rfl rfl rfl)))
      have n39543 : W 7 #[true, true, true, false, true, true, true, false, false, true, false, true, true, false, false, true, false] (mkSt [(3, one (Cell.ptr 0 0)), (4, one (Cell.ptr 1 0)), (6, one (Cell.ptr 2 0)), (17, one (cI v17)), (18, one (Cell.ptr 3 1)), (21, one (cI v19)), (22, one (Cell.ptr 0 2)), (25, one (Cell.ptr 3 3)), (28, one (cI v24))] [] [(0, (bx v21 v22 v23 v24)), (1, (bx 0 0 0 0)), (2, (bx 0 0 0 0)), (3, (bx v17 v18 v19 v20))] 4) := by
        refine hI _ _ _ ?_
        refine A.all [3, 7, 10] (by kernel_rfl) rfl ⟨⟨_, rfl, ?_⟩, ⟨_, rfl, ?_⟩, ⟨_, rfl, ?_⟩, trivial⟩
        · refine L.loadPtr shape3 hF rfl rfl rfl rfl rfl rfl ?_
          exact L.nil (A.on (hO _ _ _ n39551) (Le.mk [(0, 0), (1, 1), (2, 2), (3, 3)] hm rfl (S9 rfl rfl rfl rfl rfl rfl rfl rfl rfl rfl rfl rfl rfl rfl rfl rfl rfl rfl) trivial (B4 rfl rfl rfl rfl rfl rfl rfl rfl rfl rfl rfl rfl)))
        · refine L.loadPtr shape3 hF rfl rfl rfl rfl rfl rfl ?_
          exact L.nil (A.on (hO _ _ _ n39671) (Le.mk [(0, 0), (1, 1), (2, 2), (3, 3)] hm rfl (S9 rfl rfl rfl rfl rfl rfl rfl rfl rfl rfl rfl rfl rfl rfl rfl rfl rfl rfl) trivial (B4 rfl rfl rfl rfl rfl rfl rfl rfl rfl rfl rfl rfl)))
        · refine L.loadPtr shape3 hF rfl rfl rfl rfl rfl rfl ?_
          exact L.nil (A.on (hO _ _ _ n40567) (Le.mk [(0, 0), (1, 1), (2, 2), (3, 3)] hm rfl (S9 rfl rfl rfl rfl rfl rfl rfl rfl rfl rfl rfl rfl rfl rfl rfl rfl rfl rfl) trivial (B4 rfl rfl rfl rfl rfl rfl rfl rfl rfl rfl rfl rfl)))
      have n40565 : W 7 #[true, false, true, false, true, true, true, false, false, true, true, true, true, false, false, true, false] (mkSt [(3, one (Cell.ptr 0 0)), (4, one (Cell.ptr 1 0)), (6, one (Cell.ptr 2 0)), (16, one (Cell.ptr 3 0)), (18, one (Cell.ptr 3 1)), (21, one (cI v19)), (22, one (Cell.ptr 0 2)), (26, one (cI v20)), (28, one (cI v24))] [] [(0, (bx v21 v22 v23 v24)), (1, (bx 0 0 0 0)), (2, (bx 0 0 0 0)), (3, (bx v17 v18 v19 v20))] 4) := by
        refine hI _ _ _ ?_
        refine A.all [1, 3, 7] (by kernel_rfl) rfl ⟨⟨_, rfl, ?_⟩, ⟨_, rfl, ?_⟩, ⟨_, rfl, ?_⟩, trivial⟩
        · refine L.loadPtr shape3 hF rfl rfl rfl rfl rfl rfl ?_
          exact L.nil (A.on (hO _ _ _ n40567) (Le.mk [(0, 0), (1, 1), (2, 2), (3, 3)] hm rfl (S9 rfl rfl rfl rfl rfl rfl rfl rfl rfl rfl rfl rfl rfl rfl rfl rfl rfl rfl) trivial (B4 rfl rfl rfl rfl rfl rfl rfl rfl rfl rfl rfl rfl)))
        · refine L.loadPtr shape3 hF rfl rfl rfl rfl rfl rfl ?_
          exact L.nil (A.on (hO _ _ _ n40573) (Le.mk [(0, 0), (1, 1), (2, 2), (3, 3)] hm rfl (S9 rfl rfl rfl rfl rfl rfl rfl rfl rfl rfl rfl rfl rfl rfl rfl rfl rfl rfl) trivial (B4 rfl rfl rfl rfl rfl rfl rfl rfl rfl rfl rfl rfl)))
        · refine L.loadPtr shape3 hF rfl rfl rfl rfl rfl rfl ?_
          exact L.nil (A.on (hO _ _ _ n40693) (Le.mk [(0, 0), (1, 1), (2, 2), (3, 3)] hm rfl (S9 rfl rfl rfl rfl rfl rfl rfl rfl rfl rfl rfl rfl rfl rfl rfl rfl rfl rfl) trivial (B4 rfl rfl rfl rfl rfl rfl rfl rfl rfl rfl rfl rfl)))
      have n39549 : W 7 #[true, false, true, true, true, true, true, false, false, true, false, true, true, false, false, true, false] (mkSt [(3, one (Cell.ptr 0 0)), (4, one (Cell.ptr 1 0)), (6, one (Cell.ptr 2 0)), (16, one (Cell.ptr 3 0)), (19, one (cI v18)), (21, one (cI v19)), (22, one (Cell.ptr 0 2)), (25, one (Cell.ptr 3 3)), (28, one (cI v24))] [] [(0, (bx v21 v22 v23 v24)), (1, (bx 0 0 0 0)), (2, (bx 0 0 0 0)), (3, (bx v17 v18 v19 v20))] 4) := by
        refine hI _ _ _ ?_
        refine A.all [1, 7, 10] (by kernel_rfl) rfl ⟨⟨_, rfl, ?_⟩, ⟨_, rfl, ?_⟩, ⟨_, rfl, ?_⟩, trivial⟩
        · refine L.loadPtr shape3 hF rfl rfl rfl rfl rfl rfl ?_
          exact L.nil (A.on (hO _ _ _ n39551) (Le.mk [(0, 0), (1, 1), (2, 2), (3, 3)] hm rfl (S9 rfl rfl rfl rfl rfl rfl rfl rfl rfl rfl rfl rfl rfl rfl rfl rfl rfl rfl) trivial (B4 rfl rfl rfl rfl rfl rfl rfl rfl rfl rfl rfl rfl)))
        · refine L.loadPtr shape3 hF rfl rfl rfl rfl rfl rfl ?_
          exact L.nil (A.on (hO _ _ _ n39677) (Le.mk [(0, 0), (1, 1), (2, 2), (3, 3)] hm rfl (S9 rfl rfl rfl rfl rfl rfl rfl rfl rfl rfl rfl rfl rfl rfl rfl rfl rfl rfl) trivial (B4 rfl rfl rfl rfl rfl rfl rfl rfl rfl rfl rfl rfl)))
        · refine L.loadPtr shape3 hF rfl rfl rfl rfl rfl rfl ?_
          exact L.nil (A.on (hO _ _ _ n40573) (Le.mk [(0, 0), (1, 1), (2, 2), (3, 3)] hm rfl (S9 rfl rfl rfl rfl rfl rfl rfl rfl rfl rfl rfl rfl rfl rfl rfl rfl rfl rfl) trivial (B4 rfl rfl rfl rfl rfl rfl rfl rfl rfl rfl rfl rfl)))
      have n36477 : W 7 #[true, false, true, true, true, true, true, false, false, true, true, true, false, false, false, true, false] (mkSt [(3, one (Cell.ptr 0 0)), (4, one (Cell.ptr 1 0)), (6, one (Cell.ptr 2 0)), (16, one (Cell.ptr 3 0)), (19, one (cI v18)), (21, one (cI v19)), (22, one (Cell.ptr 0 2)), (26, one (cI v20)), (27, one (Cell.ptr 0 3))] [] [(0, (bx v21 v22 v23 v24)), (1, (bx 0 0 0 0)), (2, (bx 0 0 0 0)), (3, (bx v17 v18 v19 v20))] 4) := by
        refine hI _ _ _ ?_
        refine A.all [1, 7, 12] (by kernel_rfl) rfl ⟨⟨_, rfl, ?_⟩, ⟨_, rfl, ?_⟩, ⟨_, rfl, ?_⟩, trivial⟩
        · refine L.loadPtr shape3 hF rfl rfl rfl rfl rfl rfl ?_
          exact L.nil (A.on (hO _ _ _ n36479) (Le.mk [(0, 0), (1, 1), (2, 2)] hm rfl (S9 rfl rfl rfl rfl rfl rfl rfl rfl rfl rfl rfl rfl rfl rfl rfl rfl rfl rfl) trivial (B3 rfl rfl rfl rfl rfl rfl rfl rfl rfl)))
        · refine L.loadPtr shape3 hF rfl rfl rfl rfl rfl rfl ?_
          exact L.nil (A.on (hO _ _ _ n36605) (Le.mk [(0, 0), (1, 1), (2, 2), (3, 3)] hm rfl (S9 rfl rfl rfl rfl rfl rfl rfl rfl rfl rfl rfl rfl rfl rfl rfl rfl rfl rfl) trivial (B4 rfl rfl rfl rfl rfl rfl rfl rfl rfl rfl rfl rfl)))
        · refine L.loadPtr shape3 hF rfl rfl rfl rfl rfl rfl ?_
          exact L.nil (A.on (hO _ _ _ n40573) (Le.mk [(0, 0), (1, 1), (2, 2), (3, 3)] hm rfl (S9 rfl rfl rfl rfl rfl rfl rfl rfl rfl rfl rfl rfl rfl rfl rfl rfl rfl rfl) trivial (B4 rfl rfl rfl rfl rfl rfl rfl rfl rfl rfl rfl rfl)))
      have n35455 : W 7 #[true, true, true, true, true, true, true, false, false, true, false, true, false, false, false, true, false] (mkSt [(3, one (Cell.ptr 0 0)), (4, one (Cell.ptr 1 0)), (6, one (Cell.ptr 2 0)), (17, one (cI v17)), (19, one (cI v18)), (21, one (cI v19)), (22, one (Cell.ptr 0 2)), (25, one (Cell.ptr 3 3)), (27, one (Cell.ptr 0 3))] [] [(0, (bx v21 v22 v23 v24)), (1, (bx 0 0 0 0)), (2, (bx 0 0 0 0)), (3, (bx v17 v18 v19 v20))] 4) := by
        refine hI _ _ _ ?_
        refine A.all [7, 10, 12] (by kernel_rfl) rfl ⟨⟨_, rfl, ?_⟩, ⟨_, rfl, ?_⟩, ⟨_, rfl, ?_⟩, trivial⟩
        · refine L.loadPtr shape3 hF rfl rfl rfl rfl rfl rfl ?_
          exact L.nil (A.on (hO _ _ _ n35583) (Le.mk [(0, 0), (1, 1), (2, 2), (3, 3)] hm rfl (S9 rfl rfl rfl rfl rfl rfl rfl rfl rfl rfl rfl rfl rfl rfl rfl rfl rfl rfl) trivial (B4 rfl rfl rfl rfl rfl rfl rfl rfl rfl rfl rfl rfl)))
        · refine L.loadPtr shape3 hF rfl rfl rfl rfl rfl rfl ?_
          exact L.nil (A.on (hO _ _ _ n36479) (Le.mk [(0, 0), (1, 1), (2, 2)] hm rfl (S9 rfl rfl rfl rfl rfl rfl rfl rfl rfl rfl rfl rfl rfl rfl rfl rfl rfl rfl) trivial (B3 rfl rfl rfl rfl rfl rfl rfl rfl rfl)))
        · refine L.loadPtr shape3 hF rfl rfl rfl rfl rfl rfl ?_
          exact L.nil (A.on (hO _ _ _ n39551) (Le.mk [(0, 0), (1, 1), (2, 2), (3, 3)] hm rfl (S9 rfl rfl rfl rfl rfl rfl rfl rfl rfl rfl rfl rfl rfl rfl rfl rfl rfl rfl) trivial (B4 rfl rfl rfl rfl rfl rfl rfl rfl rfl rfl rfl rfl)))
      have n7157 : W 7 #[true, false, true, false, true, true, true, true, true, true, false, true, true, false, false, false, false] (mkSt [(3, one (Cell.ptr 0 0)), (4, one (Cell.ptr 1 0)), (16, one (Cell.ptr 2 0)), (18, one (Cell.ptr 2 1)), (24, one (cI r25)), (25, one (Cell.ptr 2 3)), (28, one (cI v24))] [] [(0, (bx v21 v22 v23 v24)), (1, (bx 0 0 0 0)), (2, (bx v17 v18 v19 v20))] 3) := by
        refine hI _ _ _ ?_
        refine A.all [1, 3, 10, 15] (by kernel_rfl) rfl ⟨⟨_, rfl, ?_⟩, ⟨_, rfl, ?_⟩, ⟨_, rfl, ?_⟩, ⟨_, rfl, ?_⟩, trivial⟩
        · refine L.loadPtr shape3 hF rfl rfl rfl rfl rfl rfl ?_
          exact L.nil (A.on (hO _ _ _ n7159) (Le.mk [(0, 0), (1, 1), (2, 2)] hm rfl (S7 rfl rfl rfl rfl rfl rfl rfl rfl rfl rfl rfl rfl rfl rfl) trivial (B3 rfl rfl rfl rfl rfl rfl rfl rfl rfl)))
        · refine L.loadPtr shape3 hF rfl rfl rfl rfl rfl rfl ?_
          exact L.nil (A.on (hO _ _ _ n7165) (Le.mk [(0, 0), (1, 1), (2, 2)] hm rfl (S7 rfl rfl rfl rfl rfl rfl rfl rfl rfl rfl rfl rfl rfl rfl) trivial (B3 rfl rfl rfl rfl rfl rfl rfl rfl rfl)))
        · refine L.loadPtr shape3 hF rfl rfl rfl rfl rfl rfl ?_
          exact L.nil (A.on (hO _ _ _ n8181) (Le.mk [(0, 0), (1, 1), (2, 2)] hm rfl (S7 rfl rfl rfl rfl rfl rfl rfl rfl rfl rfl rfl rfl rfl rfl) trivial (B3 rfl rfl rfl rfl rfl rfl rfl rfl rfl)))
        · refine L.alloc 3 info25 rfl hF rfl rfl rfl rfl ?_
          exact L.nil (A.on (hO _ _ _ n39925) (Le.mk [(0, 0), (1, 1), (2, 3), (3, 2)] hm rfl (S8 rfl rfl rfl rfl rfl rfl rfl rfl rfl rfl rfl rfl rfl rfl rfl rfl) trivial (B4 rfl rfl rfl rfl rfl rfl rfl rfl rfl rfl rfl rfl)))
      have n36471 : W 7 #[true, true, true, false, true, true, true, false, false, true, true, true, false, false, false, true, false] (mkSt [(3, one (Cell.ptr 0 0)), (4, one (Cell.ptr 1 0)), (6, one (Cell.ptr 2 0)), (17, one (cI v17)), (18, one (Cell.ptr 3 1)), (21, one (cI v19)), (22, one (Cell.ptr 0 2)), (26, one (cI v20)), (27, one (Cell.ptr 0 3))] [] [(0, (bx v21 v22 v23 v24)), (1, (bx 0 0 0 0)), (2, (bx 0 0 0 0)), (3, (bx v17 v18 v19 v20))] 4) := by
        refine hI _ _ _ ?_
        refine A.all [3, 7, 12] (by kernel_rfl) rfl ⟨⟨_, rfl, ?_⟩, ⟨_, rfl, ?_⟩, ⟨_, rfl, ?_⟩, trivial⟩
        · refine L.loadPtr shape3 hF rfl rfl rfl rfl rfl rfl ?_
          exact L.nil (A.on (hO _ _ _ n36479) (Le.mk [(0, 0), (1, 1), (2, 2)] hm rfl (S9 rfl rfl rfl rfl rfl rfl rfl rfl rfl rfl rfl rfl rfl rfl rfl rfl rfl rfl) trivial (B3 rfl rfl rfl rfl rfl rfl rfl rfl rfl)))
        · refine L.loadPtr shape3 hF rfl rfl rfl rfl rfl rfl ?_
          exact L.nil (A.on (hO _ _ _ n36599) (Le.mk [(0, 0), (1, 1), (2, 2), (3, 3)] hm rfl (S9 rfl rfl rfl rfl rfl rfl rfl rfl rfl rfl rfl rfl rfl rfl rfl rfl rfl rfl) trivial (B4 rfl rfl rfl rfl rfl rfl rfl rfl rfl rfl rfl rfl)))
        · refine L.loadPtr shape3 hF rfl rfl rfl rfl rfl rfl ?_
          exact L.nil (A.on (hO _ _ _ n40567) (Le.mk [(0, 0), (1, 1), (2, 2), (3, 3)] hm rfl (S9 rfl rfl rfl rfl rfl rfl rfl rfl rfl rfl rfl rfl rfl rfl rfl rfl rfl rfl) trivial (B4 rfl rfl rfl rfl rfl rfl rfl rfl rfl rfl rfl rfl)))
      have n3807 : W 7 #[true, true, true, true, true, false, true, true, false, true, true, true, false, false, false, false, false] (mkSt [(3, one (Cell.ptr 0 0)), (4, one (Cell.ptr 1 0)), (17, one (cI v17)), (19, one (cI v18)), (20, one (Cell.ptr 2 2)), (23, one (cI v23)), (26, one (cI v20)), (27, one (Cell.ptr 0 3))] [] [(0, (bx v21 v22 v23 v24)), (1, (bx 0 0 0 0)), (2, (bx v17 v18 v19 v20))] 3) := by
        refine hI _ _ _ ?_
        refine A.all [5, 12, 15] (by kernel_rfl) rfl ⟨⟨_, rfl, ?_⟩, ⟨_, rfl, ?_⟩, ⟨_, rfl, ?_⟩, trivial⟩
        · refine L.loadPtr shape3 hF rfl rfl rfl rfl rfl rfl ?_
          exact L.nil (A.on (hO _ _ _ n3839) (Le.mk [(0, 0), (1, 1)] hm rfl (S8 rfl rfl rfl rfl rfl rfl rfl rfl rfl rfl rfl rfl rfl rfl rfl rfl) trivial (B2 rfl rfl rfl rfl rfl rfl)))
        · refine L.loadPtr shape3 hF rfl rfl rfl rfl rfl rfl ?_
          exact L.nil (A.on (hO _ _ _ n7903) (Le.mk [(0, 0), (1, 1), (2, 2)] hm rfl (S8 rfl rfl rfl rfl rfl rfl rfl rfl rfl rfl rfl rfl rfl rfl rfl rfl) trivial (B3 rfl rfl rfl rfl rfl rfl rfl rfl rfl)))
        · refine L.alloc 3 info25 rfl hF rfl rfl rfl rfl ?_
          exact L.nil (A.on (hO _ _ _ n36575) (Le.mk [(0, 0), (1, 1), (2, 3), (3, 2)] hm rfl (S9 rfl rfl rfl rfl rfl rfl rfl rfl rfl rfl rfl rfl rfl rfl rfl rfl rfl rfl) trivial (B4 rfl rfl rfl rfl rfl rfl rfl rfl rfl rfl rfl rfl)))
      have n40661 : W 7 #[true, false, true, false, true, false, true, true, false, true, true, true, true, false, false, true, false] (mkSt [(3, one (Cell.ptr 0 0)), (4, one (Cell.ptr 1 0)), (6, one (Cell.ptr 2 0)), (16, one (Cell.ptr 3 0)), (18, one (Cell.ptr 3 1)), (20, one (Cell.ptr 3 2)), (23, one (cI v23)), (26, one (cI v20)), (28, one (cI v24))] [] [(0, (bx v21 v22 v23 v24)), (1, (bx 0 0 0 0)), (2, (bx 0 0 0 0)), (3, (bx v17 v18 v19 v20))] 4) := by
        refine hI _ _ _ ?_
        refine A.all [1, 3, 5] (by kernel_rfl) rfl ⟨⟨_, rfl, ?_⟩, ⟨_, rfl, ?_⟩, ⟨_, rfl, ?_⟩, trivial⟩
        · refine L.loadPtr shape3 hF rfl rfl rfl rfl rfl rfl ?_
          exact L.nil (A.on (hO _ _ _ n40663) (Le.mk [(0, 0), (1, 1), (2, 2), (3, 3)] hm rfl (S9 rfl rfl rfl rfl rfl rfl rfl rfl rfl rfl rfl rfl rfl rfl rfl rfl rfl rfl) trivial (B4 rfl rfl rfl rfl rfl rfl rfl rfl rfl rfl rfl rfl)))
        · refine L.loadPtr shape3 hF rfl rfl rfl rfl rfl rfl ?_
          exact L.nil (A.on (hO _ _ _ n40669) (Le.mk [(0, 0), (1, 1), (2, 2), (3, 3)] hm rfl (S9 rfl rfl rfl rfl rfl rfl rfl rfl rfl rfl rfl rfl rfl rfl rfl rfl rfl rfl) trivial (B4 rfl rfl rfl rfl rfl rfl rfl rfl rfl rfl rfl rfl)))
        · refine L.loadPtr shape3 hF rfl rfl rfl rfl rfl rfl ?_
          exact L.nil (A.on (hO _ _ _ n40693) (Le.mk [(0, 0), (1, 1), (2, 2), (3, 3)] hm rfl (S9 rfl rfl rfl rfl rfl rfl rfl rfl rfl rfl rfl rfl rfl rfl rfl rfl rfl rfl) trivial (B4 rfl rfl rfl rfl rfl rfl rfl rfl rfl rfl rfl rfl)))
      have n39639 : W 7 #[true, true, true, false, true, false, true, true, false, true, false, true, true, false, false, true, false] (mkSt [(3, one (Cell.ptr 0 0)), (4, one (Cell.ptr 1 0)), (6, one (Cell.ptr 2 0)), (17, one (cI v17)), (18, one (Cell.ptr 3 1)), (20, one (Cell.ptr 3 2)), (23, one (cI v23)), (25, one (Cell.ptr 3 3)), (28, one (cI v24))] [] [(0, (bx v21 v22 v23 v24)), (1, (bx 0 0 0 0)), (2, (bx 0 0 0 0)), (3, (bx v17 v18 v19 v20))] 4) := by
        refine hI _ _ _ ?_
        refine A.all [3, 5, 10] (by kernel_rfl) rfl ⟨⟨_, rfl, ?_⟩, ⟨_, rfl, ?_⟩, ⟨_, rfl, ?_⟩, trivial⟩
        · refine L.loadPtr shape3 hF rfl rfl rfl rfl rfl rfl ?_
          exact L.nil (A.on (hO _ _ _ n39647) (Le.mk [(0, 0), (1, 1), (2, 2), (3, 3)] hm rfl (S9 rfl rfl rfl rfl rfl rfl rfl rfl rfl rfl rfl rfl rfl rfl rfl rfl rfl rfl) trivial (B4 rfl rfl rfl rfl rfl rfl rfl rfl rfl rfl rfl rfl)))
        · refine L.loadPtr shape3 hF rfl rfl rfl rfl rfl rfl ?_
          exact L.nil (A.on (hO _ _ _ n39671) (Le.mk [(0, 0), (1, 1), (2, 2), (3, 3)] hm rfl (S9 rfl rfl rfl rfl rfl rfl rfl rfl rfl rfl rfl rfl rfl rfl rfl rfl rfl rfl) trivial (B4 rfl rfl rfl rfl rfl rfl rfl rfl rfl rfl rfl rfl)))
        · refine L.loadPtr shape3 hF rfl rfl rfl rfl rfl rfl ?_
          exact L.nil (A.on (hO _ _ _ n40663) (Le.mk [(0, 0), (1, 1), (2, 2), (3, 3)] hm rfl (S9 rfl rfl rfl rfl rfl rfl rfl rfl rfl rfl rfl rfl rfl rfl rfl rfl rfl rfl) trivial (B4 rfl rfl rfl rfl rfl rfl rfl rfl rfl rfl rfl rfl)))
      have n36567 : W 7 #[true, true, true, false, true, false, true, true, false, true, true, true, false, false, false, true, false] (mkSt [(3, one (Cell.ptr 0 0)), (4, one (Cell.ptr 1 0)), (6, one (Cell.ptr 2 0)), (17, one (cI v17)), (18, one (Cell.ptr 3 1)), (20, one (Cell.ptr 3 2)), (23, one (cI v23)), (26, one (cI v20)), (27, one (Cell.ptr 0 3))] [] [(0, (bx v21 v22 v23 v24)), (1, (bx 0 0 0 0)), (2, (bx 0 0 0 0)), (3, (bx v17 v18 v19 v20))] 4) := by
        refine hI _ _ _ ?_
        refine A.all [3, 5, 12] (by kernel_rfl) rfl ⟨⟨_, rfl, ?_⟩, ⟨_, rfl, ?_⟩, ⟨_, rfl, ?_⟩, trivial⟩
        · refine L.loadPtr shape3 hF rfl rfl rfl rfl rfl rfl ?_
          exact L.nil (A.on (hO _ _ _ n36575) (Le.mk [(0, 0), (1, 1), (2, 2), (3, 3)] hm rfl (S9 rfl rfl rfl rfl rfl rfl rfl rfl rfl rfl rfl rfl rfl rfl rfl rfl rfl rfl) trivial (B4 rfl rfl rfl rfl rfl rfl rfl rfl rfl rfl rfl rfl)))
        · refine L.loadPtr shape3 hF rfl rfl rfl rfl rfl rfl ?_
          exact L.nil (A.on (hO _ _ _ n36599) (Le.mk [(0, 0), (1, 1), (2, 2), (3, 3)] hm rfl (S9 rfl rfl rfl rfl rfl rfl rfl rfl rfl rfl rfl rfl rfl rfl rfl rfl rfl rfl) trivial (B4 rfl rfl rfl rfl rfl rfl rfl rfl rfl rfl rfl rfl)))
        · refine L.loadPtr shape3 hF rfl rfl rfl rfl rfl rfl ?_
          exact L.nil (A.on (hO _ _ _ n40663) (Le.mk [(0, 0), (1, 1), (2, 2), (3, 3)] hm rfl (S9 rfl rfl rfl rfl rfl rfl rfl rfl rfl rfl rfl rfl rfl rfl rfl rfl rfl rfl) trivial (B4 rfl rfl rfl rfl rfl rfl rfl rfl rfl rfl rfl rfl)))
      have n39645 : W 7 #[true, false, true, true, true, false, true, true, false, true, false, true, true, false, false, true, false] (mkSt [(3, one (Cell.ptr 0 0)), (4, one (Cell.ptr 1 0)), (6, one (Cell.ptr 2 0)), (16, one (Cell.ptr 3 0)), (19, one (cI v18)), (20, one (Cell.ptr 3 2)), (23, one (cI v23)), (25, one (Cell.ptr 3 3)), (28, one (cI v24))] [] [(0, (bx v21 v22 v23 v24)), (1, (bx 0 0 0 0)), (2, (bx 0 0 0 0)), (3, (bx v17 v18 v19 v20))] 4) := by
        refine hI _ _ _ ?_
        refine A.all [1, 5, 10] (by kernel_rfl) rfl ⟨⟨_, rfl, ?_⟩, ⟨_, rfl, ?_⟩, ⟨_, rfl, ?_⟩, trivial⟩
        · refine L.loadPtr shape3 hF rfl rfl rfl rfl rfl rfl ?_
          exact L.nil (A.on (hO _ _ _ n39647) (Le.mk [(0, 0), (1, 1), (2, 2), (3, 3)] hm rfl (S9 rfl rfl rfl rfl rfl rfl rfl rfl rfl rfl rfl rfl rfl rfl rfl rfl rfl rfl) trivial (B4 rfl rfl rfl rfl rfl rfl rfl rfl rfl rfl rfl rfl)))
        · refine L.loadPtr shape3 hF rfl rfl rfl rfl rfl rfl ?_
          exact L.nil (A.on (hO _ _ _ n39677) (Le.mk [(0, 0), (1, 1), (2, 2), (3, 3)] hm rfl (S9 rfl rfl rfl rfl rfl rfl rfl rfl rfl rfl rfl rfl rfl rfl rfl rfl rfl rfl) trivial (B4 rfl rfl rfl rfl rfl rfl rfl rfl rfl rfl rfl rfl)))
        · refine L.loadPtr shape3 hF rfl rfl rfl rfl rfl rfl ?_
          exact L.nil (A.on (hO _ _ _ n40669) (Le.mk [(0, 0), (1, 1), (2, 2), (3, 3)] hm rfl (S9 rfl rfl rfl rfl rfl rfl rfl rfl rfl rfl rfl rfl rfl rfl rfl rfl rfl rfl) trivial (B4 rfl rfl rfl rfl rfl rfl rfl rfl rfl rfl rfl rfl)))
      have n36573 : W 7 #[true, false, true, true, true, false, true, true, false, true, true, true, false, false, false, true, false] (mkSt [(3, one (Cell.ptr 0 0)), (4, one (Cell.ptr 1 0)), (6, one (Cell.ptr 2 0)), (16, one (Cell.ptr 3 0)), (19, one (cI v18)), (20, one (Cell.ptr 3 2)), (23, one (cI v23)), (26, one (cI v20)), (27, one (Cell.ptr 0 3))] [] [(0, (bx v21 v22 v23 v24)), (1, (bx 0 0 0 0)), (2, (bx 0 0 0 0)), (3, (bx v17 v18 v19 v20))] 4) := by
        refine hI _ _ _ ?_
        refine A.all [1, 5, 12] (by kernel_rfl) rfl ⟨⟨_, rfl, ?_⟩, ⟨_, rfl, ?_⟩, ⟨_, rfl, ?_⟩, trivial⟩
        · refine L.loadPtr shape3 hF rfl rfl rfl rfl rfl rfl ?_
          exact L.nil (A.on (hO _ _ _ n36575) (Le.mk [(0, 0), (1, 1), (2, 2), (3, 3)] hm rfl (S9 rfl rfl rfl rfl rfl rfl rfl rfl rfl rfl rfl rfl rfl rfl rfl rfl rfl rfl) trivial (B4 rfl rfl rfl rfl rfl rfl rfl rfl rfl rfl rfl rfl)))
        · refine L.loadPtr shape3 hF rfl rfl rfl rfl rfl rfl ?_
          exact L.nil (A.on (hO _ _ _ n36605) (Le.mk [(0, 0), (1, 1), (2, 2), (3, 3)] hm rfl (S9 rfl rfl rfl rfl rfl rfl rfl rfl rfl rfl rfl rfl rfl rfl rfl rfl rfl rfl) trivial (B4 rfl rfl rfl rfl rfl rfl rfl rfl rfl rfl rfl rfl)))
        · refine L.loadPtr shape3 hF rfl rfl rfl rfl rfl rfl ?_
          exact L.nil (A.on (hO _ _ _ n40669) (Le.mk [(0, 0), (1, 1), (2, 2), (3, 3)] hm rfl (S9 rfl rfl rfl rfl rfl rfl rfl rfl rfl rfl rfl rfl rfl rfl rfl rfl rfl rfl) trivial (B4 rfl rfl rfl rfl rfl rfl rfl rfl rfl rfl rfl rfl)))
      have n35551 : W 7 #[true, true, true, true, true, false, true, true, false, true, false, true, false, false, false, true, false] (mkSt [(3, one (Cell.ptr 0 0)), (4, one (Cell.ptr 1 0)), (6, one (Cell.ptr 2 0)), (17, one (cI v17)), (19, one (cI v18)), (20, one (Cell.ptr 3 2)), (23, one (cI v23)), (25, one (Cell.ptr 3 3)), (27, one (Cell.ptr 0 3))] [] [(0, (bx v21 v22 v23 v24)), (1, (bx 0 0 0 0)), (2, (bx 0 0 0 0)), (3, (bx v17 v18 v19 v20))] 4) := by
        refine hI _ _ _ ?_
        refine A.all [5, 10, 12] (by kernel_rfl) rfl ⟨⟨_, rfl, ?_⟩, ⟨_, rfl, ?_⟩, ⟨_, rfl, ?_⟩, trivial⟩
        · refine L.loadPtr shape3 hF rfl rfl rfl rfl rfl rfl ?_
          exact L.nil (A.on (hO _ _ _ n35583) (Le.mk [(0, 0), (1, 1), (2, 2), (3, 3)] hm rfl (S9 rfl rfl rfl rfl rfl rfl rfl rfl rfl rfl rfl rfl rfl rfl rfl rfl rfl rfl) trivial (B4 rfl rfl rfl rfl rfl rfl rfl rfl rfl rfl rfl rfl)))
        · refine L.loadPtr shape3 hF rfl rfl rfl rfl rfl rfl ?_
          exact L.nil (A.on (hO _ _ _ n36575) (Le.mk [(0, 0), (1, 1), (2, 2), (3, 3)] hm rfl (S9 rfl rfl rfl rfl rfl rfl rfl rfl rfl rfl rfl rfl rfl rfl rfl rfl rfl rfl) trivial (B4 rfl rfl rfl rfl rfl rfl rfl rfl rfl rfl rfl rfl)))
        · refine L.loadPtr shape3 hF rfl rfl rfl rfl rfl rfl ?_
          exact L.nil (A.on (hO _ _ _ n39647) (Le.mk [(0, 0), (1, 1), (2, 2), (3, 3)] hm rfl (S9 rfl rfl rfl rfl rfl rfl rfl rfl rfl rfl rfl rfl rfl rfl rfl rfl rfl rfl) trivial (B4 rfl rfl rfl rfl rfl rfl rfl rfl rfl rfl rfl rfl)))
      have n7901 : W 7 #[true, false, true, true, true, false, true, true, false, true, true, true, true, false, false, false, false] (mkSt [(3, one (Cell.ptr 0 0)), (4, one (Cell.ptr 1 0)), (16, one (Cell.ptr 2 0)), (19, one (cI v18)), (20, one (Cell.ptr 2 2)), (23, one (cI v23)), (26, one (cI v20)), (28, one (cI v24))] [] [(0, (bx v21 v22 v23 v24)), (1, (bx 0 0 0 0)), (2, (bx v17 v18 v19 v20))] 3) := by
        refine hI _ _ _ ?_
        refine A.all [1, 5, 15] (by kernel_rfl) rfl ⟨⟨_, rfl, ?_⟩, ⟨_, rfl, ?_⟩, ⟨_, rfl, ?_⟩, trivial⟩
        · refine L.loadPtr shape3 hF rfl rfl rfl rfl rfl rfl ?_
          exact L.nil (A.on (hO _ _ _ n7903) (Le.mk [(0, 0), (1, 1), (2, 2)] hm rfl (S8 rfl rfl rfl rfl rfl rfl rfl rfl rfl rfl rfl rfl rfl rfl rfl rfl) trivial (B3 rfl rfl rfl rfl rfl rfl rfl rfl rfl)))
        · refine L.loadPtr shape3 hF rfl rfl rfl rfl rfl rfl ?_
          exact L.nil (A.on (hO _ _ _ n7933) (Le.mk [(0, 0), (1, 1), (2, 2)] hm rfl (S8 rfl rfl rfl rfl rfl rfl rfl rfl rfl rfl rfl rfl rfl rfl rfl rfl) trivial (B3 rfl rfl rfl rfl rfl rfl rfl rfl rfl)))
        · refine L.alloc 3 info25 rfl hF rfl rfl rfl rfl ?_
          exact L.nil (A.on (hO _ _ _ n40669) (Le.mk [(0, 0), (1, 1), (2, 3), (3, 2)] hm rfl (S9 rfl rfl rfl rfl rfl rfl rfl rfl rfl rfl rfl rfl rfl rfl rfl rfl rfl rfl) trivial (B4 rfl rfl rfl rfl rfl rfl rfl rfl rfl rfl rfl rfl)))
      have n6879 : W 7 #[true, true, true, true, true, false, true, true, false, true, false, true, true, false, false, false, false] (mkSt [(3, one (Cell.ptr 0 0)), (4, one (Cell.ptr 1 0)), (17, one (cI v17)), (19, one (cI v18)), (20, one (Cell.ptr 2 2)), (23, one (cI v23)), (25, one (Cell.ptr 2 3)), (28, one (cI v24))] [] [(0, (bx v21 v22 v23 v24)), (1, (bx 0 0 0 0)), (2, (bx v17 v18 v19 v20))] 3) := by
        refine hI _ _ _ ?_
        refine A.all [5, 10, 15] (by kernel_rfl) rfl ⟨⟨_, rfl, ?_⟩, ⟨_, rfl, ?_⟩, ⟨_, rfl, ?_⟩, trivial⟩
        · refine L.loadPtr shape3 hF rfl rfl rfl rfl rfl rfl ?_
          exact L.nil (A.on (hO _ _ _ n6911) (Le.mk [(0, 0), (1, 1), (2, 2)] hm rfl (S8 rfl rfl rfl rfl rfl rfl rfl rfl rfl rfl rfl rfl rfl rfl rfl rfl) trivial (B3 rfl rfl rfl rfl rfl rfl rfl rfl rfl)))
        · refine L.loadPtr shape3 hF rfl rfl rfl rfl rfl rfl ?_
          exact L.nil (A.on (hO _ _ _ n7903) (Le.mk [(0, 0), (1, 1), (2, 2)] hm rfl (S8 rfl rfl rfl rfl rfl rfl rfl rfl rfl rfl rfl rfl rfl rfl rfl rfl) trivial (B3 rfl rfl rfl rfl rfl rfl rfl rfl rfl)))
        · refine L.alloc 3 info25 rfl hF rfl rfl rfl rfl ?_
          exact L.nil (A.on (hO _ _ _ n39647) (Le.mk [(0, 0), (1, 1), (2, 3), (3, 2)] hm rfl (S9 rfl rfl rfl rfl rfl rfl rfl rfl rfl rfl rfl rfl rfl rfl rfl rfl rfl rfl) trivial (B4 rfl rfl rfl rfl rfl rfl rfl rfl rfl rfl rfl rfl)))
      have n3711 : W 7 #[true, true, true, true, true, true, true, false, false, true, true, true, false, false, false, false, false] (mkSt [(3, one (Cell.ptr 0 0)), (4, one (Cell.ptr 1 0)), (17, one (cI v17)), (19, one (cI v18)), (21, one (cI v19)), (22, one (Cell.ptr 0 2)), (26, one (cI v20)), (27, one (Cell.ptr 0 3))] [] [(0, (bx v21 v22 v23 v24)), (1, (bx 0 0 0 0))] 2) := by
        refine hI _ _ _ ?_
        refine A.all [7, 12, 15] (by kernel_rfl) rfl ⟨⟨_, rfl, ?_⟩, ⟨_, rfl, ?_⟩, ⟨_, rfl, ?_⟩, trivial⟩
        · refine L.loadPtr shape3 hF rfl rfl rfl rfl rfl rfl ?_
          exact L.nil (A.on (hO _ _ _ n3839) (Le.mk [(0, 0), (1, 1)] hm rfl (S8 rfl rfl rfl rfl rfl rfl rfl rfl rfl rfl rfl rfl rfl rfl rfl rfl) trivial (B2 rfl rfl rfl rfl rfl rfl)))
        · refine L.loadPtr shape3 hF rfl rfl rfl rfl rfl rfl ?_
          exact L.nil (A.on (hO _ _ _ n7807) (Le.mk [(0, 0), (1, 1)] hm rfl (S8 rfl rfl rfl rfl rfl rfl rfl rfl rfl rfl rfl rfl rfl rfl rfl rfl) trivial (B2 rfl rfl rfl rfl rfl rfl)))
        · refine L.alloc 2 info25 rfl hF rfl rfl rfl rfl ?_
          exact L.nil (A.on (hO _ _ _ n36479) (Le.mk [(0, 0), (1, 1), (2, 2)] hm rfl (S9 rfl rfl rfl rfl rfl rfl rfl rfl rfl rfl rfl rfl rfl rfl rfl rfl rfl rfl) trivial (B3 rfl rfl rfl rfl rfl rfl rfl rfl rfl)))
      have n36597 : W 7 #[true, false, true, false, true, true, true, true, false, true, true, true, false, false, false, true, false] (mkSt [(3, one (Cell.ptr 0 0)), (4, one (Cell.ptr 1 0)), (6, one (Cell.ptr 2 0)), (16, one (Cell.ptr 3 0)), (18, one (Cell.ptr 3 1)), (21, one (cI v19)), (23, one (cI v23)), (26, one (cI v20)), (27, one (Cell.ptr 0 3))] [] [(0, (bx v21 v22 v23 v24)), (1, (bx 0 0 0 0)), (2, (bx 0 0 0 0)), (3, (bx v17 v18 v19 v20))] 4) := by
        refine hI _ _ _ ?_
        refine A.all [1, 3, 8, 12] (by kernel_rfl) rfl ⟨⟨_, rfl, ?_⟩, ⟨_, rfl, ?_⟩, ⟨_, rfl, ?_⟩, ⟨_, rfl, ?_⟩, trivial⟩
        · refine L.loadPtr shape3 hF rfl rfl rfl rfl rfl rfl ?_
          exact L.nil (A.on (hO _ _ _ n36599) (Le.mk [(0, 0), (1, 1), (2, 2), (3, 3)] hm rfl (S9 rfl rfl rfl rfl rfl rfl rfl rfl rfl rfl rfl rfl rfl rfl rfl rfl rfl rfl) trivial (B4 rfl rfl rfl rfl rfl rfl rfl rfl rfl rfl rfl rfl)))
        · refine L.loadPtr shape3 hF rfl rfl rfl rfl rfl rfl ?_
          exact L.nil (A.on (hO _ _ _ n36605) (Le.mk [(0, 0), (1, 1), (2, 2), (3, 3)] hm rfl (S9 rfl rfl rfl rfl rfl rfl rfl rfl rfl rfl rfl rfl rfl rfl rfl rfl rfl rfl) trivial (B4 rfl rfl rfl rfl rfl rfl rfl rfl rfl rfl rfl rfl)))
        · refine L.call [false, false] [] [] 4 hF rfl rfl rfl ent94 rfl rfl rfl rfl rfl (Fspec_l16Least_gives kj2  v19 v23 r25 hr25) rfl ?_
          exact L.nil (A.on (hO _ _ _ n36853) (Le.mk [(0, 0), (1, 1), (2, 2), (3, 3)] hm rfl (S8 rfl rfl rfl rfl rfl rfl rfl rfl rfl rfl rfl rfl rfl rfl rfl rfl) trivial (B4 rfl rfl rfl rfl rfl rfl rfl rfl rfl rfl rfl rfl)))
        · refine L.loadPtr shape3 hF rfl rfl rfl rfl rfl rfl ?_
          exact L.nil (A.on (hO _ _ _ n40693) (Le.mk [(0, 0), (1, 1), (2, 2), (3, 3)] hm rfl (S9 rfl rfl rfl rfl rfl rfl rfl rfl rfl rfl rfl rfl rfl rfl rfl rfl rfl rfl) trivial (B4 rfl rfl rfl rfl rfl rfl rfl rfl rfl rfl rfl rfl)))
      have n39669 : W 7 #[true, false, true, false, true, true, true, true, false, true, false, true, true, false, false, true, false] (mkSt [(3, one (Cell.ptr 0 0)), (4, one (Cell.ptr 1 0)), (6, one (Cell.ptr 2 0)), (16, one (Cell.ptr 3 0)), (18, one (Cell.ptr 3 1)), (21, one (cI v19)), (23, one (cI v23)), (25, one (Cell.ptr 3 3)), (28, one (cI v24))] [] [(0, (bx v21 v22 v23 v24)), (1, (bx 0 0 0 0)), (2, (bx 0 0 0 0)), (3, (bx v17 v18 v19 v20))] 4) := by
        refine hI _ _ _ ?_
        refine A.all [1, 3, 8, 10] (by kernel_rfl) rfl ⟨⟨_, rfl, ?_⟩, ⟨_, rfl, ?_⟩, ⟨_, rfl, ?_⟩, ⟨_, rfl, ?_⟩, trivial⟩
        · refine L.loadPtr shape3 hF rfl rfl rfl rfl rfl rfl ?_
          exact L.nil (A.on (hO _ _ _ n39671) (Le.mk [(0, 0), (1, 1), (2, 2), (3, 3)] hm rfl (S9 rfl rfl rfl rfl rfl rfl rfl rfl rfl rfl rfl rfl rfl rfl rfl rfl rfl rfl) trivial (B4 rfl rfl rfl rfl rfl rfl rfl rfl rfl rfl rfl rfl)))
        · refine L.loadPtr shape3 hF rfl rfl rfl rfl rfl rfl ?_
          exact L.nil (A.on (hO _ _ _ n39677) (Le.mk [(0, 0), (1, 1), (2, 2), (3, 3)] hm rfl (S9 rfl rfl rfl rfl rfl rfl rfl rfl rfl rfl rfl rfl rfl rfl rfl rfl rfl rfl) trivial (B4 rfl rfl rfl rfl rfl rfl rfl rfl rfl rfl rfl rfl)))
        · refine L.call [false, false] [] [] 4 hF rfl rfl rfl ent94 rfl rfl rfl rfl rfl (Fspec_l16Least_gives kj2  v19 v23 r25 hr25) rfl ?_
          exact L.nil (A.on (hO _ _ _ n39925) (Le.mk [(0, 0), (1, 1), (2, 2), (3, 3)] hm rfl (S8 rfl rfl rfl rfl rfl rfl rfl rfl rfl rfl rfl rfl rfl rfl rfl rfl) trivial (B4 rfl rfl rfl rfl rfl rfl rfl rfl rfl rfl rfl rfl)))
        · refine L.loadPtr shape3 hF rfl rfl rfl rfl rfl rfl ?_
          exact L.nil (A.on (hO _ _ _ n40693) (Le.mk [(0, 0), (1, 1), (2, 2), (3, 3)] hm rfl (S9 rfl rfl rfl rfl rfl rfl rfl rfl rfl rfl rfl rfl rfl rfl rfl rfl rfl rfl) trivial (B4 rfl rfl rfl rfl rfl rfl rfl rfl rfl rfl rfl rfl)))
      have n35575 : W 7 #[true, true, true, false, true, true, true, true, false, true, false, true, false, false, false, true, false] (mkSt [(3, one (Cell.ptr 0 0)), (4, one (Cell.ptr 1 0)), (6, one (Cell.ptr 2 0)), (17, one (cI v17)), (18, one (Cell.ptr 3 1)), (21, one (cI v19)), (23, one (cI v23)), (25, one (Cell.ptr 3 3)), (27, one (Cell.ptr 0 3))] [] [(0, (bx v21 v22 v23 v24)), (1, (bx 0 0 0 0)), (2, (bx 0 0 0 0)), (3, (bx v17 v18 v19 v20))] 4) := by
        refine hI _ _ _ ?_
        refine A.all [3, 8, 10, 12] (by kernel_rfl) rfl ⟨⟨_, rfl, ?_⟩, ⟨_, rfl, ?_⟩, ⟨_, rfl, ?_⟩, ⟨_, rfl, ?_⟩, trivial⟩
        · refine L.loadPtr shape3 hF rfl rfl rfl rfl rfl rfl ?_
          exact L.nil (A.on (hO _ _ _ n35583) (Le.mk [(0, 0), (1, 1), (2, 2), (3, 3)] hm rfl (S9 rfl rfl rfl rfl rfl rfl rfl rfl rfl rfl rfl rfl rfl rfl rfl rfl rfl rfl) trivial (B4 rfl rfl rfl rfl rfl rfl rfl rfl rfl rfl rfl rfl)))
        · refine L.call [false, false] [] [] 4 hF rfl rfl rfl ent94 rfl rfl rfl rfl rfl (Fspec_l16Least_gives kj2  v19 v23 r25 hr25) rfl ?_
          exact L.nil (A.on (hO _ _ _ n35831) (Le.mk [(0, 0), (1, 1), (2, 2), (3, 3)] hm rfl (S8 rfl rfl rfl rfl rfl rfl rfl rfl rfl rfl rfl rfl rfl rfl rfl rfl) trivial (B4 rfl rfl rfl rfl rfl rfl rfl rfl rfl rfl rfl rfl)))
        · refine L.loadPtr shape3 hF rfl rfl rfl rfl rfl rfl ?_
          exact L.nil (A.on (hO _ _ _ n36599) (Le.mk [(0, 0), (1, 1), (2, 2), (3, 3)] hm rfl (S9 rfl rfl rfl rfl rfl rfl rfl rfl rfl rfl rfl rfl rfl rfl rfl rfl rfl rfl) trivial (B4 rfl rfl rfl rfl rfl rfl rfl rfl rfl rfl rfl rfl)))
        · refine L.loadPtr shape3 hF rfl rfl rfl rfl rfl rfl ?_
          exact L.nil (A.on (hO _ _ _ n39671) (Le.mk [(0, 0), (1, 1), (2, 2), (3, 3)] hm rfl (S9 rfl rfl rfl rfl rfl rfl rfl rfl rfl rfl rfl rfl rfl rfl rfl rfl rfl rfl) trivial (B4 rfl rfl rfl rfl rfl rfl rfl rfl rfl rfl rfl rfl)))
      have n35581 : W 7 #[true, false, true, true, true, true, true, true, false, true, false, true, false, false, false, true, false] (mkSt [(3, one (Cell.ptr 0 0)), (4, one (Cell.ptr 1 0)), (6, one (Cell.ptr 2 0)), (16, one (Cell.ptr 3 0)), (19, one (cI v18)), (21, one (cI v19)), (23, one (cI v23)), (25, one (Cell.ptr 3 3)), (27, one (Cell.ptr 0 3))] [] [(0, (bx v21 v22 v23 v24)), (1, (bx 0 0 0 0)), (2, (bx 0 0 0 0)), (3, (bx v17 v18 v19 v20))] 4) := by
        refine hI _ _ _ ?_
        refine A.all [1, 8, 10, 12] (by kernel_rfl) rfl ⟨⟨_, rfl, ?_⟩, ⟨_, rfl, ?_⟩, ⟨_, rfl, ?_⟩, ⟨_, rfl, ?_⟩, trivial⟩
        · refine L.loadPtr shape3 hF rfl rfl rfl rfl rfl rfl ?_
          exact L.nil (A.on (hO _ _ _ n35583) (Le.mk [(0, 0), (1, 1), (2, 2), (3, 3)] hm rfl (S9 rfl rfl rfl rfl rfl rfl rfl rfl rfl rfl rfl rfl rfl rfl rfl rfl rfl rfl) trivial (B4 rfl rfl rfl rfl rfl rfl rfl rfl rfl rfl rfl rfl)))
        · refine L.call [false, false] [] [] 4 hF rfl rfl rfl ent94 rfl rfl rfl rfl rfl (Fspec_l16Least_gives kj2  v19 v23 r25 hr25) rfl ?_
          exact L.nil (A.on (hO _ _ _ n35837) (Le.mk [(0, 0), (1, 1), (2, 2), (3, 3)] hm rfl (S8 rfl rfl rfl rfl rfl rfl rfl rfl rfl rfl rfl rfl rfl rfl rfl rfl) trivial (B4 rfl rfl rfl rfl rfl rfl rfl rfl rfl rfl rfl rfl)))
        · refine L.loadPtr shape3 hF rfl rfl rfl rfl rfl rfl ?_
          exact L.nil (A.on (hO _ _ _ n36605) (Le.mk [(0, 0), (1, 1), (2, 2), (3, 3)] hm rfl (S9 rfl rfl rfl rfl rfl rfl rfl rfl rfl rfl rfl rfl rfl rfl rfl rfl rfl rfl) trivial (B4 rfl rfl rfl rfl rfl rfl rfl rfl rfl rfl rfl rfl)))
        · refine L.loadPtr shape3 hF rfl rfl rfl rfl rfl rfl ?_
          exact L.nil (A.on (hO _ _ _ n39677) (Le.mk [(0, 0), (1, 1), (2, 2), (3, 3)] hm rfl (S9 rfl rfl rfl rfl rfl rfl rfl rfl rfl rfl rfl rfl rfl rfl rfl rfl rfl rfl) trivial (B4 rfl rfl rfl rfl rfl rfl rfl rfl rfl rfl rfl rfl)))
      have n7895 : W 7 #[true, true, true, false, true, false, true, true, false, true, true, true, true, false, false, false, false] (mkSt [(3, one (Cell.ptr 0 0)), (4, one (Cell.ptr 1 0)), (17, one (cI v17)), (18, one (Cell.ptr 2 1)), (20, one (Cell.ptr 2 2)), (23, one (cI v23)), (26, one (cI v20)), (28, one (cI v24))] [] [(0, (bx v21 v22 v23 v24)), (1, (bx 0 0 0 0)), (2, (bx v17 v18 v19 v20))] 3) := by
        refine hI _ _ _ ?_
        refine A.all [3, 5, 15] (by kernel_rfl) rfl ⟨⟨_, rfl, ?_⟩, ⟨_, rfl, ?_⟩, ⟨_, rfl, ?_⟩, trivial⟩
        · refine L.loadPtr shape3 hF rfl rfl rfl rfl rfl rfl ?_
          exact L.nil (A.on (hO _ _ _ n7903) (Le.mk [(0, 0), (1, 1), (2, 2)] hm rfl (S8 rfl rfl rfl rfl rfl rfl rfl rfl rfl rfl rfl rfl rfl rfl rfl rfl) trivial (B3 rfl rfl rfl rfl rfl rfl rfl rfl rfl)))
        · refine L.loadPtr shape3 hF rfl rfl rfl rfl rfl rfl ?_
          exact L.nil (A.on (hO _ _ _ n7927) (Le.mk [(0, 0), (1, 1), (2, 2)] hm rfl (S8 rfl rfl rfl rfl rfl rfl rfl rfl rfl rfl rfl rfl rfl rfl rfl rfl) trivial (B3 rfl rfl rfl rfl rfl rfl rfl rfl rfl)))
        · refine L.alloc 3 info25 rfl hF rfl rfl rfl rfl ?_
          exact L.nil (A.on (hO _ _ _ n40663) (Le.mk [(0, 0), (1, 1), (2, 3), (3, 2)] hm rfl (S9 rfl rfl rfl rfl rfl rfl rfl rfl rfl rfl rfl rfl rfl rfl rfl rfl rfl rfl) trivial (B4 rfl rfl rfl rfl rfl rfl rfl rfl rfl rfl rfl rfl)))
      have n7799 : W 7 #[true, true, true, false, true, true, true, false, false, true, true, true, true, false, false, false, false] (mkSt [(3, one (Cell.ptr 0 0)), (4, one (Cell.ptr 1 0)), (17, one (cI v17)), (18, one (Cell.ptr 2 1)), (21, one (cI v19)), (22, one (Cell.ptr 0 2)), (26, one (cI v20)), (28, one (cI v24))] [] [(0, (bx v21 v22 v23 v24)), (1, (bx 0 0 0 0)), (2, (bx v17 v18 v19 v20))] 3) := by
        refine hI _ _ _ ?_
        refine A.all [3, 7, 15] (by kernel_rfl) rfl ⟨⟨_, rfl, ?_⟩, ⟨_, rfl, ?_⟩, ⟨_, rfl, ?_⟩, trivial⟩
        · refine L.loadPtr shape3 hF rfl rfl rfl rfl rfl rfl ?_
          exact L.nil (A.on (hO _ _ _ n7807) (Le.mk [(0, 0), (1, 1)] hm rfl (S8 rfl rfl rfl rfl rfl rfl rfl rfl rfl rfl rfl rfl rfl rfl rfl rfl) trivial (B2 rfl rfl rfl rfl rfl rfl)))
        · refine L.loadPtr shape3 hF rfl rfl rfl rfl rfl rfl ?_
          exact L.nil (A.on (hO _ _ _ n7927) (Le.mk [(0, 0), (1, 1), (2, 2)] hm rfl (S8 rfl rfl rfl rfl rfl rfl rfl rfl rfl rfl rfl rfl rfl rfl rfl rfl) trivial (B3 rfl rfl rfl rfl rfl rfl rfl rfl rfl)))
        · refine L.alloc 3 info25 rfl hF rfl rfl rfl rfl ?_
          exact L.nil (A.on (hO _ _ _ n40567) (Le.mk [(0, 0), (1, 1), (2, 3), (3, 2)] hm rfl (S9 rfl rfl rfl rfl rfl rfl rfl rfl rfl rfl rfl rfl rfl rfl rfl rfl rfl rfl) trivial (B4 rfl rfl rfl rfl rfl rfl rfl rfl rfl rfl rfl rfl)))
      have n3831 : W 7 #[true, true, true, false, true, true, true, true, false, true, true, true, false, false, false, false, false] (mkSt [(3, one (Cell.ptr 0 0)), (4, one (Cell.ptr 1 0)), (17, one (cI v17)), (18, one (Cell.ptr 2 1)), (21, one (cI v19)), (23, one (cI v23)), (26, one (cI v20)), (27, one (Cell.ptr 0 3))] [] [(0, (bx v21 v22 v23 v24)), (1, (bx 0 0 0 0)), (2, (bx v17 v18 v19 v20))] 3) := by
        refine hI _ _ _ ?_
        refine A.all [3, 8, 12, 15] (by kernel_rfl) rfl ⟨⟨_, rfl, ?_⟩, ⟨_, rfl, ?_⟩, ⟨_, rfl, ?_⟩, ⟨_, rfl, ?_⟩, trivial⟩
        · refine L.loadPtr shape3 hF rfl rfl rfl rfl rfl rfl ?_
          exact L.nil (A.on (hO _ _ _ n3839) (Le.mk [(0, 0), (1, 1)] hm rfl (S8 rfl rfl rfl rfl rfl rfl rfl rfl rfl rfl rfl rfl rfl rfl rfl rfl) trivial (B2 rfl rfl rfl rfl rfl rfl)))
        · refine L.call [false, false] [] [] 3 hF rfl rfl rfl ent94 rfl rfl rfl rfl rfl (Fspec_l16Least_gives kj2  v19 v23 r25 hr25) rfl ?_
          exact L.nil (A.on (hO _ _ _ n4087) (Le.mk [(0, 0), (1, 1), (2, 2)] hm rfl (S7 rfl rfl rfl rfl rfl rfl rfl rfl rfl rfl rfl rfl rfl rfl) trivial (B3 rfl rfl rfl rfl rfl rfl rfl rfl rfl)))
        · refine L.loadPtr shape3 hF rfl rfl rfl rfl rfl rfl ?_
          exact L.nil (A.on (hO _ _ _ n7927) (Le.mk [(0, 0), (1, 1), (2, 2)] hm rfl (S8 rfl rfl rfl rfl rfl rfl rfl rfl rfl rfl rfl rfl rfl rfl rfl rfl) trivial (B3 rfl rfl rfl rfl rfl rfl rfl rfl rfl)))
        · refine L.alloc 3 info25 rfl hF rfl rfl rfl rfl ?_
          exact L.nil (A.on (hO _ _ _ n36599) (Le.mk [(0, 0), (1, 1), (2, 3), (3, 2)] hm rfl (S9 rfl rfl rfl rfl rfl rfl rfl rfl rfl rfl rfl rfl rfl rfl rfl rfl rfl rfl) trivial (B4 rfl rfl rfl rfl rfl rfl rfl rfl rfl rfl rfl rfl)))
      have n6783 : W 7 #[true, true, true, true, true, true, true, false, false, true, false, true, true, false, false, false, false] (mkSt [(3, one (Cell.ptr 0 0)), (4, one (Cell.ptr 1 0)), (17, one (cI v17)), (19, one (cI v18)), (21, one (cI v19)), (22, one (Cell.ptr 0 2)), (25, one (Cell.ptr 2 3)), (28, one (cI v24))] [] [(0, (bx v21 v22 v23 v24)), (1, (bx 0 0 0 0)), (2, (bx v17 v18 v19 v20))] 3) := by
        refine hI _ _ _ ?_
        refine A.all [7, 10, 15] (by kernel_rfl) rfl ⟨⟨_, rfl, ?_⟩, ⟨_, rfl, ?_⟩, ⟨_, rfl, ?_⟩, trivial⟩
        · refine L.loadPtr shape3 hF rfl rfl rfl rfl rfl rfl ?_
          exact L.nil (A.on (hO _ _ _ n6911) (Le.mk [(0, 0), (1, 1), (2, 2)] hm rfl (S8 rfl rfl rfl rfl rfl rfl rfl rfl rfl rfl rfl rfl rfl rfl rfl rfl) trivial (B3 rfl rfl rfl rfl rfl rfl rfl rfl rfl)))
        · refine L.loadPtr shape3 hF rfl rfl rfl rfl rfl rfl ?_
          exact L.nil (A.on (hO _ _ _ n7807) (Le.mk [(0, 0), (1, 1)] hm rfl (S8 rfl rfl rfl rfl rfl rfl rfl rfl rfl rfl rfl rfl rfl rfl rfl rfl) trivial (B2 rfl rfl rfl rfl rfl rfl)))
        · refine L.alloc 3 info25 rfl hF rfl rfl rfl rfl ?_
          exact L.nil (A.on (hO _ _ _ n39551) (Le.mk [(0, 0), (1, 1), (2, 3), (3, 2)] hm rfl (S9 rfl rfl rfl rfl rfl rfl rfl rfl rfl rfl rfl rfl rfl rfl rfl rfl rfl rfl) trivial (B4 rfl rfl rfl rfl rfl rfl rfl rfl rfl rfl rfl rfl)))
      have n2815 : W 7 #[true, true, true, true, true, true, true, true, false, true, false, true, false, false, false, false, false] (mkSt [(3, one (Cell.ptr 0 0)), (4, one (Cell.ptr 1 0)), (17, one (cI v17)), (19, one (cI v18)), (21, one (cI v19)), (23, one (cI v23)), (25, one (Cell.ptr 2 3)), (27, one (Cell.ptr 0 3))] [] [(0, (bx v21 v22 v23 v24)), (1, (bx 0 0 0 0)), (2, (bx v17 v18 v19 v20))] 3) := by
        refine hI _ _ _ ?_
        refine A.all [8, 10, 12, 15] (by kernel_rfl) rfl ⟨⟨_, rfl, ?_⟩, ⟨_, rfl, ?_⟩, ⟨_, rfl, ?_⟩, ⟨_, rfl, ?_⟩, trivial⟩
        · refine L.call [false, false] [] [] 3 hF rfl rfl rfl ent94 rfl rfl rfl rfl rfl (Fspec_l16Least_gives kj2  v19 v23 r25 hr25) rfl ?_
          exact L.nil (A.on (hO _ _ _ n3071) (Le.mk [(0, 0), (1, 1), (2, 2)] hm rfl (S7 rfl rfl rfl rfl rfl rfl rfl rfl rfl rfl rfl rfl rfl rfl) trivial (B3 rfl rfl rfl rfl rfl rfl rfl rfl rfl)))
        · refine L.loadPtr shape3 hF rfl rfl rfl rfl rfl rfl ?_
          exact L.nil (A.on (hO _ _ _ n3839) (Le.mk [(0, 0), (1, 1)] hm rfl (S8 rfl rfl rfl rfl rfl rfl rfl rfl rfl rfl rfl rfl rfl rfl rfl rfl) trivial (B2 rfl rfl rfl rfl rfl rfl)))
        · refine L.loadPtr shape3 hF rfl rfl rfl rfl rfl rfl ?_
          exact L.nil (A.on (hO _ _ _ n6911) (Le.mk [(0, 0), (1, 1), (2, 2)] hm rfl (S8 rfl rfl rfl rfl rfl rfl rfl rfl rfl rfl rfl rfl rfl rfl rfl rfl) trivial (B3 rfl rfl rfl rfl rfl rfl rfl rfl rfl)))
        · refine L.alloc 3 info25 rfl hF rfl rfl rfl rfl ?_
          exact L.nil (A.on (hO _ _ _ n35583) (Le.mk [(0, 0), (1, 1), (2, 3), (3, 2)] hm rfl (S9 rfl rfl rfl rfl rfl rfl rfl rfl rfl rfl rfl rfl rfl rfl rfl rfl rfl rfl) trivial (B4 rfl rfl rfl rfl rfl rfl rfl rfl rfl rfl rfl rfl)))
      have n7805 : W 7 #[true, false, true, true, true, true, true, false, false, true, true, true, true, false, false, false, false] (mkSt [(3, one (Cell.ptr 0 0)), (4, one (Cell.ptr 1 0)), (16, one (Cell.ptr 2 0)), (19, one (cI v18)), (21, one (cI v19)), (22, one (Cell.ptr 0 2)), (26, one (cI v20)), (28, one (cI v24))] [] [(0, (bx v21 v22 v23 v24)), (1, (bx 0 0 0 0)), (2, (bx v17 v18 v19 v20))] 3) := by
        refine hI _ _ _ ?_
        refine A.all [1, 7, 15] (by kernel_rfl) rfl ⟨⟨_, rfl, ?_⟩, ⟨_, rfl, ?_⟩, ⟨_, rfl, ?_⟩, trivial⟩
        · refine L.loadPtr shape3 hF rfl rfl rfl rfl rfl rfl ?_
          exact L.nil (A.on (hO _ _ _ n7807) (Le.mk [(0, 0), (1, 1)] hm rfl (S8 rfl rfl rfl rfl rfl rfl rfl rfl rfl rfl rfl rfl rfl rfl rfl rfl) trivial (B2 rfl rfl rfl rfl rfl rfl)))
        · refine L.loadPtr shape3 hF rfl rfl rfl rfl rfl rfl ?_
          exact L.nil (A.on (hO _ _ _ n7933) (Le.mk [(0, 0), (1, 1), (2, 2)] hm rfl (S8 rfl rfl rfl rfl rfl rfl rfl rfl rfl rfl rfl rfl rfl rfl rfl rfl) trivial (B3 rfl rfl rfl rfl rfl rfl rfl rfl rfl)))
        · refine L.alloc 3 info25 rfl hF rfl rfl rfl rfl ?_
          exact L.nil (A.on (hO _ _ _ n40573) (Le.mk [(0, 0), (1, 1), (2, 3), (3, 2)] hm rfl (S9 rfl rfl rfl rfl rfl rfl rfl rfl rfl rfl rfl rfl rfl rfl rfl rfl rfl rfl) trivial (B4 rfl rfl rfl rfl rfl rfl rfl rfl rfl rfl rfl rfl)))
      have n3837 : W 7 #[true, false, true, true, true, true, true, true, false, true, true, true, false, false, false, false, false] (mkSt [(3, one (Cell.ptr 0 0)), (4, one (Cell.ptr 1 0)), (16, one (Cell.ptr 2 0)), (19, one (cI v18)), (21, one (cI v19)), (23, one (cI v23)), (26, one (cI v20)), (27, one (Cell.ptr 0 3))] [] [(0, (bx v21 v22 v23 v24)), (1, (bx 0 0 0 0)), (2, (bx v17 v18 v19 v20))] 3) := by
        refine hI _ _ _ ?_
        refine A.all [1, 8, 12, 15] (by kernel_rfl) rfl ⟨⟨_, rfl, ?_⟩, ⟨_, rfl, ?_⟩, ⟨_, rfl, ?_⟩, ⟨_, rfl, ?_⟩, trivial⟩
        · refine L.loadPtr shape3 hF rfl rfl rfl rfl rfl rfl ?_
          exact L.nil (A.on (hO _ _ _ n3839) (Le.mk [(0, 0), (1, 1)] hm rfl (S8 rfl rfl rfl rfl rfl rfl rfl rfl rfl rfl rfl rfl rfl rfl rfl rfl) trivial (B2 rfl rfl rfl rfl rfl rfl)))
        · refine L.call [false, false] [] [] 3 hF rfl rfl rfl ent94 rfl rfl rfl rfl rfl (Fspec_l16Least_gives kj2  v19 v23 r25 hr25) rfl ?_
          exact L.nil (A.on (hO _ _ _ n4093) (Le.mk [(0, 0), (1, 1), (2, 2)] hm rfl (S7 rfl rfl rfl rfl rfl rfl rfl rfl rfl rfl rfl rfl rfl rfl) trivial (B3 rfl rfl rfl rfl rfl rfl rfl rfl rfl)))
        · refine L.loadPtr shape3 hF rfl rfl rfl rfl rfl rfl ?_
          exact L.nil (A.on (hO _ _ _ n7933) (Le.mk [(0, 0), (1, 1), (2, 2)] hm rfl (S8 rfl rfl rfl rfl rfl rfl rfl rfl rfl rfl rfl rfl rfl rfl rfl rfl) trivial (B3 rfl rfl rfl rfl rfl rfl rfl rfl rfl)))
        · refine L.alloc 3 info25 rfl hF rfl rfl rfl rfl ?_
          exact L.nil (A.on (hO _ _ _ n36605) (Le.mk [(0, 0), (1, 1), (2, 3), (3, 2)] hm rfl (S9 rfl rfl rfl rfl rfl rfl rfl rfl rfl rfl rfl rfl rfl rfl rfl rfl rfl rfl) trivial (B4 rfl rfl rfl rfl rfl rfl rfl rfl rfl rfl rfl rfl)))
      have n6903 : W 7 #[true, true, true, false, true, true, true, true, false, true, false, true, true, false, false, false, false] (mkSt [(3, one (Cell.ptr 0 0)), (4, one (Cell.ptr 1 0)), (17, one (cI v17)), (18, one (Cell.ptr 2 1)), (21, one (cI v19)), (23, one (cI v23)), (25, one (Cell.ptr 2 3)), (28, one (cI v24))] [] [(0, (bx v21 v22 v23 v24)), (1, (bx 0 0 0 0)), (2, (bx v17 v18 v19 v20))] 3) := by
        refine hI _ _ _ ?_
        refine A.all [3, 8, 10, 15] (by kernel_rfl) rfl ⟨⟨_, rfl, ?_⟩, ⟨_, rfl, ?_⟩, ⟨_, rfl, ?_⟩, ⟨_, rfl, ?_⟩, trivial⟩
        · refine L.loadPtr shape3 hF rfl rfl rfl rfl rfl rfl ?_
          exact L.nil (A.on (hO _ _ _ n6911) (Le.mk [(0, 0), (1, 1), (2, 2)] hm rfl (S8 rfl rfl rfl rfl rfl rfl rfl rfl rfl rfl rfl rfl rfl rfl rfl rfl) trivial (B3 rfl rfl rfl rfl rfl rfl rfl rfl rfl)))
        · refine L.call [false, false] [] [] 3 hF rfl rfl rfl ent94 rfl rfl rfl rfl rfl (Fspec_l16Least_gives kj2  v19 v23 r25 hr25) rfl ?_
          exact L.nil (A.on (hO _ _ _ n7159) (Le.mk [(0, 0), (1, 1), (2, 2)] hm rfl (S7 rfl rfl rfl rfl rfl rfl rfl rfl rfl rfl rfl rfl rfl rfl) trivial (B3 rfl rfl rfl rfl rfl rfl rfl rfl rfl)))
        · refine L.loadPtr shape3 hF rfl rfl rfl rfl rfl rfl ?_
          exact L.nil (A.on (hO _ _ _ n7927) (Le.mk [(0, 0), (1, 1), (2, 2)] hm rfl (S8 rfl rfl rfl rfl rfl rfl rfl rfl rfl rfl rfl rfl rfl rfl rfl rfl) trivial (B3 rfl rfl rfl rfl rfl rfl rfl rfl rfl)))
        · refine L.alloc 3 info25 rfl hF rfl rfl rfl rfl ?_
          exact L.nil (A.on (hO _ _ _ n39671) (Le.mk [(0, 0), (1, 1), (2, 3), (3, 2)] hm rfl (S9 rfl rfl rfl rfl rfl rfl rfl rfl rfl rfl rfl rfl rfl rfl rfl rfl rfl rfl) trivial (B4 rfl rfl rfl rfl rfl rfl rfl rfl rfl rfl rfl rfl)))
      have n7925 : W 7 #[true, false, true, false, true, true, true, true, false, true, true, true, true, false, false, false, false] (mkSt [(3, one (Cell.ptr 0 0)), (4, one (Cell.ptr 1 0)), (16, one (Cell.ptr 2 0)), (18, one (Cell.ptr 2 1)), (21, one (cI v19)), (23, one (cI v23)), (26, one (cI v20)), (28, one (cI v24))] [] [(0, (bx v21 v22 v23 v24)), (1, (bx 0 0 0 0)), (2, (bx v17 v18 v19 v20))] 3) := by
        refine hI _ _ _ ?_
        refine A.all [1, 3, 8, 15] (by kernel_rfl) rfl ⟨⟨_, rfl, ?_⟩, ⟨_, rfl, ?_⟩, ⟨_, rfl, ?_⟩, ⟨_, rfl, ?_⟩, trivial⟩
        · refine L.loadPtr shape3 hF rfl rfl rfl rfl rfl rfl ?_
          exact L.nil (A.on (hO _ _ _ n7927) (Le.mk [(0, 0), (1, 1), (2, 2)] hm rfl (S8 rfl rfl rfl rfl rfl rfl rfl rfl rfl rfl rfl rfl rfl rfl rfl rfl) trivial (B3 rfl rfl rfl rfl rfl rfl rfl rfl rfl)))
        · refine L.loadPtr shape3 hF rfl rfl rfl rfl rfl rfl ?_
          exact L.nil (A.on (hO _ _ _ n7933) (Le.mk [(0, 0), (1, 1), (2, 2)] hm rfl (S8 rfl rfl rfl rfl rfl rfl rfl rfl rfl rfl rfl rfl rfl rfl rfl rfl) trivial (B3 rfl rfl rfl rfl rfl rfl rfl rfl rfl)))
        · refine L.call [false, false] [] [] 3 hF rfl rfl rfl ent94 rfl rfl rfl rfl rfl (Fspec_l16Least_gives kj2  v19 v23 r25 hr25) rfl ?_
          exact L.nil (A.on (hO _ _ _ n8181) (Le.mk [(0, 0), (1, 1), (2, 2)] hm rfl (S7 rfl rfl rfl rfl rfl rfl rfl rfl rfl rfl rfl rfl rfl rfl) trivial (B3 rfl rfl rfl rfl rfl rfl rfl rfl rfl)))
        · refine L.alloc 3 info25 rfl hF rfl rfl rfl rfl ?_
          exact L.nil (A.on (hO _ _ _ n40693) (Le.mk [(0, 0), (1, 1), (2, 3), (3, 2)] hm rfl (S9 rfl rfl rfl rfl rfl rfl rfl rfl rfl rfl rfl rfl rfl rfl rfl rfl rfl rfl) trivial (B4 rfl rfl rfl rfl rfl rfl rfl rfl rfl rfl rfl rfl)))
      have n6909 : W 7 #[true, false, true, true, true, true, true, true, false, true, false, true, true, false, false, false, false] (mkSt [(3, one (Cell.ptr 0 0)), (4, one (Cell.ptr 1 0)), (16, one (Cell.ptr 2 0)), (19, one (cI v18)), (21, one (cI v19)), (23, one (cI v23)), (25, one (Cell.ptr 2 3)), (28, one (cI v24))] [] [(0, (bx v21 v22 v23 v24)), (1, (bx 0 0 0 0)), (2, (bx v17 v18 v19 v20))] 3) := by
        refine hI _ _ _ ?_
        refine A.all [1, 8, 10, 15] (by kernel_rfl) rfl ⟨⟨_, rfl, ?_⟩, ⟨_, rfl, ?_⟩, ⟨_, rfl, ?_⟩, ⟨_, rfl, ?_⟩, trivial⟩
        · refine L.loadPtr shape3 hF rfl rfl rfl rfl rfl rfl ?_
          exact L.nil (A.on (hO _ _ _ n6911) (Le.mk [(0, 0), (1, 1), (2, 2)] hm rfl (S8 rfl rfl rfl rfl rfl rfl rfl rfl rfl rfl rfl rfl rfl rfl rfl rfl) trivial (B3 rfl rfl rfl rfl rfl rfl rfl rfl rfl)))
        · refine L.call [false, false] [] [] 3 hF rfl rfl rfl ent94 rfl rfl rfl rfl rfl (Fspec_l16Least_gives kj2  v19 v23 r25 hr25) rfl ?_
          exact L.nil (A.on (hO _ _ _ n7165) (Le.mk [(0, 0), (1, 1), (2, 2)] hm rfl (S7 rfl rfl rfl rfl rfl rfl rfl rfl rfl rfl rfl rfl rfl rfl) trivial (B3 rfl rfl rfl rfl rfl rfl rfl rfl rfl)))
        · refine L.loadPtr shape3 hF rfl rfl rfl rfl rfl rfl ?_
          exact L.nil (A.on (hO _ _ _ n7933) (Le.mk [(0, 0), (1, 1), (2, 2)] hm rfl (S8 rfl rfl rfl rfl rfl rfl rfl rfl rfl rfl rfl rfl rfl rfl rfl rfl) trivial (B3 rfl rfl rfl rfl rfl rfl rfl rfl rfl)))
        · refine L.alloc 3 info25 rfl hF rfl rfl rfl rfl ?_
          exact L.nil (A.on (hO _ _ _ n39677) (Le.mk [(0, 0), (1, 1), (2, 3), (3, 2)] hm rfl (S9 rfl rfl rfl rfl rfl rfl rfl rfl rfl rfl rfl rfl rfl rfl rfl rfl rfl rfl) trivial (B4 rfl rfl rfl rfl rfl rfl rfl rfl rfl rfl rfl rfl)))
      have n35829 : W 7 #[true, false, true, false, true, true, true, true, true, true, false, true, false, false, false, true, false] (mkSt [(3, one (Cell.ptr 0 0)), (4, one (Cell.ptr 1 0)), (6, one (Cell.ptr 2 0)), (16, one (Cell.ptr 3 0)), (18, one (Cell.ptr 3 1)), (24, one (cI r25)), (25, one (Cell.ptr 3 3)), (27, one (Cell.ptr 0 3))] [] [(0, (bx v21 v22 v23 v24)), (1, (bx 0 0 0 0)), (2, (bx 0 0 0 0)), (3, (bx v17 v18 v19 v20))] 4) := by
        refine hI _ _ _ ?_
        refine A.all [1, 3, 10, 12] (by kernel_rfl) rfl ⟨⟨_, rfl, ?_⟩, ⟨_, rfl, ?_⟩, ⟨_, rfl, ?_⟩, ⟨_, rfl, ?_⟩, trivial⟩
        · refine L.loadPtr shape3 hF rfl rfl rfl rfl rfl rfl ?_
          exact L.nil (A.on (hO _ _ _ n35831) (Le.mk [(0, 0), (1, 1), (2, 2), (3, 3)] hm rfl (S8 rfl rfl rfl rfl rfl rfl rfl rfl rfl rfl rfl rfl rfl rfl rfl rfl) trivial (B4 rfl rfl rfl rfl rfl rfl rfl rfl rfl rfl rfl rfl)))
        · refine L.loadPtr shape3 hF rfl rfl rfl rfl rfl rfl ?_
          exact L.nil (A.on (hO _ _ _ n35837) (Le.mk [(0, 0), (1, 1), (2, 2), (3, 3)] hm rfl (S8 rfl rfl rfl rfl rfl rfl rfl rfl rfl rfl rfl rfl rfl rfl rfl rfl) trivial (B4 rfl rfl rfl rfl rfl rfl rfl rfl rfl rfl rfl rfl)))
        · refine L.loadPtr shape3 hF rfl rfl rfl rfl rfl rfl ?_
          exact L.nil (A.on (hO _ _ _ n36853) (Le.mk [(0, 0), (1, 1), (2, 2), (3, 3)] hm rfl (S8 rfl rfl rfl rfl rfl rfl rfl rfl rfl rfl rfl rfl rfl rfl rfl rfl) trivial (B4 rfl rfl rfl rfl rfl rfl rfl rfl rfl rfl rfl rfl)))
        · refine L.loadPtr shape3 hF rfl rfl rfl rfl rfl rfl ?_
          exact L.nil (A.on (hO _ _ _ n39925) (Le.mk [(0, 0), (1, 1), (2, 2), (3, 3)] hm rfl (S8 rfl rfl rfl rfl rfl rfl rfl rfl rfl rfl rfl rfl rfl rfl rfl rfl) trivial (B4 rfl rfl rfl rfl rfl rfl rfl rfl rfl rfl rfl rfl)))
      have n3061 : W 8 #[true, false, true, false, true, true, true, true, true, true, false, true, false, false, false, false, false] (mkSt [(3, one (Cell.ptr 0 0)), (4, one (Cell.ptr 1 0)), (16, one (Cell.ptr 2 0)), (18, one (Cell.ptr 2 1)), (24, one (cI r25)), (25, one (Cell.ptr 2 3)), (27, one (Cell.ptr 0 3))] [] [(0, (bx v21 v22 v23 v24)), (1, (bx 0 0 0 0)), (2, (bx v17 v18 v19 v20))] 3) := by
        refine hI _ _ _ ?_
        refine A.all [1, 3, 10, 12, 15] (by kernel_rfl) rfl ⟨⟨_, rfl, ?_⟩, ⟨_, rfl, ?_⟩, ⟨_, rfl, ?_⟩, ⟨_, rfl, ?_⟩, ⟨_, rfl, ?_⟩, trivial⟩
        · refine L.loadPtr shape3 hF rfl rfl rfl rfl rfl rfl ?_
          exact L.nil (A.on (hO _ _ _ n3063) (Le.mk [(0, 0), (1, 1), (2, 2)] hm rfl (S7 rfl rfl rfl rfl rfl rfl rfl rfl rfl rfl rfl rfl rfl rfl) trivial (B3 rfl rfl rfl rfl rfl rfl rfl rfl rfl)))
        · refine L.loadPtr shape3 hF rfl rfl rfl rfl rfl rfl ?_
          exact L.nil (A.on (hO _ _ _ n3069) (Le.mk [(0, 0), (1, 1), (2, 2)] hm rfl (S7 rfl rfl rfl rfl rfl rfl rfl rfl rfl rfl rfl rfl rfl rfl) trivial (B3 rfl rfl rfl rfl rfl rfl rfl rfl rfl)))
        · refine L.loadPtr shape3 hF rfl rfl rfl rfl rfl rfl ?_
          exact L.nil (A.on (hO _ _ _ n4085) (Le.mk [(0, 0), (1, 1), (2, 2)] hm rfl (S7 rfl rfl rfl rfl rfl rfl rfl rfl rfl rfl rfl rfl rfl rfl) trivial (B3 rfl rfl rfl rfl rfl rfl rfl rfl rfl)))
        · refine L.loadPtr shape3 hF rfl rfl rfl rfl rfl rfl ?_
          exact L.nil (A.on (hO _ _ _ n7157) (Le.mk [(0, 0), (1, 1), (2, 2)] hm rfl (S7 rfl rfl rfl rfl rfl rfl rfl rfl rfl rfl rfl rfl rfl rfl) trivial (B3 rfl rfl rfl rfl rfl rfl rfl rfl rfl)))
        · refine L.alloc 3 info25 rfl hF rfl rfl rfl rfl ?_
          exact L.nil (A.on (hO _ _ _ n35829) (Le.mk [(0, 0), (1, 1), (2, 3), (3, 2)] hm rfl (S8 rfl rfl rfl rfl rfl rfl rfl rfl rfl rfl rfl rfl rfl rfl rfl rfl) trivial (B4 rfl rfl rfl rfl rfl rfl rfl rfl rfl rfl rfl rfl)))
      have n3679 : W 8 #[true, true, true, true, true, false, true, false, false, true, true, true, false, false, false, false, false] (mkSt [(3, one (Cell.ptr 0 0)), (4, one (Cell.ptr 1 0)), (17, one (cI v17)), (19, one (cI v18)), (20, one (Cell.ptr 2 2)), (22, one (Cell.ptr 0 2)), (26, one (cI v20)), (27, one (Cell.ptr 0 3))] [] [(0, (bx v21 v22 v23 v24)), (1, (bx 0 0 0 0)), (2, (bx v17 v18 v19 v20))] 3) := by
        refine hI _ _ _ ?_
        refine A.all [5, 7, 12, 15] (by kernel_rfl) rfl ⟨⟨_, rfl, ?_⟩, ⟨_, rfl, ?_⟩, ⟨_, rfl, ?_⟩, ⟨_, rfl, ?_⟩, trivial⟩
        · refine L.loadPtr shape3 hF rfl rfl rfl rfl rfl rfl ?_
          exact L.nil (A.on (hO _ _ _ n3711) (Le.mk [(0, 0), (1, 1)] hm rfl (S8 rfl rfl rfl rfl rfl rfl rfl rfl rfl rfl rfl rfl rfl rfl rfl rfl) trivial (B2 rfl rfl rfl rfl rfl rfl)))
        · refine L.loadPtr shape3 hF rfl rfl rfl rfl rfl rfl ?_
          exact L.nil (A.on (hO _ _ _ n3807) (Le.mk [(0, 0), (1, 1), (2, 2)] hm rfl (S8 rfl rfl rfl rfl rfl rfl rfl rfl rfl rfl rfl rfl rfl rfl rfl rfl) trivial (B3 rfl rfl rfl rfl rfl rfl rfl rfl rfl)))
        · refine L.loadPtr shape3 hF rfl rfl rfl rfl rfl rfl ?_
          exact L.nil (A.on (hO _ _ _ n7775) (Le.mk [(0, 0), (1, 1), (2, 2)] hm rfl (S8 rfl rfl rfl rfl rfl rfl rfl rfl rfl rfl rfl rfl rfl rfl rfl rfl) trivial (B3 rfl rfl rfl rfl rfl rfl rfl rfl rfl)))
        · refine L.alloc 3 info25 rfl hF rfl rfl rfl rfl ?_
          exact L.nil (A.on (hO _ _ _ n36447) (Le.mk [(0, 0), (1, 1), (2, 3), (3, 2)] hm rfl (S9 rfl rfl rfl rfl rfl rfl rfl rfl rfl rfl rfl rfl rfl rfl rfl rfl rfl rfl) trivial (B4 rfl rfl rfl rfl rfl rfl rfl rfl rfl rfl rfl rfl)))
      have n40533 : W 8 #[true, false, true, false, true, false, true, false, false, true, true, true, true, false, false, true, false] (mkSt [(3, one (Cell.ptr 0 0)), (4, one (Cell.ptr 1 0)), (6, one (Cell.ptr 2 0)), (16, one (Cell.ptr 3 0)), (18, one (Cell.ptr 3 1)), (20, one (Cell.ptr 3 2)), (22, one (Cell.ptr 0 2)), (26, one (cI v20)), (28, one (cI v24))] [] [(0, (bx v21 v22 v23 v24)), (1, (bx 0 0 0 0)), (2, (bx 0 0 0 0)), (3, (bx v17 v18 v19 v20))] 4) := by
        refine hI _ _ _ ?_
        refine A.all [1, 3, 5, 7] (by kernel_rfl) rfl ⟨⟨_, rfl, ?_⟩, ⟨_, rfl, ?_⟩, ⟨_, rfl, ?_⟩, ⟨_, rfl, ?_⟩, trivial⟩
        · refine L.loadPtr shape3 hF rfl rfl rfl rfl rfl rfl ?_
          exact L.nil (A.on (hO _ _ _ n40535) (Le.mk [(0, 0), (1, 1), (2, 2), (3, 3)] hm rfl (S9 rfl rfl rfl rfl rfl rfl rfl rfl rfl rfl rfl rfl rfl rfl rfl rfl rfl rfl) trivial (B4 rfl rfl rfl rfl rfl rfl rfl rfl rfl rfl rfl rfl)))
        · refine L.loadPtr shape3 hF rfl rfl rfl rfl rfl rfl ?_
          exact L.nil (A.on (hO _ _ _ n40541) (Le.mk [(0, 0), (1, 1), (2, 2), (3, 3)] hm rfl (S9 rfl rfl rfl rfl rfl rfl rfl rfl rfl rfl rfl rfl rfl rfl rfl rfl rfl rfl) trivial (B4 rfl rfl rfl rfl rfl rfl rfl rfl rfl rfl rfl rfl)))
        · refine L.loadPtr shape3 hF rfl rfl rfl rfl rfl rfl ?_
          exact L.nil (A.on (hO _ _ _ n40565) (Le.mk [(0, 0), (1, 1), (2, 2), (3, 3)] hm rfl (S9 rfl rfl rfl rfl rfl rfl rfl rfl rfl rfl rfl rfl rfl rfl rfl rfl rfl rfl) trivial (B4 rfl rfl rfl rfl rfl rfl rfl rfl rfl rfl rfl rfl)))
        · refine L.loadPtr shape3 hF rfl rfl rfl rfl rfl rfl ?_
          exact L.nil (A.on (hO _ _ _ n40661) (Le.mk [(0, 0), (1, 1), (2, 2), (3, 3)] hm rfl (S9 rfl rfl rfl rfl rfl rfl rfl rfl rfl rfl rfl rfl rfl rfl rfl rfl rfl rfl) trivial (B4 rfl rfl rfl rfl rfl rfl rfl rfl rfl rfl rfl rfl)))
      have n36439 : W 8 #[true, true, true, false, true, false, true, false, false, true, true, true, false, false, false, true, false] (mkSt [(3, one (Cell.ptr 0 0)), (4, one (Cell.ptr 1 0)), (6, one (Cell.ptr 2 0)), (17, one (cI v17)), (18, one (Cell.ptr 3 1)), (20, one (Cell.ptr 3 2)), (22, one (Cell.ptr 0 2)), (26, one (cI v20)), (27, one (Cell.ptr 0 3))] [] [(0, (bx v21 v22 v23 v24)), (1, (bx 0 0 0 0)), (2, (bx 0 0 0 0)), (3, (bx v17 v18 v19 v20))] 4) := by
        refine hI _ _ _ ?_
        refine A.all [3, 5, 7, 12] (by kernel_rfl) rfl ⟨⟨_, rfl, ?_⟩, ⟨_, rfl, ?_⟩, ⟨_, rfl, ?_⟩, ⟨_, rfl, ?_⟩, trivial⟩
        · refine L.loadPtr shape3 hF rfl rfl rfl rfl rfl rfl ?_
          exact L.nil (A.on (hO _ _ _ n36447) (Le.mk [(0, 0), (1, 1), (2, 2), (3, 3)] hm rfl (S9 rfl rfl rfl rfl rfl rfl rfl rfl rfl rfl rfl rfl rfl rfl rfl rfl rfl rfl) trivial (B4 rfl rfl rfl rfl rfl rfl rfl rfl rfl rfl rfl rfl)))
        · refine L.loadPtr shape3 hF rfl rfl rfl rfl rfl rfl ?_
          exact L.nil (A.on (hO _ _ _ n36471) (Le.mk [(0, 0), (1, 1), (2, 2), (3, 3)] hm rfl (S9 rfl rfl rfl rfl rfl rfl rfl rfl rfl rfl rfl rfl rfl rfl rfl rfl rfl rfl) trivial (B4 rfl rfl rfl rfl rfl rfl rfl rfl rfl rfl rfl rfl)))
        · refine L.loadPtr shape3 hF rfl rfl rfl rfl rfl rfl ?_
          exact L.nil (A.on (hO _ _ _ n36567) (Le.mk [(0, 0), (1, 1), (2, 2), (3, 3)] hm rfl (S9 rfl rfl rfl rfl rfl rfl rfl rfl rfl rfl rfl rfl rfl rfl rfl rfl rfl rfl) trivial (B4 rfl rfl rfl rfl rfl rfl rfl rfl rfl rfl rfl rfl)))
        · refine L.loadPtr shape3 hF rfl rfl rfl rfl rfl rfl ?_
          exact L.nil (A.on (hO _ _ _ n40535) (Le.mk [(0, 0), (1, 1), (2, 2), (3, 3)] hm rfl (S9 rfl rfl rfl rfl rfl rfl rfl rfl rfl rfl rfl rfl rfl rfl rfl rfl rfl rfl) trivial (B4 rfl rfl rfl rfl rfl rfl rfl rfl rfl rfl rfl rfl)))
      have n36445 : W 8 #[true, false, true, true, true, false, true, false, false, true, true, true, false, false, false, true, false] (mkSt [(3, one (Cell.ptr 0 0)), (4, one (Cell.ptr 1 0)), (6, one (Cell.ptr 2 0)), (16, one (Cell.ptr 3 0)), (19, one (cI v18)), (20, one (Cell.ptr 3 2)), (22, one (Cell.ptr 0 2)), (26, one (cI v20)), (27, one (Cell.ptr 0 3))] [] [(0, (bx v21 v22 v23 v24)), (1, (bx 0 0 0 0)), (2, (bx 0 0 0 0)), (3, (bx v17 v18 v19 v20))] 4) := by
        refine hI _ _ _ ?_
        refine A.all [1, 5, 7, 12] (by kernel_rfl) rfl ⟨⟨_, rfl, ?_⟩, ⟨_, rfl, ?_⟩, ⟨_, rfl, ?_⟩, ⟨_, rfl, ?_⟩, trivial⟩
        · refine L.loadPtr shape3 hF rfl rfl rfl rfl rfl rfl ?_
          exact L.nil (A.on (hO _ _ _ n36447) (Le.mk [(0, 0), (1, 1), (2, 2), (3, 3)] hm rfl (S9 rfl rfl rfl rfl rfl rfl rfl rfl rfl rfl rfl rfl rfl rfl rfl rfl rfl rfl) trivial (B4 rfl rfl rfl rfl rfl rfl rfl rfl rfl rfl rfl rfl)))
        · refine L.loadPtr shape3 hF rfl rfl rfl rfl rfl rfl ?_
          exact L.nil (A.on (hO _ _ _ n36477) (Le.mk [(0, 0), (1, 1), (2, 2), (3, 3)] hm rfl (S9 rfl rfl rfl rfl rfl rfl rfl rfl rfl rfl rfl rfl rfl rfl rfl rfl rfl rfl) trivial (B4 rfl rfl rfl rfl rfl rfl rfl rfl rfl rfl rfl rfl)))
        · refine L.loadPtr shape3 hF rfl rfl rfl rfl rfl rfl ?_
          exact L.nil (A.on (hO _ _ _ n36573) (Le.mk [(0, 0), (1, 1), (2, 2), (3, 3)] hm rfl (S9 rfl rfl rfl rfl rfl rfl rfl rfl rfl rfl rfl rfl rfl rfl rfl rfl rfl rfl) trivial (B4 rfl rfl rfl rfl rfl rfl rfl rfl rfl rfl rfl rfl)))
        · refine L.loadPtr shape3 hF rfl rfl rfl rfl rfl rfl ?_
          exact L.nil (A.on (hO _ _ _ n40541) (Le.mk [(0, 0), (1, 1), (2, 2), (3, 3)] hm rfl (S9 rfl rfl rfl rfl rfl rfl rfl rfl rfl rfl rfl rfl rfl rfl rfl rfl rfl rfl) trivial (B4 rfl rfl rfl rfl rfl rfl rfl rfl rfl rfl rfl rfl)))
      have n39517 : W 8 #[true, false, true, true, true, false, true, false, false, true, false, true, true, false, false, true, false] (mkSt [(3, one (Cell.ptr 0 0)), (4, one (Cell.ptr 1 0)), (6, one (Cell.ptr 2 0)), (16, one (Cell.ptr 3 0)), (19, one (cI v18)), (20, one (Cell.ptr 3 2)), (22, one (Cell.ptr 0 2)), (25, one (Cell.ptr 3 3)), (28, one (cI v24))] [] [(0, (bx v21 v22 v23 v24)), (1, (bx 0 0 0 0)), (2, (bx 0 0 0 0)), (3, (bx v17 v18 v19 v20))] 4) := by
        refine hI _ _ _ ?_
        refine A.all [1, 5, 7, 10] (by kernel_rfl) rfl ⟨⟨_, rfl, ?_⟩, ⟨_, rfl, ?_⟩, ⟨_, rfl, ?_⟩, ⟨_, rfl, ?_⟩, trivial⟩
        · refine L.loadPtr shape3 hF rfl rfl rfl rfl rfl rfl ?_
          exact L.nil (A.on (hO _ _ _ n39519) (Le.mk [(0, 0), (1, 1), (2, 2), (3, 3)] hm rfl (S9 rfl rfl rfl rfl rfl rfl rfl rfl rfl rfl rfl rfl rfl rfl rfl rfl rfl rfl) trivial (B4 rfl rfl rfl rfl rfl rfl rfl rfl rfl rfl rfl rfl)))
        · refine L.loadPtr shape3 hF rfl rfl rfl rfl rfl rfl ?_
          exact L.nil (A.on (hO _ _ _ n39549) (Le.mk [(0, 0), (1, 1), (2, 2), (3, 3)] hm rfl (S9 rfl rfl rfl rfl rfl rfl rfl rfl rfl rfl rfl rfl rfl rfl rfl rfl rfl rfl) trivial (B4 rfl rfl rfl rfl rfl rfl rfl rfl rfl rfl rfl rfl)))
        · refine L.loadPtr shape3 hF rfl rfl rfl rfl rfl rfl ?_
          exact L.nil (A.on (hO _ _ _ n39645) (Le.mk [(0, 0), (1, 1), (2, 2), (3, 3)] hm rfl (S9 rfl rfl rfl rfl rfl rfl rfl rfl rfl rfl rfl rfl rfl rfl rfl rfl rfl rfl) trivial (B4 rfl rfl rfl rfl rfl rfl rfl rfl rfl rfl rfl rfl)))
        · refine L.loadPtr shape3 hF rfl rfl rfl rfl rfl rfl ?_
          exact L.nil (A.on (hO _ _ _ n40541) (Le.mk [(0, 0), (1, 1), (2, 2), (3, 3)] hm rfl (S9 rfl rfl rfl rfl rfl rfl rfl rfl rfl rfl rfl rfl rfl rfl rfl rfl rfl rfl) trivial (B4 rfl rfl rfl rfl rfl rfl rfl rfl rfl rfl rfl rfl)))
      have n35423 : W 8 #[true, true, true, true, true, false, true, false, false, true, false, true, false, false, false, true, false] (mkSt [(3, one (Cell.ptr 0 0)), (4, one (Cell.ptr 1 0)), (6, one (Cell.ptr 2 0)), (17, one (cI v17)), (19, one (cI v18)), (20, one (Cell.ptr 3 2)), (22, one (Cell.ptr 0 2)), (25, one (Cell.ptr 3 3)), (27, one (Cell.ptr 0 3))] [] [(0, (bx v21 v22 v23 v24)), (1, (bx 0 0 0 0)), (2, (bx 0 0 0 0)), (3, (bx v17 v18 v19 v20))] 4) := by
        refine hI _ _ _ ?_
        refine A.all [5, 7, 10, 12] (by kernel_rfl) rfl ⟨⟨_, rfl, ?_⟩, ⟨_, rfl, ?_⟩, ⟨_, rfl, ?_⟩, ⟨_, rfl, ?_⟩, trivial⟩
        · refine L.loadPtr shape3 hF rfl rfl rfl rfl rfl rfl ?_
          exact L.nil (A.on (hO _ _ _ n35455) (Le.mk [(0, 0), (1, 1), (2, 2), (3, 3)] hm rfl (S9 rfl rfl rfl rfl rfl rfl rfl rfl rfl rfl rfl rfl rfl rfl rfl rfl rfl rfl) trivial (B4 rfl rfl rfl rfl rfl rfl rfl rfl rfl rfl rfl rfl)))
        · refine L.loadPtr shape3 hF rfl rfl rfl rfl rfl rfl ?_
          exact L.nil (A.on (hO _ _ _ n35551) (Le.mk [(0, 0), (1, 1), (2, 2), (3, 3)] hm rfl (S9 rfl rfl rfl rfl rfl rfl rfl rfl rfl rfl rfl rfl rfl rfl rfl rfl rfl rfl) trivial (B4 rfl rfl rfl rfl rfl rfl rfl rfl rfl rfl rfl rfl)))
        · refine L.loadPtr shape3 hF rfl rfl rfl rfl rfl rfl ?_
          exact L.nil (A.on (hO _ _ _ n36447) (Le.mk [(0, 0), (1, 1), (2, 2), (3, 3)] hm rfl (S9 rfl rfl rfl rfl rfl rfl rfl rfl rfl rfl rfl rfl rfl rfl rfl rfl rfl rfl) trivial (B4 rfl rfl rfl rfl rfl rfl rfl rfl rfl rfl rfl rfl)))
        · refine L.loadPtr shape3 hF rfl rfl rfl rfl rfl rfl ?_
          exact L.nil (A.on (hO _ _ _ n39519) (Le.mk [(0, 0), (1, 1), (2, 2), (3, 3)] hm rfl (S9 rfl rfl rfl rfl rfl rfl rfl rfl rfl rfl rfl rfl rfl rfl rfl rfl rfl rfl) trivial (B4 rfl rfl rfl rfl rfl rfl rfl rfl rfl rfl rfl rfl)))
      have n36469 : W 8 #[true, false, true, false, true, true, true, false, false, true, true, true, false, false, false, true, false] (mkSt [(3, one (Cell.ptr 0 0)), (4, one (Cell.ptr 1 0)), (6, one (Cell.ptr 2 0)), (16, one (Cell.ptr 3 0)), (18, one (Cell.ptr 3 1)), (21, one (cI v19)), (22, one (Cell.ptr 0 2)), (26, one (cI v20)), (27, one (Cell.ptr 0 3))] [] [(0, (bx v21 v22 v23 v24)), (1, (bx 0 0 0 0)), (2, (bx 0 0 0 0)), (3, (bx v17 v18 v19 v20))] 4) := by
        refine hI _ _ _ ?_
        refine A.all [1, 3, 7, 12] (by kernel_rfl) rfl ⟨⟨_, rfl, ?_⟩, ⟨_, rfl, ?_⟩, ⟨_, rfl, ?_⟩, ⟨_, rfl, ?_⟩, trivial⟩
        · refine L.loadPtr shape3 hF rfl rfl rfl rfl rfl rfl ?_
          exact L.nil (A.on (hO _ _ _ n36471) (Le.mk [(0, 0), (1, 1), (2, 2), (3, 3)] hm rfl (S9 rfl rfl rfl rfl rfl rfl rfl rfl rfl rfl rfl rfl rfl rfl rfl rfl rfl rfl) trivial (B4 rfl rfl rfl rfl rfl rfl rfl rfl rfl rfl rfl rfl)))
        · refine L.loadPtr shape3 hF rfl rfl rfl rfl rfl rfl ?_
          exact L.nil (A.on (hO _ _ _ n36477) (Le.mk [(0, 0), (1, 1), (2, 2), (3, 3)] hm rfl (S9 rfl rfl rfl rfl rfl rfl rfl rfl rfl rfl rfl rfl rfl rfl rfl rfl rfl rfl) trivial (B4 rfl rfl rfl rfl rfl rfl rfl rfl rfl rfl rfl rfl)))
        · refine L.loadPtr shape3 hF rfl rfl rfl rfl rfl rfl ?_
          exact L.nil (A.on (hO _ _ _ n36597) (Le.mk [(0, 0), (1, 1), (2, 2), (3, 3)] hm rfl (S9 rfl rfl rfl rfl rfl rfl rfl rfl rfl rfl rfl rfl rfl rfl rfl rfl rfl rfl) trivial (B4 rfl rfl rfl rfl rfl rfl rfl rfl rfl rfl rfl rfl)))
        · refine L.loadPtr shape3 hF rfl rfl rfl rfl rfl rfl ?_
          exact L.nil (A.on (hO _ _ _ n40565) (Le.mk [(0, 0), (1, 1), (2, 2), (3, 3)] hm rfl (S9 rfl rfl rfl rfl rfl rfl rfl rfl rfl rfl rfl rfl rfl rfl rfl rfl rfl rfl) trivial (B4 rfl rfl rfl rfl rfl rfl rfl rfl rfl rfl rfl rfl)))
      have n39541 : W 8 #[true, false, true, false, true, true, true, false, false, true, false, true, true, false, false, true, false] (mkSt [(3, one (Cell.ptr 0 0)), (4, one (Cell.ptr 1 0)), (6, one (Cell.ptr 2 0)), (16, one (Cell.ptr 3 0)), (18, one (Cell.ptr 3 1)), (21, one (cI v19)), (22, one (Cell.ptr 0 2)), (25, one (Cell.ptr 3 3)), (28, one (cI v24))] [] [(0, (bx v21 v22 v23 v24)), (1, (bx 0 0 0 0)), (2, (bx 0 0 0 0)), (3, (bx v17 v18 v19 v20))] 4) := by
        refine hI _ _ _ ?_
        refine A.all [1, 3, 7, 10] (by kernel_rfl) rfl ⟨⟨_, rfl, ?_⟩, ⟨_, rfl, ?_⟩, ⟨_, rfl, ?_⟩, ⟨_, rfl, ?_⟩, trivial⟩
        · refine L.loadPtr shape3 hF rfl rfl rfl rfl rfl rfl ?_
          exact L.nil (A.on (hO _ _ _ n39543) (Le.mk [(0, 0), (1, 1), (2, 2), (3, 3)] hm rfl (S9 rfl rfl rfl rfl rfl rfl rfl rfl rfl rfl rfl rfl rfl rfl rfl rfl rfl rfl) trivial (B4 rfl rfl rfl rfl rfl rfl rfl rfl rfl rfl rfl rfl)))
        · refine L.loadPtr shape3 hF rfl rfl rfl rfl rfl rfl ?_
          exact L.nil (A.on (hO _ _ _ n39549) (Le.mk [(0, 0), (1, 1), (2, 2), (3, 3)] hm rfl (S9 rfl rfl rfl rfl rfl rfl rfl rfl rfl rfl rfl rfl rfl rfl rfl rfl rfl rfl) trivial (B4 rfl rfl rfl rfl rfl rfl rfl rfl rfl rfl rfl rfl)))
        · refine L.loadPtr shape3 hF rfl rfl rfl rfl rfl rfl ?_
          exact L.nil (A.on (hO _ _ _ n39669) (Le.mk [(0, 0), (1, 1), (2, 2), (3, 3)] hm rfl (S9 rfl rfl rfl rfl rfl rfl rfl rfl rfl rfl rfl rfl rfl rfl rfl rfl rfl rfl) trivial (B4 rfl rfl rfl rfl rfl rfl rfl rfl rfl rfl rfl rfl)))
        · refine L.loadPtr shape3 hF rfl rfl rfl rfl rfl rfl ?_
          exact L.nil (A.on (hO _ _ _ n40565) (Le.mk [(0, 0), (1, 1), (2, 2), (3, 3)] hm rfl (S9 rfl rfl rfl rfl rfl rfl rfl rfl rfl rfl rfl rfl rfl rfl rfl rfl rfl rfl) trivial (B4 rfl rfl rfl rfl rfl rfl rfl rfl rfl rfl rfl rfl)))
      have n35453 : W 8 #[true, false, true, true, true, true, true, false, false, true, false, true, false, false, false, true, false] (mkSt [(3, one (Cell.ptr 0 0)), (4, one (Cell.ptr 1 0)), (6, one (Cell.ptr 2 0)), (16, one (Cell.ptr 3 0)), (19, one (cI v18)), (21, one (cI v19)), (22, one (Cell.ptr 0 2)), (25, one (Cell.ptr 3 3)), (27, one (Cell.ptr 0 3))] [] [(0, (bx v21 v22 v23 v24)), (1, (bx 0 0 0 0)), (2, (bx 0 0 0 0)), (3, (bx v17 v18 v19 v20))] 4) := by
        refine hI _ _ _ ?_
        refine A.all [1, 7, 10, 12] (by kernel_rfl) rfl ⟨⟨_, rfl, ?_⟩, ⟨_, rfl, ?_⟩, ⟨_, rfl, ?_⟩, ⟨_, rfl, ?_⟩, trivial⟩
        · refine L.loadPtr shape3 hF rfl rfl rfl rfl rfl rfl ?_
          exact L.nil (A.on (hO _ _ _ n35455) (Le.mk [(0, 0), (1, 1), (2, 2), (3, 3)] hm rfl (S9 rfl rfl rfl rfl rfl rfl rfl rfl rfl rfl rfl rfl rfl rfl rfl rfl rfl rfl) trivial (B4 rfl rfl rfl rfl rfl rfl rfl rfl rfl rfl rfl rfl)))
        · refine L.loadPtr shape3 hF rfl rfl rfl rfl rfl rfl ?_
          exact L.nil (A.on (hO _ _ _ n35581) (Le.mk [(0, 0), (1, 1), (2, 2), (3, 3)] hm rfl (S9 rfl rfl rfl rfl rfl rfl rfl rfl rfl rfl rfl rfl rfl rfl rfl rfl rfl rfl) trivial (B4 rfl rfl rfl rfl rfl rfl rfl rfl rfl rfl rfl rfl)))
        · refine L.loadPtr shape3 hF rfl rfl rfl rfl rfl rfl ?_
          exact L.nil (A.on (hO _ _ _ n36477) (Le.mk [(0, 0), (1, 1), (2, 2), (3, 3)] hm rfl (S9 rfl rfl rfl rfl rfl rfl rfl rfl rfl rfl rfl rfl rfl rfl rfl rfl rfl rfl) trivial (B4 rfl rfl rfl rfl rfl rfl rfl rfl rfl rfl rfl rfl)))
        · refine L.loadPtr shape3 hF rfl rfl rfl rfl rfl rfl ?_
          exact L.nil (A.on (hO _ _ _ n39549) (Le.mk [(0, 0), (1, 1), (2, 2), (3, 3)] hm rfl (S9 rfl rfl rfl rfl rfl rfl rfl rfl rfl rfl rfl rfl rfl rfl rfl rfl rfl rfl) trivial (B4 rfl rfl rfl rfl rfl rfl rfl rfl rfl rfl rfl rfl)))
      have n39511 : W 8 #[true, true, true, false, true, false, true, false, false, true, false, true, true, false, false, true, false] (mkSt [(3, one (Cell.ptr 0 0)), (4, one (Cell.ptr 1 0)), (6, one (Cell.ptr 2 0)), (17, one (cI v17)), (18, one (Cell.ptr 3 1)), (20, one (Cell.ptr 3 2)), (22, one (Cell.ptr 0 2)), (25, one (Cell.ptr 3 3)), (28, one (cI v24))] [] [(0, (bx v21 v22 v23 v24)), (1, (bx 0 0 0 0)), (2, (bx 0 0 0 0)), (3, (bx v17 v18 v19 v20))] 4) := by
        refine hI _ _ _ ?_
        refine A.all [3, 5, 7, 10] (by kernel_rfl) rfl ⟨⟨_, rfl, ?_⟩, ⟨_, rfl, ?_⟩, ⟨_, rfl, ?_⟩, ⟨_, rfl, ?_⟩, trivial⟩
        · refine L.loadPtr shape3 hF rfl rfl rfl rfl rfl rfl ?_
          exact L.nil (A.on (hO _ _ _ n39519) (Le.mk [(0, 0), (1, 1), (2, 2), (3, 3)] hm rfl (S9 rfl rfl rfl rfl rfl rfl rfl rfl rfl rfl rfl rfl rfl rfl rfl rfl rfl rfl) trivial (B4 rfl rfl rfl rfl rfl rfl rfl rfl rfl rfl rfl rfl)))
        · refine L.loadPtr shape3 hF rfl rfl rfl rfl rfl rfl ?_
          exact L.nil (A.on (hO _ _ _ n39543) (Le.mk [(0, 0), (1, 1), (2, 2), (3, 3)] hm rfl (S9 rfl rfl rfl rfl rfl rfl rfl rfl rfl rfl rfl rfl rfl rfl rfl rfl rfl rfl) trivial (B4 rfl rfl rfl rfl rfl rfl rfl rfl rfl rfl rfl rfl)))
        · refine L.loadPtr shape3 hF rfl rfl rfl rfl rfl rfl ?_
          exact L.nil (A.on (hO _ _ _ n39639) (Le.mk [(0, 0), (1, 1), (2, 2), (3, 3)] hm rfl (S9 rfl rfl rfl rfl rfl rfl rfl rfl rfl rfl rfl rfl rfl rfl rfl rfl rfl rfl) trivial (B4 rfl rfl rfl rfl rfl rfl rfl rfl rfl rfl rfl rfl)))
        · refine L.loadPtr shape3 hF rfl rfl rfl rfl rfl rfl ?_
          exact L.nil (A.on (hO _ _ _ n40535) (Le.mk [(0, 0), (1, 1), (2, 2), (3, 3)] hm rfl (S9 rfl rfl rfl rfl rfl rfl rfl rfl rfl rfl rfl rfl rfl rfl rfl rfl rfl rfl) trivial (B4 rfl rfl rfl rfl rfl rfl rfl rfl rfl rfl rfl rfl)))
      have n35543 : W 8 #[true, true, true, false, true, false, true, true, false, true, false, true, false, false, false, true, false] (mkSt [(3, one (Cell.ptr 0 0)), (4, one (Cell.ptr 1 0)), (6, one (Cell.ptr 2 0)), (17, one (cI v17)), (18, one (Cell.ptr 3 1)), (20, one (Cell.ptr 3 2)), (23, one (cI v23)), (25, one (Cell.ptr 3 3)), (27, one (Cell.ptr 0 3))] [] [(0, (bx v21 v22 v23 v24)), (1, (bx 0 0 0 0)), (2, (bx 0 0 0 0)), (3, (bx v17 v18 v19 v20))] 4) := by
        refine hI _ _ _ ?_
        refine A.all [3, 5, 10, 12] (by kernel_rfl) rfl ⟨⟨_, rfl, ?_⟩, ⟨_, rfl, ?_⟩, ⟨_, rfl, ?_⟩, ⟨_, rfl, ?_⟩, trivial⟩
        · refine L.loadPtr shape3 hF rfl rfl rfl rfl rfl rfl ?_
          exact L.nil (A.on (hO _ _ _ n35551) (Le.mk [(0, 0), (1, 1), (2, 2), (3, 3)] hm rfl (S9 rfl rfl rfl rfl rfl rfl rfl rfl rfl rfl rfl rfl rfl rfl rfl rfl rfl rfl) trivial (B4 rfl rfl rfl rfl rfl rfl rfl rfl rfl rfl rfl rfl)))
        · refine L.loadPtr shape3 hF rfl rfl rfl rfl rfl rfl ?_
          exact L.nil (A.on (hO _ _ _ n35575) (Le.mk [(0, 0), (1, 1), (2, 2), (3, 3)] hm rfl (S9 rfl rfl rfl rfl rfl rfl rfl rfl rfl rfl rfl rfl rfl rfl rfl rfl rfl rfl) trivial (B4 rfl rfl rfl rfl rfl rfl rfl rfl rfl rfl rfl rfl)))
        · refine L.loadPtr shape3 hF rfl rfl rfl rfl rfl rfl ?_
          exact L.nil (A.on (hO _ _ _ n36567) (Le.mk [(0, 0), (1, 1), (2, 2), (3, 3)] hm rfl (S9 rfl rfl rfl rfl rfl rfl rfl rfl rfl rfl rfl rfl rfl rfl rfl rfl rfl rfl) trivial (B4 rfl rfl rfl rfl rfl rfl rfl rfl rfl rfl rfl rfl)))
        · refine L.loadPtr shape3 hF rfl rfl rfl rfl rfl rfl ?_
          exact L.nil (A.on (hO _ _ _ n39639) (Le.mk [(0, 0), (1, 1), (2, 2), (3, 3)] hm rfl (S9 rfl rfl rfl rfl rfl rfl rfl rfl rfl rfl rfl rfl rfl rfl rfl rfl rfl rfl) trivial (B4 rfl rfl rfl rfl rfl rfl rfl rfl rfl rfl rfl rfl)))
      have n7767 : W 8 #[true, true, true, false, true, false, true, false, false, true, true, true, true, false, false, false, false] (mkSt [(3, one (Cell.ptr 0 0)), (4, one (Cell.ptr 1 0)), (17, one (cI v17)), (18, one (Cell.ptr 2 1)), (20, one (Cell.ptr 2 2)), (22, one (Cell.ptr 0 2)), (26, one (cI v20)), (28, one (cI v24))] [] [(0, (bx v21 v22 v23 v24)), (1, (bx 0 0 0 0)), (2, (bx v17 v18 v19 v20))] 3) := by
        refine hI _ _ _ ?_
        refine A.all [3, 5, 7, 15] (by kernel_rfl) rfl ⟨⟨_, rfl, ?_⟩, ⟨_, rfl, ?_⟩, ⟨_, rfl, ?_⟩, ⟨_, rfl, ?_⟩, trivial⟩
        · refine L.loadPtr shape3 hF rfl rfl rfl rfl rfl rfl ?_
          exact L.nil (A.on (hO _ _ _ n7775) (Le.mk [(0, 0), (1, 1), (2, 2)] hm rfl (S8 rfl rfl rfl rfl rfl rfl rfl rfl rfl rfl rfl rfl rfl rfl rfl rfl) trivial (B3 rfl rfl rfl rfl rfl rfl rfl rfl rfl)))
        · refine L.loadPtr shape3 hF rfl rfl rfl rfl rfl rfl ?_
          exact L.nil (A.on (hO _ _ _ n7799) (Le.mk [(0, 0), (1, 1), (2, 2)] hm rfl (S8 rfl rfl rfl rfl rfl rfl rfl rfl rfl rfl rfl rfl rfl rfl rfl rfl) trivial (B3 rfl rfl rfl rfl rfl rfl rfl rfl rfl)))
        · refine L.loadPtr shape3 hF rfl rfl rfl rfl rfl rfl ?_
          exact L.nil (A.on (hO _ _ _ n7895) (Le.mk [(0, 0), (1, 1), (2, 2)] hm rfl (S8 rfl rfl rfl rfl rfl rfl rfl rfl rfl rfl rfl rfl rfl rfl rfl rfl) trivial (B3 rfl rfl rfl rfl rfl rfl rfl rfl rfl)))
        · refine L.alloc 3 info25 rfl hF rfl rfl rfl rfl ?_
          exact L.nil (A.on (hO _ _ _ n40535) (Le.mk [(0, 0), (1, 1), (2, 3), (3, 2)] hm rfl (S9 rfl rfl rfl rfl rfl rfl rfl rfl rfl rfl rfl rfl rfl rfl rfl rfl rfl rfl) trivial (B4 rfl rfl rfl rfl rfl rfl rfl rfl rfl rfl rfl rfl)))
      have n35447 : W 8 #[true, true, true, false, true, true, true, false, false, true, false, true, false, false, false, true, false] (mkSt [(3, one (Cell.ptr 0 0)), (4, one (Cell.ptr 1 0)), (6, one (Cell.ptr 2 0)), (17, one (cI v17)), (18, one (Cell.ptr 3 1)), (21, one (cI v19)), (22, one (Cell.ptr 0 2)), (25, one (Cell.ptr 3 3)), (27, one (Cell.ptr 0 3))] [] [(0, (bx v21 v22 v23 v24)), (1, (bx 0 0 0 0)), (2, (bx 0 0 0 0)), (3, (bx v17 v18 v19 v20))] 4) := by
        refine hI _ _ _ ?_
        refine A.all [3, 7, 10, 12] (by kernel_rfl) rfl ⟨⟨_, rfl, ?_⟩, ⟨_, rfl, ?_⟩, ⟨_, rfl, ?_⟩, ⟨_, rfl, ?_⟩, trivial⟩
        · refine L.loadPtr shape3 hF rfl rfl rfl rfl rfl rfl ?_
          exact L.nil (A.on (hO _ _ _ n35455) (Le.mk [(0, 0), (1, 1), (2, 2), (3, 3)] hm rfl (S9 rfl rfl rfl rfl rfl rfl rfl rfl rfl rfl rfl rfl rfl rfl rfl rfl rfl rfl) trivial (B4 rfl rfl rfl rfl rfl rfl rfl rfl rfl rfl rfl rfl)))
        · refine L.loadPtr shape3 hF rfl rfl rfl rfl rfl rfl ?_
          exact L.nil (A.on (hO _ _ _ n35575) (Le.mk [(0, 0), (1, 1), (2, 2), (3, 3)] hm rfl (S9 rfl rfl rfl rfl rfl rfl rfl rfl rfl rfl rfl rfl rfl rfl rfl rfl rfl rfl) trivial (B4 rfl rfl rfl rfl rfl rfl rfl rfl rfl rfl rfl rfl)))
        · refine L.loadPtr shape3 hF rfl rfl rfl rfl rfl rfl ?_
          exact L.nil (A.on (hO _ _ _ n36471) (Le.mk [(0, 0), (1, 1), (2, 2), (3, 3)] hm rfl (S9 rfl rfl rfl rfl rfl rfl rfl rfl rfl rfl rfl rfl rfl rfl rfl rfl rfl rfl) trivial (B4 rfl rfl rfl rfl rfl rfl rfl rfl rfl rfl rfl rfl)))
        · refine L.loadPtr shape3 hF rfl rfl rfl rfl rfl rfl ?_
          exact L.nil (A.on (hO _ _ _ n39543) (Le.mk [(0, 0), (1, 1), (2, 2), (3, 3)] hm rfl (S9 rfl rfl rfl rfl rfl rfl rfl rfl rfl rfl rfl rfl rfl rfl rfl rfl rfl rfl) trivial (B4 rfl rfl rfl rfl rfl rfl rfl rfl rfl rfl rfl rfl)))
      have n3799 : W 8 #[true, true, true, false, true, false, true, true, false, true, true, true, false, false, false, false, false] (mkSt [(3, one (Cell.ptr 0 0)), (4, one (Cell.ptr 1 0)), (17, one (cI v17)), (18, one (Cell.ptr 2 1)), (20, one (Cell.ptr 2 2)), (23, one (cI v23)), (26, one (cI v20)), (27, one (Cell.ptr 0 3))] [] [(0, (bx v21 v22 v23 v24)), (1, (bx 0 0 0 0)), (2, (bx v17 v18 v19 v20))] 3) := by
        refine hI _ _ _ ?_
        refine A.all [3, 5, 12, 15] (by kernel_rfl) rfl ⟨⟨_, rfl, ?_⟩, ⟨_, rfl, ?_⟩, ⟨_, rfl, ?_⟩, ⟨_, rfl, ?_⟩, trivial⟩
        · refine L.loadPtr shape3 hF rfl rfl rfl rfl rfl rfl ?_
          exact L.nil (A.on (hO _ _ _ n3807) (Le.mk [(0, 0), (1, 1), (2, 2)] hm rfl (S8 rfl rfl rfl rfl rfl rfl rfl rfl rfl rfl rfl rfl rfl rfl rfl rfl) trivial (B3 rfl rfl rfl rfl rfl rfl rfl rfl rfl)))
        · refine L.loadPtr shape3 hF rfl rfl rfl rfl rfl rfl ?_
          exact L.nil (A.on (hO _ _ _ n3831) (Le.mk [(0, 0), (1, 1), (2, 2)] hm rfl (S8 rfl rfl rfl rfl rfl rfl rfl rfl rfl rfl rfl rfl rfl rfl rfl rfl) trivial (B3 rfl rfl rfl rfl rfl rfl rfl rfl rfl)))
        · refine L.loadPtr shape3 hF rfl rfl rfl rfl rfl rfl ?_
          exact L.nil (A.on (hO _ _ _ n7895) (Le.mk [(0, 0), (1, 1), (2, 2)] hm rfl (S8 rfl rfl rfl rfl rfl rfl rfl rfl rfl rfl rfl rfl rfl rfl rfl rfl) trivial (B3 rfl rfl rfl rfl rfl rfl rfl rfl rfl)))
        · refine L.alloc 3 info25 rfl hF rfl rfl rfl rfl ?_
          exact L.nil (A.on (hO _ _ _ n36567) (Le.mk [(0, 0), (1, 1), (2, 3), (3, 2)] hm rfl (S9 rfl rfl rfl rfl rfl rfl rfl rfl rfl rfl rfl rfl rfl rfl rfl rfl rfl rfl) trivial (B4 rfl rfl rfl rfl rfl rfl rfl rfl rfl rfl rfl rfl)))
      have n6751 : W 8 #[true, true, true, true, true, false, true, false, false, true, false, true, true, false, false, false, false] (mkSt [(3, one (Cell.ptr 0 0)), (4, one (Cell.ptr 1 0)), (17, one (cI v17)), (19, one (cI v18)), (20, one (Cell.ptr 2 2)), (22, one (Cell.ptr 0 2)), (25, one (Cell.ptr 2 3)), (28, one (cI v24))] [] [(0, (bx v21 v22 v23 v24)), (1, (bx 0 0 0 0)), (2, (bx v17 v18 v19 v20))] 3) := by
        refine hI _ _ _ ?_
        refine A.all [5, 7, 10, 15] (by kernel_rfl) rfl ⟨⟨_, rfl, ?_⟩, ⟨_, rfl, ?_⟩, ⟨_, rfl, ?_⟩, ⟨_, rfl, ?_⟩, trivial⟩
        · refine L.loadPtr shape3 hF rfl rfl rfl rfl rfl rfl ?_
          exact L.nil (A.on (hO _ _ _ n6783) (Le.mk [(0, 0), (1, 1), (2, 2)] hm rfl (S8 rfl rfl rfl rfl rfl rfl rfl rfl rfl rfl rfl rfl rfl rfl rfl rfl) trivial (B3 rfl rfl rfl rfl rfl rfl rfl rfl rfl)))
        · refine L.loadPtr shape3 hF rfl rfl rfl rfl rfl rfl ?_
          exact L.nil (A.on (hO _ _ _ n6879) (Le.mk [(0, 0), (1, 1), (2, 2)] hm rfl (S8 rfl rfl rfl rfl rfl rfl rfl rfl rfl rfl rfl rfl rfl rfl rfl rfl) trivial (B3 rfl rfl rfl rfl rfl rfl rfl rfl rfl)))
        · refine L.loadPtr shape3 hF rfl rfl rfl rfl rfl rfl ?_
          exact L.nil (A.on (hO _ _ _ n7775) (Le.mk [(0, 0), (1, 1), (2, 2)] hm rfl (S8 rfl rfl rfl rfl rfl rfl rfl rfl rfl rfl rfl rfl rfl rfl rfl rfl) trivial (B3 rfl rfl rfl rfl rfl rfl rfl rfl rfl)))
        · refine L.alloc 3 info25 rfl hF rfl rfl rfl rfl ?_
          exact L.nil (A.on (hO _ _ _ n39519) (Le.mk [(0, 0), (1, 1), (2, 3), (3, 2)] hm rfl (S9 rfl rfl rfl rfl rfl rfl rfl rfl rfl rfl rfl rfl rfl rfl rfl rfl rfl rfl) trivial (B4 rfl rfl rfl rfl rfl rfl rfl rfl rfl rfl rfl rfl)))
      have n2783 : W 8 #[true, true, true, true, true, false, true, true, false, true, false, true, false, false, false, false, false] (mkSt [(3, one (Cell.ptr 0 0)), (4, one (Cell.ptr 1 0)), (17, one (cI v17)), (19, one (cI v18)), (20, one (Cell.ptr 2 2)), (23, one (cI v23)), (25, one (Cell.ptr 2 3)), (27, one (Cell.ptr 0 3))] [] [(0, (bx v21 v22 v23 v24)), (1, (bx 0 0 0 0)), (2, (bx v17 v18 v19 v20))] 3) := by
        refine hI _ _ _ ?_
        refine A.all [5, 10, 12, 15] (by kernel_rfl) rfl ⟨⟨_, rfl, ?_⟩, ⟨_, rfl, ?_⟩, ⟨_, rfl, ?_⟩, ⟨_, rfl, ?_⟩, trivial⟩
        · refine L.loadPtr shape3 hF rfl rfl rfl rfl rfl rfl ?_
          exact L.nil (A.on (hO _ _ _ n2815) (Le.mk [(0, 0), (1, 1), (2, 2)] hm rfl (S8 rfl rfl rfl rfl rfl rfl rfl rfl rfl rfl rfl rfl rfl rfl rfl rfl) trivial (B3 rfl rfl rfl rfl rfl rfl rfl rfl rfl)))
        · refine L.loadPtr shape3 hF rfl rfl rfl rfl rfl rfl ?_
          exact L.nil (A.on (hO _ _ _ n3807) (Le.mk [(0, 0), (1, 1), (2, 2)] hm rfl (S8 rfl rfl rfl rfl rfl rfl rfl rfl rfl rfl rfl rfl rfl rfl rfl rfl) trivial (B3 rfl rfl rfl rfl rfl rfl rfl rfl rfl)))
        · refine L.loadPtr shape3 hF rfl rfl rfl rfl rfl rfl ?_
          exact L.nil (A.on (hO _ _ _ n6879) (Le.mk [(0, 0), (1, 1), (2, 2)] hm rfl (S8 rfl rfl rfl rfl rfl rfl rfl rfl rfl rfl rfl rfl rfl rfl rfl rfl) trivial (B3 rfl rfl rfl rfl rfl rfl rfl rfl rfl)))
        · refine L.alloc 3 info25 rfl hF rfl rfl rfl rfl ?_
          exact L.nil (A.on (hO _ _ _ n35551) (Le.mk [(0, 0), (1, 1), (2, 3), (3, 2)] hm rfl (S9 rfl rfl rfl rfl rfl rfl rfl rfl rfl rfl rfl rfl rfl rfl rfl rfl rfl rfl) trivial (B4 rfl rfl rfl rfl rfl rfl rfl rfl rfl rfl rfl rfl)))
      have n7773 : W 8 #[true, false, true, true, true, false, true, false, false, true, true, true, true, false, false, false, false] (mkSt [(3, one (Cell.ptr 0 0)), (4, one (Cell.ptr 1 0)), (16, one (Cell.ptr 2 0)), (19, one (cI v18)), (20, one (Cell.ptr 2 2)), (22, one (Cell.ptr 0 2)), (26, one (cI v20)), (28, one (cI v24))] [] [(0, (bx v21 v22 v23 v24)), (1, (bx 0 0 0 0)), (2, (bx v17 v18 v19 v20))] 3) := by
        refine hI _ _ _ ?_
        refine A.all [1, 5, 7, 15] (by kernel_rfl) rfl ⟨⟨_, rfl, ?_⟩, ⟨_, rfl, ?_⟩, ⟨_, rfl, ?_⟩, ⟨_, rfl, ?_⟩, trivial⟩
        · refine L.loadPtr shape3 hF rfl rfl rfl rfl rfl rfl ?_
          exact L.nil (A.on (hO _ _ _ n7775) (Le.mk [(0, 0), (1, 1), (2, 2)] hm rfl (S8 rfl rfl rfl rfl rfl rfl rfl rfl rfl rfl rfl rfl rfl rfl rfl rfl) trivial (B3 rfl rfl rfl rfl rfl rfl rfl rfl rfl)))
        · refine L.loadPtr shape3 hF rfl rfl rfl rfl rfl rfl ?_
          exact L.nil (A.on (hO _ _ _ n7805) (Le.mk [(0, 0), (1, 1), (2, 2)] hm rfl (S8 rfl rfl rfl rfl rfl rfl rfl rfl rfl rfl rfl rfl rfl rfl rfl rfl) trivial (B3 rfl rfl rfl rfl rfl rfl rfl rfl rfl)))
        · refine L.loadPtr shape3 hF rfl rfl rfl rfl rfl rfl ?_
          exact L.nil (A.on (hO _ _ _ n7901) (Le.mk [(0, 0), (1, 1), (2, 2)] hm rfl (S8 rfl rfl rfl rfl rfl rfl rfl rfl rfl rfl rfl rfl rfl rfl rfl rfl) trivial (B3 rfl rfl rfl rfl rfl rfl rfl rfl rfl)))
        · refine L.alloc 3 info25 rfl hF rfl rfl rfl rfl ?_
          exact L.nil (A.on (hO _ _ _ n40541) (Le.mk [(0, 0), (1, 1), (2, 3), (3, 2)] hm rfl (S9 rfl rfl rfl rfl rfl rfl rfl rfl rfl rfl rfl rfl rfl rfl rfl rfl rfl rfl) trivial (B4 rfl rfl rfl rfl rfl rfl rfl rfl rfl rfl rfl rfl)))
      have n3805 : W 8 #[true, false, true, true, true, false, true, true, false, true, true, true, false, false, false, false, false] (mkSt [(3, one (Cell.ptr 0 0)), (4, one (Cell.ptr 1 0)), (16, one (Cell.ptr 2 0)), (19, one (cI v18)), (20, one (Cell.ptr 2 2)), (23, one (cI v23)), (26, one (cI v20)), (27, one (Cell.ptr 0 3))] [] [(0, (bx v21 v22 v23 v24)), (1, (bx 0 0 0 0)), (2, (bx v17 v18 v19 v20))] 3) := by
        refine hI _ _ _ ?_
        refine A.all [1, 5, 12, 15] (by kernel_rfl) rfl ⟨⟨_, rfl, ?_⟩, ⟨_, rfl, ?_⟩, ⟨_, rfl, ?_⟩, ⟨_, rfl, ?_⟩, trivial⟩
        · refine L.loadPtr shape3 hF rfl rfl rfl rfl rfl rfl ?_
          exact L.nil (A.on (hO _ _ _ n3807) (Le.mk [(0, 0), (1, 1), (2, 2)] hm rfl (S8 rfl rfl rfl rfl rfl rfl rfl rfl rfl rfl rfl rfl rfl rfl rfl rfl) trivial (B3 rfl rfl rfl rfl rfl rfl rfl rfl rfl)))
        · refine L.loadPtr shape3 hF rfl rfl rfl rfl rfl rfl ?_
          exact L.nil (A.on (hO _ _ _ n3837) (Le.mk [(0, 0), (1, 1), (2, 2)] hm rfl (S8 rfl rfl rfl rfl rfl rfl rfl rfl rfl rfl rfl rfl rfl rfl rfl rfl) trivial (B3 rfl rfl rfl rfl rfl rfl rfl rfl rfl)))
        · refine L.loadPtr shape3 hF rfl rfl rfl rfl rfl rfl ?_
          exact L.nil (A.on (hO _ _ _ n7901) (Le.mk [(0, 0), (1, 1), (2, 2)] hm rfl (S8 rfl rfl rfl rfl rfl rfl rfl rfl rfl rfl rfl rfl rfl rfl rfl rfl) trivial (B3 rfl rfl rfl rfl rfl rfl rfl rfl rfl)))
        · refine L.alloc 3 info25 rfl hF rfl rfl rfl rfl ?_
          exact L.nil (A.on (hO _ _ _ n36573) (Le.mk [(0, 0), (1, 1), (2, 3), (3, 2)] hm rfl (S9 rfl rfl rfl rfl rfl rfl rfl rfl rfl rfl rfl rfl rfl rfl rfl rfl rfl rfl) trivial (B4 rfl rfl rfl rfl rfl rfl rfl rfl rfl rfl rfl rfl)))
      have n3703 : W 8 #[true, true, true, false, true, true, true, false, false, true, true, true, false, false, false, false, false] (mkSt [(3, one (Cell.ptr 0 0)), (4, one (Cell.ptr 1 0)), (17, one (cI v17)), (18, one (Cell.ptr 2 1)), (21, one (cI v19)), (22, one (Cell.ptr 0 2)), (26, one (cI v20)), (27, one (Cell.ptr 0 3))] [] [(0, (bx v21 v22 v23 v24)), (1, (bx 0 0 0 0)), (2, (bx v17 v18 v19 v20))] 3) := by
        refine hI _ _ _ ?_
        refine A.all [3, 7, 12, 15] (by kernel_rfl) rfl ⟨⟨_, rfl, ?_⟩, ⟨_, rfl, ?_⟩, ⟨_, rfl, ?_⟩, ⟨_, rfl, ?_⟩, trivial⟩
        · refine L.loadPtr shape3 hF rfl rfl rfl rfl rfl rfl ?_
          exact L.nil (A.on (hO _ _ _ n3711) (Le.mk [(0, 0), (1, 1)] hm rfl (S8 rfl rfl rfl rfl rfl rfl rfl rfl rfl rfl rfl rfl rfl rfl rfl rfl) trivial (B2 rfl rfl rfl rfl rfl rfl)))
        · refine L.loadPtr shape3 hF rfl rfl rfl rfl rfl rfl ?_
          exact L.nil (A.on (hO _ _ _ n3831) (Le.mk [(0, 0), (1, 1), (2, 2)] hm rfl (S8 rfl rfl rfl rfl rfl rfl rfl rfl rfl rfl rfl rfl rfl rfl rfl rfl) trivial (B3 rfl rfl rfl rfl rfl rfl rfl rfl rfl)))
        · refine L.loadPtr shape3 hF rfl rfl rfl rfl rfl rfl ?_
          exact L.nil (A.on (hO _ _ _ n7799) (Le.mk [(0, 0), (1, 1), (2, 2)] hm rfl (S8 rfl rfl rfl rfl rfl rfl rfl rfl rfl rfl rfl rfl rfl rfl rfl rfl) trivial (B3 rfl rfl rfl rfl rfl rfl rfl rfl rfl)))
        · refine L.alloc 3 info25 rfl hF rfl rfl rfl rfl ?_
          exact L.nil (A.on (hO _ _ _ n36471) (Le.mk [(0, 0), (1, 1), (2, 3), (3, 2)] hm rfl (S9 rfl rfl rfl rfl rfl rfl rfl rfl rfl rfl rfl rfl rfl rfl rfl rfl rfl rfl) trivial (B4 rfl rfl rfl rfl rfl rfl rfl rfl rfl rfl rfl rfl)))
      have n2687 : W 8 #[true, true, true, true, true, true, true, false, false, true, false, true, false, false, false, false, false] (mkSt [(3, one (Cell.ptr 0 0)), (4, one (Cell.ptr 1 0)), (17, one (cI v17)), (19, one (cI v18)), (21, one (cI v19)), (22, one (Cell.ptr 0 2)), (25, one (Cell.ptr 2 3)), (27, one (Cell.ptr 0 3))] [] [(0, (bx v21 v22 v23 v24)), (1, (bx 0 0 0 0)), (2, (bx v17 v18 v19 v20))] 3) := by
        refine hI _ _ _ ?_
        refine A.all [7, 10, 12, 15] (by kernel_rfl) rfl ⟨⟨_, rfl, ?_⟩, ⟨_, rfl, ?_⟩, ⟨_, rfl, ?_⟩, ⟨_, rfl, ?_⟩, trivial⟩
        · refine L.loadPtr shape3 hF rfl rfl rfl rfl rfl rfl ?_
          exact L.nil (A.on (hO _ _ _ n2815) (Le.mk [(0, 0), (1, 1), (2, 2)] hm rfl (S8 rfl rfl rfl rfl rfl rfl rfl rfl rfl rfl rfl rfl rfl rfl rfl rfl) trivial (B3 rfl rfl rfl rfl rfl rfl rfl rfl rfl)))
        · refine L.loadPtr shape3 hF rfl rfl rfl rfl rfl rfl ?_
          exact L.nil (A.on (hO _ _ _ n3711) (Le.mk [(0, 0), (1, 1)] hm rfl (S8 rfl rfl rfl rfl rfl rfl rfl rfl rfl rfl rfl rfl rfl rfl rfl rfl) trivial (B2 rfl rfl rfl rfl rfl rfl)))
        · refine L.loadPtr shape3 hF rfl rfl rfl rfl rfl rfl ?_
          exact L.nil (A.on (hO _ _ _ n6783) (Le.mk [(0, 0), (1, 1), (2, 2)] hm rfl (S8 rfl rfl rfl rfl rfl rfl rfl rfl rfl rfl rfl rfl rfl rfl rfl rfl) trivial (B3 rfl rfl rfl rfl rfl rfl rfl rfl rfl)))
        · refine L.alloc 3 info25 rfl hF rfl rfl rfl rfl ?_
          exact L.nil (A.on (hO _ _ _ n35455) (Le.mk [(0, 0), (1, 1), (2, 3), (3, 2)] hm rfl (S9 rfl rfl rfl rfl rfl rfl rfl rfl rfl rfl rfl rfl rfl rfl rfl rfl rfl rfl) trivial (B4 rfl rfl rfl rfl rfl rfl rfl rfl rfl rfl rfl rfl)))
      have n39637 : W 8 #[true, false, true, false, true, false, true, true, false, true, false, true, true, false, false, true, false] (mkSt [(3, one (Cell.ptr 0 0)), (4, one (Cell.ptr 1 0)), (6, one (Cell.ptr 2 0)), (16, one (Cell.ptr 3 0)), (18, one (Cell.ptr 3 1)), (20, one (Cell.ptr 3 2)), (23, one (cI v23)), (25, one (Cell.ptr 3 3)), (28, one (cI v24))] [] [(0, (bx v21 v22 v23 v24)), (1, (bx 0 0 0 0)), (2, (bx 0 0 0 0)), (3, (bx v17 v18 v19 v20))] 4) := by
        refine hI _ _ _ ?_
        refine A.all [1, 3, 5, 10] (by kernel_rfl) rfl ⟨⟨_, rfl, ?_⟩, ⟨_, rfl, ?_⟩, ⟨_, rfl, ?_⟩, ⟨_, rfl, ?_⟩, trivial⟩
        · refine L.loadPtr shape3 hF rfl rfl rfl rfl rfl rfl ?_
          exact L.nil (A.on (hO _ _ _ n39639) (Le.mk [(0, 0), (1, 1), (2, 2), (3, 3)] hm rfl (S9 rfl rfl rfl rfl rfl rfl rfl rfl rfl rfl rfl rfl rfl rfl rfl rfl rfl rfl) trivial (B4 rfl rfl rfl rfl rfl rfl rfl rfl rfl rfl rfl rfl)))
        · refine L.loadPtr shape3 hF rfl rfl rfl rfl rfl rfl ?_
          exact L.nil (A.on (hO _ _ _ n39645) (Le.mk [(0, 0), (1, 1), (2, 2), (3, 3)] hm rfl (S9 rfl rfl rfl rfl rfl rfl rfl rfl rfl rfl rfl rfl rfl rfl rfl rfl rfl rfl) trivial (B4 rfl rfl rfl rfl rfl rfl rfl rfl rfl rfl rfl rfl)))
        · refine L.loadPtr shape3 hF rfl rfl rfl rfl rfl rfl ?_
          exact L.nil (A.on (hO _ _ _ n39669) (Le.mk [(0, 0), (1, 1), (2, 2), (3, 3)] hm rfl (S9 rfl rfl rfl rfl rfl rfl rfl rfl rfl rfl rfl rfl rfl rfl rfl rfl rfl rfl) trivial (B4 rfl rfl rfl rfl rfl rfl rfl rfl rfl rfl rfl rfl)))
        · refine L.loadPtr shape3 hF rfl rfl rfl rfl rfl rfl ?_
          exact L.nil (A.on (hO _ _ _ n40661) (Le.mk [(0, 0), (1, 1), (2, 2), (3, 3)] hm rfl (S9 rfl rfl rfl rfl rfl rfl rfl rfl rfl rfl rfl rfl rfl rfl rfl rfl rfl rfl) trivial (B4 rfl rfl rfl rfl rfl rfl rfl rfl rfl rfl rfl rfl)))
      have n36565 : W 8 #[true, false, true, false, true, false, true, true, false, true, true, true, false, false, false, true, false] (mkSt [(3, one (Cell.ptr 0 0)), (4, one (Cell.ptr 1 0)), (6, one (Cell.ptr 2 0)), (16, one (Cell.ptr 3 0)), (18, one (Cell.ptr 3 1)), (20, one (Cell.ptr 3 2)), (23, one (cI v23)), (26, one (cI v20)), (27, one (Cell.ptr 0 3))] [] [(0, (bx v21 v22 v23 v24)), (1, (bx 0 0 0 0)), (2, (bx 0 0 0 0)), (3, (bx v17 v18 v19 v20))] 4) := by
        refine hI _ _ _ ?_
        refine A.all [1, 3, 5, 12] (by kernel_rfl) rfl ⟨⟨_, rfl, ?_⟩, ⟨_, rfl, ?_⟩, ⟨_, rfl, ?_⟩, ⟨_, rfl, ?_⟩, trivial⟩
        · refine L.loadPtr shape3 hF rfl rfl rfl rfl rfl rfl ?_
          exact L.nil (A.on (hO _ _ _ n36567) (Le.mk [(0, 0), (1, 1), (2, 2), (3, 3)] hm rfl (S9 rfl rfl rfl rfl rfl rfl rfl rfl rfl rfl rfl rfl rfl rfl rfl rfl rfl rfl) trivial (B4 rfl rfl rfl rfl rfl rfl rfl rfl rfl rfl rfl rfl)))
        · refine L.loadPtr shape3 hF rfl rfl rfl rfl rfl rfl ?_
          exact L.nil (A.on (hO _ _ _ n36573) (Le.mk [(0, 0), (1, 1), (2, 2), (3, 3)] hm rfl (S9 rfl rfl rfl rfl rfl rfl rfl rfl rfl rfl rfl rfl rfl rfl rfl rfl rfl rfl) trivial (B4 rfl rfl rfl rfl rfl rfl rfl rfl rfl rfl rfl rfl)))
        · refine L.loadPtr shape3 hF rfl rfl rfl rfl rfl rfl ?_
          exact L.nil (A.on (hO _ _ _ n36597) (Le.mk [(0, 0), (1, 1), (2, 2), (3, 3)] hm rfl (S9 rfl rfl rfl rfl rfl rfl rfl rfl rfl rfl rfl rfl rfl rfl rfl rfl rfl rfl) trivial (B4 rfl rfl rfl rfl rfl rfl rfl rfl rfl rfl rfl rfl)))
        · refine L.loadPtr shape3 hF rfl rfl rfl rfl rfl rfl ?_
          exact L.nil (A.on (hO _ _ _ n40661) (Le.mk [(0, 0), (1, 1), (2, 2), (3, 3)] hm rfl (S9 rfl rfl rfl rfl rfl rfl rfl rfl rfl rfl rfl rfl rfl rfl rfl rfl rfl rfl) trivial (B4 rfl rfl rfl rfl rfl rfl rfl rfl rfl rfl rfl rfl)))
      have n35549 : W 8 #[true, false, true, true, true, false, true, true, false, true, false, true, false, false, false, true, false] (mkSt [(3, one (Cell.ptr 0 0)), (4, one (Cell.ptr 1 0)), (6, one (Cell.ptr 2 0)), (16, one (Cell.ptr 3 0)), (19, one (cI v18)), (20, one (Cell.ptr 3 2)), (23, one (cI v23)), (25, one (Cell.ptr 3 3)), (27, one (Cell.ptr 0 3))] [] [(0, (bx v21 v22 v23 v24)), (1, (bx 0 0 0 0)), (2, (bx 0 0 0 0)), (3, (bx v17 v18 v19 v20))] 4) := by
        refine hI _ _ _ ?_
        refine A.all [1, 5, 10, 12] (by kernel_rfl) rfl ⟨⟨_, rfl, ?_⟩, ⟨_, rfl, ?_⟩, ⟨_, rfl, ?_⟩, ⟨_, rfl, ?_⟩, trivial⟩
        · refine L.loadPtr shape3 hF rfl rfl rfl rfl rfl rfl ?_
          exact L.nil (A.on (hO _ _ _ n35551) (Le.mk [(0, 0), (1, 1), (2, 2), (3, 3)] hm rfl (S9 rfl rfl rfl rfl rfl rfl rfl rfl rfl rfl rfl rfl rfl rfl rfl rfl rfl rfl) trivial (B4 rfl rfl rfl rfl rfl rfl rfl rfl rfl rfl rfl rfl)))
        · refine L.loadPtr shape3 hF rfl rfl rfl rfl rfl rfl ?_
          exact L.nil (A.on (hO _ _ _ n35581) (Le.mk [(0, 0), (1, 1), (2, 2), (3, 3)] hm rfl (S9 rfl rfl rfl rfl rfl rfl rfl rfl rfl rfl rfl rfl rfl rfl rfl rfl rfl rfl) trivial (B4 rfl rfl rfl rfl rfl rfl rfl rfl rfl rfl rfl rfl)))
        · refine L.loadPtr shape3 hF rfl rfl rfl rfl rfl rfl ?_
          exact L.nil (A.on (hO _ _ _ n36573) (Le.mk [(0, 0), (1, 1), (2, 2), (3, 3)] hm rfl (S9 rfl rfl rfl rfl rfl rfl rfl rfl rfl rfl rfl rfl rfl rfl rfl rfl rfl rfl) trivial (B4 rfl rfl rfl rfl rfl rfl rfl rfl rfl rfl rfl rfl)))
        · refine L.loadPtr shape3 hF rfl rfl rfl rfl rfl rfl ?_
          exact L.nil (A.on (hO _ _ _ n39645) (Le.mk [(0, 0), (1, 1), (2, 2), (3, 3)] hm rfl (S9 rfl rfl rfl rfl rfl rfl rfl rfl rfl rfl rfl rfl rfl rfl rfl rfl rfl rfl) trivial (B4 rfl rfl rfl rfl rfl rfl rfl rfl rfl rfl rfl rfl)))
      have n3709 : W 8 #[true, false, true, true, true, true, true, false, false, true, true, true, false, false, false, false, false] (mkSt [(3, one (Cell.ptr 0 0)), (4, one (Cell.ptr 1 0)), (16, one (Cell.ptr 2 0)), (19, one (cI v18)), (21, one (cI v19)), (22, one (Cell.ptr 0 2)), (26, one (cI v20)), (27, one (Cell.ptr 0 3))] [] [(0, (bx v21 v22 v23 v24)), (1, (bx 0 0 0 0)), (2, (bx v17 v18 v19 v20))] 3) := by
        refine hI _ _ _ ?_
        refine A.all [1, 7, 12, 15] (by kernel_rfl) rfl ⟨⟨_, rfl, ?_⟩, ⟨_, rfl, ?_⟩, ⟨_, rfl, ?_⟩, ⟨_, rfl, ?_⟩, trivial⟩
        · refine L.loadPtr shape3 hF rfl rfl rfl rfl rfl rfl ?_
          exact L.nil (A.on (hO _ _ _ n3711) (Le.mk [(0, 0), (1, 1)] hm rfl (S8 rfl rfl rfl rfl rfl rfl rfl rfl rfl rfl rfl rfl rfl rfl rfl rfl) trivial (B2 rfl rfl rfl rfl rfl rfl)))
        · refine L.loadPtr shape3 hF rfl rfl rfl rfl rfl rfl ?_
          exact L.nil (A.on (hO _ _ _ n3837) (Le.mk [(0, 0), (1, 1), (2, 2)] hm rfl (S8 rfl rfl rfl rfl rfl rfl rfl rfl rfl rfl rfl rfl rfl rfl rfl rfl) trivial (B3 rfl rfl rfl rfl rfl rfl rfl rfl rfl)))
        · refine L.loadPtr shape3 hF rfl rfl rfl rfl rfl rfl ?_
          exact L.nil (A.on (hO _ _ _ n7805) (Le.mk [(0, 0), (1, 1), (2, 2)] hm rfl (S8 rfl rfl rfl rfl rfl rfl rfl rfl rfl rfl rfl rfl rfl rfl rfl rfl) trivial (B3 rfl rfl rfl rfl rfl rfl rfl rfl rfl)))
        · refine L.alloc 3 info25 rfl hF rfl rfl rfl rfl ?_
          exact L.nil (A.on (hO _ _ _ n36477) (Le.mk [(0, 0), (1, 1), (2, 3), (3, 2)] hm rfl (S9 rfl rfl rfl rfl rfl rfl rfl rfl rfl rfl rfl rfl rfl rfl rfl rfl rfl rfl) trivial (B4 rfl rfl rfl rfl rfl rfl rfl rfl rfl rfl rfl rfl)))
      have n35573 : W 8 #[true, false, true, false, true, true, true, true, false, true, false, true, false, false, false, true, false] (mkSt [(3, one (Cell.ptr 0 0)), (4, one (Cell.ptr 1 0)), (6, one (Cell.ptr 2 0)), (16, one (Cell.ptr 3 0)), (18, one (Cell.ptr 3 1)), (21, one (cI v19)), (23, one (cI v23)), (25, one (Cell.ptr 3 3)), (27, one (Cell.ptr 0 3))] [] [(0, (bx v21 v22 v23 v24)), (1, (bx 0 0 0 0)), (2, (bx 0 0 0 0)), (3, (bx v17 v18 v19 v20))] 4) := by
        refine hI _ _ _ ?_
        refine A.all [1, 3, 8, 10, 12] (by kernel_rfl) rfl ⟨⟨_, rfl, ?_⟩, ⟨_, rfl, ?_⟩, ⟨_, rfl, ?_⟩, ⟨_, rfl, ?_⟩, ⟨_, rfl, ?_⟩, trivial⟩
        · refine L.loadPtr shape3 hF rfl rfl rfl rfl rfl rfl ?_
          exact L.nil (A.on (hO _ _ _ n35575) (Le.mk [(0, 0), (1, 1), (2, 2), (3, 3)] hm rfl (S9 rfl rfl rfl rfl rfl rfl rfl rfl rfl rfl rfl rfl rfl rfl rfl rfl rfl rfl) trivial (B4 rfl rfl rfl rfl rfl rfl rfl rfl rfl rfl rfl rfl)))
        · refine L.loadPtr shape3 hF rfl rfl rfl rfl rfl rfl ?_
          exact L.nil (A.on (hO _ _ _ n35581) (Le.mk [(0, 0), (1, 1), (2, 2), (3, 3)] hm rfl (S9 rfl rfl rfl rfl rfl rfl rfl rfl rfl rfl rfl rfl rfl rfl rfl rfl rfl rfl) trivial (B4 rfl rfl rfl rfl rfl rfl rfl rfl rfl rfl rfl rfl)))
        · refine L.call [false, false] [] [] 4 hF rfl rfl rfl ent94 rfl rfl rfl rfl rfl (Fspec_l16Least_gives kj2  v19 v23 r25 hr25) rfl ?_
          exact L.nil (A.on (hO _ _ _ n35829) (Le.mk [(0, 0), (1, 1), (2, 2), (3, 3)] hm rfl (S8 rfl rfl rfl rfl rfl rfl rfl rfl rfl rfl rfl rfl rfl rfl rfl rfl) trivial (B4 rfl rfl rfl rfl rfl rfl rfl rfl rfl rfl rfl rfl)))
        · refine L.loadPtr shape3 hF rfl rfl rfl rfl rfl rfl ?_
          exact L.nil (A.on (hO _ _ _ n36597) (Le.mk [(0, 0), (1, 1), (2, 2), (3, 3)] hm rfl (S9 rfl rfl rfl rfl rfl rfl rfl rfl rfl rfl rfl rfl rfl rfl rfl rfl rfl rfl) trivial (B4 rfl rfl rfl rfl rfl rfl rfl rfl rfl rfl rfl rfl)))
        · refine L.loadPtr shape3 hF rfl rfl rfl rfl rfl rfl ?_
          exact L.nil (A.on (hO _ _ _ n39669) (Le.mk [(0, 0), (1, 1), (2, 2), (3, 3)] hm rfl (S9 rfl rfl rfl rfl rfl rfl rfl rfl rfl rfl rfl rfl rfl rfl rfl rfl rfl rfl) trivial (B4 rfl rfl rfl rfl rfl rfl rfl rfl rfl rfl rfl rfl)))
      have n6871 : W 8 #[true, true, true, false, true, false, true, true, false, true, false, true, true, false, false, false, false] (mkSt [(3, one (Cell.ptr 0 0)), (4, one (Cell.ptr 1 0)), (17, one (cI v17)), (18, one (Cell.ptr 2 1)), (20, one (Cell.ptr 2 2)), (23, one (cI v23)), (25, one (Cell.ptr 2 3)), (28, one (cI v24))] [] [(0, (bx v21 v22 v23 v24)), (1, (bx 0 0 0 0)), (2, (bx v17 v18 v19 v20))] 3) := by
        refine hI _ _ _ ?_
        refine A.all [3, 5, 10, 15] (by kernel_rfl) rfl ⟨⟨_, rfl, ?_⟩, ⟨_, rfl, ?_⟩, ⟨_, rfl, ?_⟩, ⟨_, rfl, ?_⟩, trivial⟩
        · refine L.loadPtr shape3 hF rfl rfl rfl rfl rfl rfl ?_
          exact L.nil (A.on (hO _ _ _ n6879) (Le.mk [(0, 0), (1, 1), (2, 2)] hm rfl (S8 rfl rfl rfl rfl rfl rfl rfl rfl rfl rfl rfl rfl rfl rfl rfl rfl) trivial (B3 rfl rfl rfl rfl rfl rfl rfl rfl rfl)))
        · refine L.loadPtr shape3 hF rfl rfl rfl rfl rfl rfl ?_
          exact L.nil (A.on (hO _ _ _ n6903) (Le.mk [(0, 0), (1, 1), (2, 2)] hm rfl (S8 rfl rfl rfl rfl rfl rfl rfl rfl rfl rfl rfl rfl rfl rfl rfl rfl) trivial (B3 rfl rfl rfl rfl rfl rfl rfl rfl rfl)))
        · refine L.loadPtr shape3 hF rfl rfl rfl rfl rfl rfl ?_
          exact L.nil (A.on (hO _ _ _ n7895) (Le.mk [(0, 0), (1, 1), (2, 2)] hm rfl (S8 rfl rfl rfl rfl rfl rfl rfl rfl rfl rfl rfl rfl rfl rfl rfl rfl) trivial (B3 rfl rfl rfl rfl rfl rfl rfl rfl rfl)))
        · refine L.alloc 3 info25 rfl hF rfl rfl rfl rfl ?_
          exact L.nil (A.on (hO _ _ _ n39639) (Le.mk [(0, 0), (1, 1), (2, 3), (3, 2)] hm rfl (S9 rfl rfl rfl rfl rfl rfl rfl rfl rfl rfl rfl rfl rfl rfl rfl rfl rfl rfl) trivial (B4 rfl rfl rfl rfl rfl rfl rfl rfl rfl rfl rfl rfl)))
      have n7893 : W 8 #[true, false, true, false, true, false, true, true, false, true, true, true, true, false, false, false, false] (mkSt [(3, one (Cell.ptr 0 0)), (4, one (Cell.ptr 1 0)), (16, one (Cell.ptr 2 0)), (18, one (Cell.ptr 2 1)), (20, one (Cell.ptr 2 2)), (23, one (cI v23)), (26, one (cI v20)), (28, one (cI v24))] [] [(0, (bx v21 v22 v23 v24)), (1, (bx 0 0 0 0)), (2, (bx v17 v18 v19 v20))] 3) := by
        refine hI _ _ _ ?_
        refine A.all [1, 3, 5, 15] (by kernel_rfl) rfl ⟨⟨_, rfl, ?_⟩, ⟨_, rfl, ?_⟩, ⟨_, rfl, ?_⟩, ⟨_, rfl, ?_⟩, trivial⟩
        · refine L.loadPtr shape3 hF rfl rfl rfl rfl rfl rfl ?_
          exact L.nil (A.on (hO _ _ _ n7895) (Le.mk [(0, 0), (1, 1), (2, 2)] hm rfl (S8 rfl rfl rfl rfl rfl rfl rfl rfl rfl rfl rfl rfl rfl rfl rfl rfl) trivial (B3 rfl rfl rfl rfl rfl rfl rfl rfl rfl)))
        · refine L.loadPtr shape3 hF rfl rfl rfl rfl rfl rfl ?_
          exact L.nil (A.on (hO _ _ _ n7901) (Le.mk [(0, 0), (1, 1), (2, 2)] hm rfl (S8 rfl rfl rfl rfl rfl rfl rfl rfl rfl rfl rfl rfl rfl rfl rfl rfl) trivial (B3 rfl rfl rfl rfl rfl rfl rfl rfl rfl)))
        · refine L.loadPtr shape3 hF rfl rfl rfl rfl rfl rfl ?_
          exact L.nil (A.on (hO _ _ _ n7925) (Le.mk [(0, 0), (1, 1), (2, 2)] hm rfl (S8 rfl rfl rfl rfl rfl rfl rfl rfl rfl rfl rfl rfl rfl rfl rfl rfl) trivial (B3 rfl rfl rfl rfl rfl rfl rfl rfl rfl)))
        · refine L.alloc 3 info25 rfl hF rfl rfl rfl rfl ?_
          exact L.nil (A.on (hO _ _ _ n40661) (Le.mk [(0, 0), (1, 1), (2, 3), (3, 2)] hm rfl (S9 rfl rfl rfl rfl rfl rfl rfl rfl rfl rfl rfl rfl rfl rfl rfl rfl rfl rfl) trivial (B4 rfl rfl rfl rfl rfl rfl rfl rfl rfl rfl rfl rfl)))
      have n6775 : W 8 #[true, true, true, false, true, true, true, false, false, true, false, true, true, false, false, false, false] (mkSt [(3, one (Cell.ptr 0 0)), (4, one (Cell.ptr 1 0)), (17, one (cI v17)), (18, one (Cell.ptr 2 1)), (21, one (cI v19)), (22, one (Cell.ptr 0 2)), (25, one (Cell.ptr 2 3)), (28, one (cI v24))] [] [(0, (bx v21 v22 v23 v24)), (1, (bx 0 0 0 0)), (2, (bx v17 v18 v19 v20))] 3) := by
        refine hI _ _ _ ?_
        refine A.all [3, 7, 10, 15] (by kernel_rfl) rfl ⟨⟨_, rfl, ?_⟩, ⟨_, rfl, ?_⟩, ⟨_, rfl, ?_⟩, ⟨_, rfl, ?_⟩, trivial⟩
        · refine L.loadPtr shape3 hF rfl rfl rfl rfl rfl rfl ?_
          exact L.nil (A.on (hO _ _ _ n6783) (Le.mk [(0, 0), (1, 1), (2, 2)] hm rfl (S8 rfl rfl rfl rfl rfl rfl rfl rfl rfl rfl rfl rfl rfl rfl rfl rfl) trivial (B3 rfl rfl rfl rfl rfl rfl rfl rfl rfl)))
        · refine L.loadPtr shape3 hF rfl rfl rfl rfl rfl rfl ?_
          exact L.nil (A.on (hO _ _ _ n6903) (Le.mk [(0, 0), (1, 1), (2, 2)] hm rfl (S8 rfl rfl rfl rfl rfl rfl rfl rfl rfl rfl rfl rfl rfl rfl rfl rfl) trivial (B3 rfl rfl rfl rfl rfl rfl rfl rfl rfl)))
        · refine L.loadPtr shape3 hF rfl rfl rfl rfl rfl rfl ?_
          exact L.nil (A.on (hO _ _ _ n7799) (Le.mk [(0, 0), (1, 1), (2, 2)] hm rfl (S8 rfl rfl rfl rfl rfl rfl rfl rfl rfl rfl rfl rfl rfl rfl rfl rfl) trivial (B3 rfl rfl rfl rfl rfl rfl rfl rfl rfl)))
        · refine L.alloc 3 info25 rfl hF rfl rfl rfl rfl ?_
          exact L.nil (A.on (hO _ _ _ n39543) (Le.mk [(0, 0), (1, 1), (2, 3), (3, 2)] hm rfl (S9 rfl rfl rfl rfl rfl rfl rfl rfl rfl rfl rfl rfl rfl rfl rfl rfl rfl rfl) trivial (B4 rfl rfl rfl rfl rfl rfl rfl rfl rfl rfl rfl rfl)))
      have n6877 : W 8 #[true, false, true, true, true, false, true, true, false, true, false, true, true, false, false, false, false] (mkSt [(3, one (Cell.ptr 0 0)), (4, one (Cell.ptr 1 0)), (16, one (Cell.ptr 2 0)), (19, one (cI v18)), (20, one (Cell.ptr 2 2)), (23, one (cI v23)), (25, one (Cell.ptr 2 3)), (28, one (cI v24))] [] [(0, (bx v21 v22 v23 v24)), (1, (bx 0 0 0 0)), (2, (bx v17 v18 v19 v20))] 3) := by
        refine hI _ _ _ ?_
        refine A.all [1, 5, 10, 15] (by kernel_rfl) rfl ⟨⟨_, rfl, ?_⟩, ⟨_, rfl, ?_⟩, ⟨_, rfl, ?_⟩, ⟨_, rfl, ?_⟩, trivial⟩
        · refine L.loadPtr shape3 hF rfl rfl rfl rfl rfl rfl ?_
          exact L.nil (A.on (hO _ _ _ n6879) (Le.mk [(0, 0), (1, 1), (2, 2)] hm rfl (S8 rfl rfl rfl rfl rfl rfl rfl rfl rfl rfl rfl rfl rfl rfl rfl rfl) trivial (B3 rfl rfl rfl rfl rfl rfl rfl rfl rfl)))
        · refine L.loadPtr shape3 hF rfl rfl rfl rfl rfl rfl ?_
          exact L.nil (A.on (hO _ _ _ n6909) (Le.mk [(0, 0), (1, 1), (2, 2)] hm rfl (S8 rfl rfl rfl rfl rfl rfl rfl rfl rfl rfl rfl rfl rfl rfl rfl rfl) trivial (B3 rfl rfl rfl rfl rfl rfl rfl rfl rfl)))
        · refine L.loadPtr shape3 hF rfl rfl rfl rfl rfl rfl ?_
          exact L.nil (A.on (hO _ _ _ n7901) (Le.mk [(0, 0), (1, 1), (2, 2)] hm rfl (S8 rfl rfl rfl rfl rfl rfl rfl rfl rfl rfl rfl rfl rfl rfl rfl rfl) trivial (B3 rfl rfl rfl rfl rfl rfl rfl rfl rfl)))
        · refine L.alloc 3 info25 rfl hF rfl rfl rfl rfl ?_
          exact L.nil (A.on (hO _ _ _ n39645) (Le.mk [(0, 0), (1, 1), (2, 3), (3, 2)] hm rfl (S9 rfl rfl rfl rfl rfl rfl rfl rfl rfl rfl rfl rfl rfl rfl rfl rfl rfl rfl) trivial (B4 rfl rfl rfl rfl rfl rfl rfl rfl rfl rfl rfl rfl)))
      have n2807 : W 8 #[true, true, true, false, true, true, true, true, false, true, false, true, false, false, false, false, false] (mkSt [(3, one (Cell.ptr 0 0)), (4, one (Cell.ptr 1 0)), (17, one (cI v17)), (18, one (Cell.ptr 2 1)), (21, one (cI v19)), (23, one (cI v23)), (25, one (Cell.ptr 2 3)), (27, one (Cell.ptr 0 3))] [] [(0, (bx v21 v22 v23 v24)), (1, (bx 0 0 0 0)), (2, (bx v17 v18 v19 v20))] 3) := by
        refine hI _ _ _ ?_
        refine A.all [3, 8, 10, 12, 15] (by kernel_rfl) rfl ⟨⟨_, rfl, ?_⟩, ⟨_, rfl, ?_⟩, ⟨_, rfl, ?_⟩, ⟨_, rfl, ?_⟩, ⟨_, rfl, ?_⟩, trivial⟩
        · refine L.loadPtr shape3 hF rfl rfl rfl rfl rfl rfl ?_
          exact L.nil (A.on (hO _ _ _ n2815) (Le.mk [(0, 0), (1, 1), (2, 2)] hm rfl (S8 rfl rfl rfl rfl rfl rfl rfl rfl rfl rfl rfl rfl rfl rfl rfl rfl) trivial (B3 rfl rfl rfl rfl rfl rfl rfl rfl rfl)))
        · refine L.call [false, false] [] [] 3 hF rfl rfl rfl ent94 rfl rfl rfl rfl rfl (Fspec_l16Least_gives kj2  v19 v23 r25 hr25) rfl ?_
          exact L.nil (A.on (hO _ _ _ n3063) (Le.mk [(0, 0), (1, 1), (2, 2)] hm rfl (S7 rfl rfl rfl rfl rfl rfl rfl rfl rfl rfl rfl rfl rfl rfl) trivial (B3 rfl rfl rfl rfl rfl rfl rfl rfl rfl)))
        · refine L.loadPtr shape3 hF rfl rfl rfl rfl rfl rfl ?_
          exact L.nil (A.on (hO _ _ _ n3831) (Le.mk [(0, 0), (1, 1), (2, 2)] hm rfl (S8 rfl rfl rfl rfl rfl rfl rfl rfl rfl rfl rfl rfl rfl rfl rfl rfl) trivial (B3 rfl rfl rfl rfl rfl rfl rfl rfl rfl)))
        · refine L.loadPtr shape3 hF rfl rfl rfl rfl rfl rfl ?_
          exact L.nil (A.on (hO _ _ _ n6903) (Le.mk [(0, 0), (1, 1), (2, 2)] hm rfl (S8 rfl rfl rfl rfl rfl rfl rfl rfl rfl rfl rfl rfl rfl rfl rfl rfl) trivial (B3 rfl rfl rfl rfl rfl rfl rfl rfl rfl)))
        · refine L.alloc 3 info25 rfl hF rfl rfl rfl rfl ?_
          exact L.nil (A.on (hO _ _ _ n35575) (Le.mk [(0, 0), (1, 1), (2, 3), (3, 2)] hm rfl (S9 rfl rfl rfl rfl rfl rfl rfl rfl rfl rfl rfl rfl rfl rfl rfl rfl rfl rfl) trivial (B4 rfl rfl rfl rfl rfl rfl rfl rfl rfl rfl rfl rfl)))
      have n7797 : W 8 #[true, false, true, false, true, true, true, false, false, true, true, true, true, false, false, false, false] (mkSt [(3, one (Cell.ptr 0 0)), (4, one (Cell.ptr 1 0)), (16, one (Cell.ptr 2 0)), (18, one (Cell.ptr 2 1)), (21, one (cI v19)), (22, one (Cell.ptr 0 2)), (26, one (cI v20)), (28, one (cI v24))] [] [(0, (bx v21 v22 v23 v24)), (1, (bx 0 0 0 0)), (2, (bx v17 v18 v19 v20))] 3) := by
        refine hI _ _ _ ?_
        refine A.all [1, 3, 7, 15] (by kernel_rfl) rfl ⟨⟨_, rfl, ?_⟩, ⟨_, rfl, ?_⟩, ⟨_, rfl, ?_⟩, ⟨_, rfl, ?_⟩, trivial⟩
        · refine L.loadPtr shape3 hF rfl rfl rfl rfl rfl rfl ?_
          exact L.nil (A.on (hO _ _ _ n7799) (Le.mk [(0, 0), (1, 1), (2, 2)] hm rfl (S8 rfl rfl rfl rfl rfl rfl rfl rfl rfl rfl rfl rfl rfl rfl rfl rfl) trivial (B3 rfl rfl rfl rfl rfl rfl rfl rfl rfl)))
        · refine L.loadPtr shape3 hF rfl rfl rfl rfl rfl rfl ?_
          exact L.nil (A.on (hO _ _ _ n7805) (Le.mk [(0, 0), (1, 1), (2, 2)] hm rfl (S8 rfl rfl rfl rfl rfl rfl rfl rfl rfl rfl rfl rfl rfl rfl rfl rfl) trivial (B3 rfl rfl rfl rfl rfl rfl rfl rfl rfl)))
        · refine L.loadPtr shape3 hF rfl rfl rfl rfl rfl rfl ?_
          exact L.nil (A.on (hO _ _ _ n7925) (Le.mk [(0, 0), (1, 1), (2, 2)] hm rfl (S8 rfl rfl rfl rfl rfl rfl rfl rfl rfl rfl rfl rfl rfl rfl rfl rfl) trivial (B3 rfl rfl rfl rfl rfl rfl rfl rfl rfl)))
        · refine L.alloc 3 info25 rfl hF rfl rfl rfl rfl ?_
          exact L.nil (A.on (hO _ _ _ n40565) (Le.mk [(0, 0), (1, 1), (2, 3), (3, 2)] hm rfl (S9 rfl rfl rfl rfl rfl rfl rfl rfl rfl rfl rfl rfl rfl rfl rfl rfl rfl rfl) trivial (B4 rfl rfl rfl rfl rfl rfl rfl rfl rfl rfl rfl rfl)))
      have n3829 : W 8 #[true, false, true, false, true, true, true, true, false, true, true, true, false, false, false, false, false] (mkSt [(3, one (Cell.ptr 0 0)), (4, one (Cell.ptr 1 0)), (16, one (Cell.ptr 2 0)), (18, one (Cell.ptr 2 1)), (21, one (cI v19)), (23, one (cI v23)), (26, one (cI v20)), (27, one (Cell.ptr 0 3))] [] [(0, (bx v21 v22 v23 v24)), (1, (bx 0 0 0 0)), (2, (bx v17 v18 v19 v20))] 3) := by
        refine hI _ _ _ ?_
        refine A.all [1, 3, 8, 12, 15] (by kernel_rfl) rfl ⟨⟨_, rfl, ?_⟩, ⟨_, rfl, ?_⟩, ⟨_, rfl, ?_⟩, ⟨_, rfl, ?_⟩, ⟨_, rfl, ?_⟩, trivial⟩
        · refine L.loadPtr shape3 hF rfl rfl rfl rfl rfl rfl ?_
          exact L.nil (A.on (hO _ _ _ n3831) (Le.mk [(0, 0), (1, 1), (2, 2)] hm rfl (S8 rfl rfl rfl rfl rfl rfl rfl rfl rfl rfl rfl rfl rfl rfl rfl rfl) trivial (B3 rfl rfl rfl rfl rfl rfl rfl rfl rfl)))
        · refine L.loadPtr shape3 hF rfl rfl rfl rfl rfl rfl ?_
          exact L.nil (A.on (hO _ _ _ n3837) (Le.mk [(0, 0), (1, 1), (2, 2)] hm rfl (S8 rfl rfl rfl rfl rfl rfl rfl rfl rfl rfl rfl rfl rfl rfl rfl rfl) trivial (B3 rfl rfl rfl rfl rfl rfl rfl rfl rfl)))
        · refine L.call [false, false] [] [] 3 hF rfl rfl rfl ent94 rfl rfl rfl rfl rfl (Fspec_l16Least_gives kj2  v19 v23 r25 hr25) rfl ?_
          exact L.nil (A.on (hO _ _ _ n4085) (Le.mk [(0, 0), (1, 1), (2, 2)] hm rfl (S7 rfl rfl rfl rfl rfl rfl rfl rfl rfl rfl rfl rfl rfl rfl) trivial (B3 rfl rfl rfl rfl rfl rfl rfl rfl rfl)))
        · refine L.loadPtr shape3 hF rfl rfl rfl rfl rfl rfl ?_
          exact L.nil (A.on (hO _ _ _ n7925) (Le.mk [(0, 0), (1, 1), (2, 2)] hm rfl (S8 rfl rfl rfl rfl rfl rfl rfl rfl rfl rfl rfl rfl rfl rfl rfl rfl) trivial (B3 rfl rfl rfl rfl rfl rfl rfl rfl rfl)))
        · refine L.alloc 3 info25 rfl hF rfl rfl rfl rfl ?_
          exact L.nil (A.on (hO _ _ _ n36597) (Le.mk [(0, 0), (1, 1), (2, 3), (3, 2)] hm rfl (S9 rfl rfl rfl rfl rfl rfl rfl rfl rfl rfl rfl rfl rfl rfl rfl rfl rfl rfl) trivial (B4 rfl rfl rfl rfl rfl rfl rfl rfl rfl rfl rfl rfl)))
      have n6781 : W 8 #[true, false, true, true, true, true, true, false, false, true, false, true, true, false, false, false, false] (mkSt [(3, one (Cell.ptr 0 0)), (4, one (Cell.ptr 1 0)), (16, one (Cell.ptr 2 0)), (19, one (cI v18)), (21, one (cI v19)), (22, one (Cell.ptr 0 2)), (25, one (Cell.ptr 2 3)), (28, one (cI v24))] [] [(0, (bx v21 v22 v23 v24)), (1, (bx 0 0 0 0)), (2, (bx v17 v18 v19 v20))] 3) := by
        refine hI _ _ _ ?_
        refine A.all [1, 7, 10, 15] (by kernel_rfl) rfl ⟨⟨_, rfl, ?_⟩, ⟨_, rfl, ?_⟩, ⟨_, rfl, ?_⟩, ⟨_, rfl, ?_⟩, trivial⟩
        · refine L.loadPtr shape3 hF rfl rfl rfl rfl rfl rfl ?_
          exact L.nil (A.on (hO _ _ _ n6783) (Le.mk [(0, 0), (1, 1), (2, 2)] hm rfl (S8 rfl rfl rfl rfl rfl rfl rfl rfl rfl rfl rfl rfl rfl rfl rfl rfl) trivial (B3 rfl rfl rfl rfl rfl rfl rfl rfl rfl)))
        · refine L.loadPtr shape3 hF rfl rfl rfl rfl rfl rfl ?_
          exact L.nil (A.on (hO _ _ _ n6909) (Le.mk [(0, 0), (1, 1), (2, 2)] hm rfl (S8 rfl rfl rfl rfl rfl rfl rfl rfl rfl rfl rfl rfl rfl rfl rfl rfl) trivial (B3 rfl rfl rfl rfl rfl rfl rfl rfl rfl)))
        · refine L.loadPtr shape3 hF rfl rfl rfl rfl rfl rfl ?_
          exact L.nil (A.on (hO _ _ _ n7805) (Le.mk [(0, 0), (1, 1), (2, 2)] hm rfl (S8 rfl rfl rfl rfl rfl rfl rfl rfl rfl rfl rfl rfl rfl rfl rfl rfl) trivial (B3 rfl rfl rfl rfl rfl rfl rfl rfl rfl)))
        · refine L.alloc 3 info25 rfl hF rfl rfl rfl rfl ?_
          exact L.nil (A.on (hO _ _ _ n39549) (Le.mk [(0, 0), (1, 1), (2, 3), (3, 2)] hm rfl (S9 rfl rfl rfl rfl rfl rfl rfl rfl rfl rfl rfl rfl rfl rfl rfl rfl rfl rfl) trivial (B4 rfl rfl rfl rfl rfl rfl rfl rfl rfl rfl rfl rfl)))
      have n2813 : W 8 #[true, false, true, true, true, true, true, true, false, true, false, true, false, false, false, false, false] (mkSt [(3, one (Cell.ptr 0 0)), (4, one (Cell.ptr 1 0)), (16, one (Cell.ptr 2 0)), (19, one (cI v18)), (21, one (cI v19)), (23, one (cI v23)), (25, one (Cell.ptr 2 3)), (27, one (Cell.ptr 0 3))] [] [(0, (bx v21 v22 v23 v24)), (1, (bx 0 0 0 0)), (2, (bx v17 v18 v19 v20))] 3) := by
        refine hI _ _ _ ?_
        refine A.all [1, 8, 10, 12, 15] (by kernel_rfl) rfl ⟨⟨_, rfl, ?_⟩, ⟨_, rfl, ?_⟩, ⟨_, rfl, ?_⟩, ⟨_, rfl, ?_⟩, ⟨_, rfl, ?_⟩, trivial⟩
        · refine L.loadPtr shape3 hF rfl rfl rfl rfl rfl rfl ?_
          exact L.nil (A.on (hO _ _ _ n2815) (Le.mk [(0, 0), (1, 1), (2, 2)] hm rfl (S8 rfl rfl rfl rfl rfl rfl rfl rfl rfl rfl rfl rfl rfl rfl rfl rfl) trivial (B3 rfl rfl rfl rfl rfl rfl rfl rfl rfl)))
        · refine L.call [false, false] [] [] 3 hF rfl rfl rfl ent94 rfl rfl rfl rfl rfl (Fspec_l16Least_gives kj2  v19 v23 r25 hr25) rfl ?_
          exact L.nil (A.on (hO _ _ _ n3069) (Le.mk [(0, 0), (1, 1), (2, 2)] hm rfl (S7 rfl rfl rfl rfl rfl rfl rfl rfl rfl rfl rfl rfl rfl rfl) trivial (B3 rfl rfl rfl rfl rfl rfl rfl rfl rfl)))
        · refine L.loadPtr shape3 hF rfl rfl rfl rfl rfl rfl ?_
          exact L.nil (A.on (hO _ _ _ n3837) (Le.mk [(0, 0), (1, 1), (2, 2)] hm rfl (S8 rfl rfl rfl rfl rfl rfl rfl rfl rfl rfl rfl rfl rfl rfl rfl rfl) trivial (B3 rfl rfl rfl rfl rfl rfl rfl rfl rfl)))
        · refine L.loadPtr shape3 hF rfl rfl rfl rfl rfl rfl ?_
          exact L.nil (A.on (hO _ _ _ n6909) (Le.mk [(0, 0), (1, 1), (2, 2)] hm rfl (S8 rfl rfl rfl rfl rfl rfl rfl rfl rfl rfl rfl rfl rfl rfl rfl rfl) trivial (B3 rfl rfl rfl rfl rfl rfl rfl rfl rfl)))
        · refine L.alloc 3 info25 rfl hF rfl rfl rfl rfl ?_
          exact L.nil (A.on (hO _ _ _ n35581) (Le.mk [(0, 0), (1, 1), (2, 3), (3, 2)] hm rfl (S9 rfl rfl rfl rfl rfl rfl rfl rfl rfl rfl rfl rfl rfl rfl rfl rfl rfl rfl) trivial (B4 rfl rfl rfl rfl rfl rfl rfl rfl rfl rfl rfl rfl)))
      have n6901 : W 8 #[true, false, true, false, true, true, true, true, false, true, false, true, true, false, false, false, false] (mkSt [(3, one (Cell.ptr 0 0)), (4, one (Cell.ptr 1 0)), (16, one (Cell.ptr 2 0)), (18, one (Cell.ptr 2 1)), (21, one (cI v19)), (23, one (cI v23)), (25, one (Cell.ptr 2 3)), (28, one (cI v24))] [] [(0, (bx v21 v22 v23 v24)), (1, (bx 0 0 0 0)), (2, (bx v17 v18 v19 v20))] 3) := by
        refine hI _ _ _ ?_
        refine A.all [1, 3, 8, 10, 15] (by kernel_rfl) rfl ⟨⟨_, rfl, ?_⟩, ⟨_, rfl, ?_⟩, ⟨_, rfl, ?_⟩, ⟨_, rfl, ?_⟩, ⟨_, rfl, ?_⟩, trivial⟩
        · refine L.loadPtr shape3 hF rfl rfl rfl rfl rfl rfl ?_
          exact L.nil (A.on (hO _ _ _ n6903) (Le.mk [(0, 0), (1, 1), (2, 2)] hm rfl (S8 rfl rfl rfl rfl rfl rfl rfl rfl rfl rfl rfl rfl rfl rfl rfl rfl) trivial (B3 rfl rfl rfl rfl rfl rfl rfl rfl rfl)))
        · refine L.loadPtr shape3 hF rfl rfl rfl rfl rfl rfl ?_
          exact L.nil (A.on (hO _ _ _ n6909) (Le.mk [(0, 0), (1, 1), (2, 2)] hm rfl (S8 rfl rfl rfl rfl rfl rfl rfl rfl rfl rfl rfl rfl rfl rfl rfl rfl) trivial (B3 rfl rfl rfl rfl rfl rfl rfl rfl rfl)))
        · refine L.call [false, false] [] [] 3 hF rfl rfl rfl ent94 rfl rfl rfl rfl rfl (Fspec_l16Least_gives kj2  v19 v23 r25 hr25) rfl ?_
          exact L.nil (A.on (hO _ _ _ n7157) (Le.mk [(0, 0), (1, 1), (2, 2)] hm rfl (S7 rfl rfl rfl rfl rfl rfl rfl rfl rfl rfl rfl rfl rfl rfl) trivial (B3 rfl rfl rfl rfl rfl rfl rfl rfl rfl)))
        · refine L.loadPtr shape3 hF rfl rfl rfl rfl rfl rfl ?_
          exact L.nil (A.on (hO _ _ _ n7925) (Le.mk [(0, 0), (1, 1), (2, 2)] hm rfl (S8 rfl rfl rfl rfl rfl rfl rfl rfl rfl rfl rfl rfl rfl rfl rfl rfl) trivial (B3 rfl rfl rfl rfl rfl rfl rfl rfl rfl)))
        · refine L.alloc 3 info25 rfl hF rfl rfl rfl rfl ?_
          exact L.nil (A.on (hO _ _ _ n39669) (Le.mk [(0, 0), (1, 1), (2, 3), (3, 2)] hm rfl (S9 rfl rfl rfl rfl rfl rfl rfl rfl rfl rfl rfl rfl rfl rfl rfl rfl rfl rfl) trivial (B4 rfl rfl rfl rfl rfl rfl rfl rfl rfl rfl rfl rfl)))
      have n3671 : W 9 #[true, true, true, false, true, false, true, false, false, true, true, true, false, false, false, false, false] (mkSt [(3, one (Cell.ptr 0 0)), (4, one (Cell.ptr 1 0)), (17, one (cI v17)), (18, one (Cell.ptr 2 1)), (20, one (Cell.ptr 2 2)), (22, one (Cell.ptr 0 2)), (26, one (cI v20)), (27, one (Cell.ptr 0 3))] [] [(0, (bx v21 v22 v23 v24)), (1, (bx 0 0 0 0)), (2, (bx v17 v18 v19 v20))] 3) := by
        refine hI _ _ _ ?_
        refine A.all [3, 5, 7, 12, 15] (by kernel_rfl) rfl ⟨⟨_, rfl, ?_⟩, ⟨_, rfl, ?_⟩, ⟨_, rfl, ?_⟩, ⟨_, rfl, ?_⟩, ⟨_, rfl, ?_⟩, trivial⟩
        · refine L.loadPtr shape3 hF rfl rfl rfl rfl rfl rfl ?_
          exact L.nil (A.on (hO _ _ _ n3679) (Le.mk [(0, 0), (1, 1), (2, 2)] hm rfl (S8 rfl rfl rfl rfl rfl rfl rfl rfl rfl rfl rfl rfl rfl rfl rfl rfl) trivial (B3 rfl rfl rfl rfl rfl rfl rfl rfl rfl)))
        · refine L.loadPtr shape3 hF rfl rfl rfl rfl rfl rfl ?_
          exact L.nil (A.on (hO _ _ _ n3703) (Le.mk [(0, 0), (1, 1), (2, 2)] hm rfl (S8 rfl rfl rfl rfl rfl rfl rfl rfl rfl rfl rfl rfl rfl rfl rfl rfl) trivial (B3 rfl rfl rfl rfl rfl rfl rfl rfl rfl)))
        · refine L.loadPtr shape3 hF rfl rfl rfl rfl rfl rfl ?_
          exact L.nil (A.on (hO _ _ _ n3799) (Le.mk [(0, 0), (1, 1), (2, 2)] hm rfl (S8 rfl rfl rfl rfl rfl rfl rfl rfl rfl rfl rfl rfl rfl rfl rfl rfl) trivial (B3 rfl rfl rfl rfl rfl rfl rfl rfl rfl)))
        · refine L.loadPtr shape3 hF rfl rfl rfl rfl rfl rfl ?_
          exact L.nil (A.on (hO _ _ _ n7767) (Le.mk [(0, 0), (1, 1), (2, 2)] hm rfl (S8 rfl rfl rfl rfl rfl rfl rfl rfl rfl rfl rfl rfl rfl rfl rfl rfl) trivial (B3 rfl rfl rfl rfl rfl rfl rfl rfl rfl)))
        · refine L.alloc 3 info25 rfl hF rfl rfl rfl rfl ?_
          exact L.nil (A.on (hO _ _ _ n36439) (Le.mk [(0, 0), (1, 1), (2, 3), (3, 2)] hm rfl (S9 rfl rfl rfl rfl rfl rfl rfl rfl rfl rfl rfl rfl rfl rfl rfl rfl rfl rfl) trivial (B4 rfl rfl rfl rfl rfl rfl rfl rfl rfl rfl rfl rfl)))
      have n2655 : W 9 #[true, true, true, true, true, false, true, false, false, true, false, true, false, false, false, false, false] (mkSt [(3, one (Cell.ptr 0 0)), (4, one (Cell.ptr 1 0)), (17, one (cI v17)), (19, one (cI v18)), (20, one (Cell.ptr 2 2)), (22, one (Cell.ptr 0 2)), (25, one (Cell.ptr 2 3)), (27, one (Cell.ptr 0 3))] [] [(0, (bx v21 v22 v23 v24)), (1, (bx 0 0 0 0)), (2, (bx v17 v18 v19 v20))] 3) := by
        refine hI _ _ _ ?_
        refine A.all [5, 7, 10, 12, 15] (by kernel_rfl) rfl ⟨⟨_, rfl, ?_⟩, ⟨_, rfl, ?_⟩, ⟨_, rfl, ?_⟩, ⟨_, rfl, ?_⟩, ⟨_, rfl, ?_⟩, trivial⟩
        · refine L.loadPtr shape3 hF rfl rfl rfl rfl rfl rfl ?_
          exact L.nil (A.on (hO _ _ _ n2687) (Le.mk [(0, 0), (1, 1), (2, 2)] hm rfl (S8 rfl rfl rfl rfl rfl rfl rfl rfl rfl rfl rfl rfl rfl rfl rfl rfl) trivial (B3 rfl rfl rfl rfl rfl rfl rfl rfl rfl)))
        · refine L.loadPtr shape3 hF rfl rfl rfl rfl rfl rfl ?_
          exact L.nil (A.on (hO _ _ _ n2783) (Le.mk [(0, 0), (1, 1), (2, 2)] hm rfl (S8 rfl rfl rfl rfl rfl rfl rfl rfl rfl rfl rfl rfl rfl rfl rfl rfl) trivial (B3 rfl rfl rfl rfl rfl rfl rfl rfl rfl)))
        · refine L.loadPtr shape3 hF rfl rfl rfl rfl rfl rfl ?_
          exact L.nil (A.on (hO _ _ _ n3679) (Le.mk [(0, 0), (1, 1), (2, 2)] hm rfl (S8 rfl rfl rfl rfl rfl rfl rfl rfl rfl rfl rfl rfl rfl rfl rfl rfl) trivial (B3 rfl rfl rfl rfl rfl rfl rfl rfl rfl)))
        · refine L.loadPtr shape3 hF rfl rfl rfl rfl rfl rfl ?_
          exact L.nil (A.on (hO _ _ _ n6751) (Le.mk [(0, 0), (1, 1), (2, 2)] hm rfl (S8 rfl rfl rfl rfl rfl rfl rfl rfl rfl rfl rfl rfl rfl rfl rfl rfl) trivial (B3 rfl rfl rfl rfl rfl rfl rfl rfl rfl)))
        · refine L.alloc 3 info25 rfl hF rfl rfl rfl rfl ?_
          exact L.nil (A.on (hO _ _ _ n35423) (Le.mk [(0, 0), (1, 1), (2, 3), (3, 2)] hm rfl (S9 rfl rfl rfl rfl rfl rfl rfl rfl rfl rfl rfl rfl rfl rfl rfl rfl rfl rfl) trivial (B4 rfl rfl rfl rfl rfl rfl rfl rfl rfl rfl rfl rfl)))
      have n3677 : W 9 #[true, false, true, true, true, false, true, false, false, true, true, true, false, false, false, false, false] (mkSt [(3, one (Cell.ptr 0 0)), (4, one (Cell.ptr 1 0)), (16, one (Cell.ptr 2 0)), (19, one (cI v18)), (20, one (Cell.ptr 2 2)), (22, one (Cell.ptr 0 2)), (26, one (cI v20)), (27, one (Cell.ptr 0 3))] [] [(0, (bx v21 v22 v23 v24)), (1, (bx 0 0 0 0)), (2, (bx v17 v18 v19 v20))] 3) := by
        refine hI _ _ _ ?_
        refine A.all [1, 5, 7, 12, 15] (by kernel_rfl) rfl ⟨⟨_, rfl, ?_⟩, ⟨_, rfl, ?_⟩, ⟨_, rfl, ?_⟩, ⟨_, rfl, ?_⟩, ⟨_, rfl, ?_⟩, trivial⟩
        · refine L.loadPtr shape3 hF rfl rfl rfl rfl rfl rfl ?_
          exact L.nil (A.on (hO _ _ _ n3679) (Le.mk [(0, 0), (1, 1), (2, 2)] hm rfl (S8 rfl rfl rfl rfl rfl rfl rfl rfl rfl rfl rfl rfl rfl rfl rfl rfl) trivial (B3 rfl rfl rfl rfl rfl rfl rfl rfl rfl)))
        · refine L.loadPtr shape3 hF rfl rfl rfl rfl rfl rfl ?_
          exact L.nil (A.on (hO _ _ _ n3709) (Le.mk [(0, 0), (1, 1), (2, 2)] hm rfl (S8 rfl rfl rfl rfl rfl rfl rfl rfl rfl rfl rfl rfl rfl rfl rfl rfl) trivial (B3 rfl rfl rfl rfl rfl rfl rfl rfl rfl)))
        · refine L.loadPtr shape3 hF rfl rfl rfl rfl rfl rfl ?_
          exact L.nil (A.on (hO _ _ _ n3805) (Le.mk [(0, 0), (1, 1), (2, 2)] hm rfl (S8 rfl rfl rfl rfl rfl rfl rfl rfl rfl rfl rfl rfl rfl rfl rfl rfl) trivial (B3 rfl rfl rfl rfl rfl rfl rfl rfl rfl)))
        · refine L.loadPtr shape3 hF rfl rfl rfl rfl rfl rfl ?_
          exact L.nil (A.on (hO _ _ _ n7773) (Le.mk [(0, 0), (1, 1), (2, 2)] hm rfl (S8 rfl rfl rfl rfl rfl rfl rfl rfl rfl rfl rfl rfl rfl rfl rfl rfl) trivial (B3 rfl rfl rfl rfl rfl rfl rfl rfl rfl)))
        · refine L.alloc 3 info25 rfl hF rfl rfl rfl rfl ?_
          exact L.nil (A.on (hO _ _ _ n36445) (Le.mk [(0, 0), (1, 1), (2, 3), (3, 2)] hm rfl (S9 rfl rfl rfl rfl rfl rfl rfl rfl rfl rfl rfl rfl rfl rfl rfl rfl rfl rfl) trivial (B4 rfl rfl rfl rfl rfl rfl rfl rfl rfl rfl rfl rfl)))
      have n39509 : W 9 #[true, false, true, false, true, false, true, false, false, true, false, true, true, false, false, true, false] (mkSt [(3, one (Cell.ptr 0 0)), (4, one (Cell.ptr 1 0)), (6, one (Cell.ptr 2 0)), (16, one (Cell.ptr 3 0)), (18, one (Cell.ptr 3 1)), (20, one (Cell.ptr 3 2)), (22, one (Cell.ptr 0 2)), (25, one (Cell.ptr 3 3)), (28, one (cI v24))] [] [(0, (bx v21 v22 v23 v24)), (1, (bx 0 0 0 0)), (2, (bx 0 0 0 0)), (3, (bx v17 v18 v19 v20))] 4) := by
        refine hI _ _ _ ?_
        refine A.all [1, 3, 5, 7, 10] (by kernel_rfl) rfl ⟨⟨_, rfl, ?_⟩, ⟨_, rfl, ?_⟩, ⟨_, rfl, ?_⟩, ⟨_, rfl, ?_⟩, ⟨_, rfl, ?_⟩, trivial⟩
        · refine L.loadPtr shape3 hF rfl rfl rfl rfl rfl rfl ?_
          exact L.nil (A.on (hO _ _ _ n39511) (Le.mk [(0, 0), (1, 1), (2, 2), (3, 3)] hm rfl (S9 rfl rfl rfl rfl rfl rfl rfl rfl rfl rfl rfl rfl rfl rfl rfl rfl rfl rfl) trivial (B4 rfl rfl rfl rfl rfl rfl rfl rfl rfl rfl rfl rfl)))
        · refine L.loadPtr shape3 hF rfl rfl rfl rfl rfl rfl ?_
          exact L.nil (A.on (hO _ _ _ n39517) (Le.mk [(0, 0), (1, 1), (2, 2), (3, 3)] hm rfl (S9 rfl rfl rfl rfl rfl rfl rfl rfl rfl rfl rfl rfl rfl rfl rfl rfl rfl rfl) trivial (B4 rfl rfl rfl rfl rfl rfl rfl rfl rfl rfl rfl rfl)))
        · refine L.loadPtr shape3 hF rfl rfl rfl rfl rfl rfl ?_
          exact L.nil (A.on (hO _ _ _ n39541) (Le.mk [(0, 0), (1, 1), (2, 2), (3, 3)] hm rfl (S9 rfl rfl rfl rfl rfl rfl rfl rfl rfl rfl rfl rfl rfl rfl rfl rfl rfl rfl) trivial (B4 rfl rfl rfl rfl rfl rfl rfl rfl rfl rfl rfl rfl)))
        · refine L.loadPtr shape3 hF rfl rfl rfl rfl rfl rfl ?_
          exact L.nil (A.on (hO _ _ _ n39637) (Le.mk [(0, 0), (1, 1), (2, 2), (3, 3)] hm rfl (S9 rfl rfl rfl rfl rfl rfl rfl rfl rfl rfl rfl rfl rfl rfl rfl rfl rfl rfl) trivial (B4 rfl rfl rfl rfl rfl rfl rfl rfl rfl rfl rfl rfl)))
        · refine L.loadPtr shape3 hF rfl rfl rfl rfl rfl rfl ?_
          exact L.nil (A.on (hO _ _ _ n40533) (Le.mk [(0, 0), (1, 1), (2, 2), (3, 3)] hm rfl (S9 rfl rfl rfl rfl rfl rfl rfl rfl rfl rfl rfl rfl rfl rfl rfl rfl rfl rfl) trivial (B4 rfl rfl rfl rfl rfl rfl rfl rfl rfl rfl rfl rfl)))
      have n36437 : W 9 #[true, false, true, false, true, false, true, false, false, true, true, true, false, false, false, true, false] (mkSt [(3, one (Cell.ptr 0 0)), (4, one (Cell.ptr 1 0)), (6, one (Cell.ptr 2 0)), (16, one (Cell.ptr 3 0)), (18, one (Cell.ptr 3 1)), (20, one (Cell.ptr 3 2)), (22, one (Cell.ptr 0 2)), (26, one (cI v20)), (27, one (Cell.ptr 0 3))] [] [(0, (bx v21 v22 v23 v24)), (1, (bx 0 0 0 0)), (2, (bx 0 0 0 0)), (3, (bx v17 v18 v19 v20))] 4) := by
        refine hI _ _ _ ?_
        refine A.all [1, 3, 5, 7, 12] (by kernel_rfl) rfl ⟨⟨_, rfl, ?_⟩, ⟨_, rfl, ?_⟩, ⟨_, rfl, ?_⟩, ⟨_, rfl, ?_⟩, ⟨_, rfl, ?_⟩, trivial⟩
        · refine L.loadPtr shape3 hF rfl rfl rfl rfl rfl rfl ?_
          exact L.nil (A.on (hO _ _ _ n36439) (Le.mk [(0, 0), (1, 1), (2, 2), (3, 3)] hm rfl (S9 rfl rfl rfl rfl rfl rfl rfl rfl rfl rfl rfl rfl rfl rfl rfl rfl rfl rfl) trivial (B4 rfl rfl rfl rfl rfl rfl rfl rfl rfl rfl rfl rfl)))
        · refine L.loadPtr shape3 hF rfl rfl rfl rfl rfl rfl ?_
          exact L.nil (A.on (hO _ _ _ n36445) (Le.mk [(0, 0), (1, 1), (2, 2), (3, 3)] hm rfl (S9 rfl rfl rfl rfl rfl rfl rfl rfl rfl rfl rfl rfl rfl rfl rfl rfl rfl rfl) trivial (B4 rfl rfl rfl rfl rfl rfl rfl rfl rfl rfl rfl rfl)))
        · refine L.loadPtr shape3 hF rfl rfl rfl rfl rfl rfl ?_
          exact L.nil (A.on (hO _ _ _ n36469) (Le.mk [(0, 0), (1, 1), (2, 2), (3, 3)] hm rfl (S9 rfl rfl rfl rfl rfl rfl rfl rfl rfl rfl rfl rfl rfl rfl rfl rfl rfl rfl) trivial (B4 rfl rfl rfl rfl rfl rfl rfl rfl rfl rfl rfl rfl)))
        · refine L.loadPtr shape3 hF rfl rfl rfl rfl rfl rfl ?_
          exact L.nil (A.on (hO _ _ _ n36565) (Le.mk [(0, 0), (1, 1), (2, 2), (3, 3)] hm rfl (S9 rfl rfl rfl rfl rfl rfl rfl rfl rfl rfl rfl rfl rfl rfl rfl rfl rfl rfl) trivial (B4 rfl rfl rfl rfl rfl rfl rfl rfl rfl rfl rfl rfl)))
        · refine L.loadPtr shape3 hF rfl rfl rfl rfl rfl rfl ?_
          exact L.nil (A.on (hO _ _ _ n40533) (Le.mk [(0, 0), (1, 1), (2, 2), (3, 3)] hm rfl (S9 rfl rfl rfl rfl rfl rfl rfl rfl rfl rfl rfl rfl rfl rfl rfl rfl rfl rfl) trivial (B4 rfl rfl rfl rfl rfl rfl rfl rfl rfl rfl rfl rfl)))
      have n35415 : W 9 #[true, true, true, false, true, false, true, false, false, true, false, true, false, false, false, true, false] (mkSt [(3, one (Cell.ptr 0 0)), (4, one (Cell.ptr 1 0)), (6, one (Cell.ptr 2 0)), (17, one (cI v17)), (18, one (Cell.ptr 3 1)), (20, one (Cell.ptr 3 2)), (22, one (Cell.ptr 0 2)), (25, one (Cell.ptr 3 3)), (27, one (Cell.ptr 0 3))] [] [(0, (bx v21 v22 v23 v24)), (1, (bx 0 0 0 0)), (2, (bx 0 0 0 0)), (3, (bx v17 v18 v19 v20))] 4) := by
        refine hI _ _ _ ?_
        refine A.all [3, 5, 7, 10, 12] (by kernel_rfl) rfl ⟨⟨_, rfl, ?_⟩, ⟨_, rfl, ?_⟩, ⟨_, rfl, ?_⟩, ⟨_, rfl, ?_⟩, ⟨_, rfl, ?_⟩, trivial⟩
        · refine L.loadPtr shape3 hF rfl rfl rfl rfl rfl rfl ?_
          exact L.nil (A.on (hO _ _ _ n35423) (Le.mk [(0, 0), (1, 1), (2, 2), (3, 3)] hm rfl (S9 rfl rfl rfl rfl rfl rfl rfl rfl rfl rfl rfl rfl rfl rfl rfl rfl rfl rfl) trivial (B4 rfl rfl rfl rfl rfl rfl rfl rfl rfl rfl rfl rfl)))
        · refine L.loadPtr shape3 hF rfl rfl rfl rfl rfl rfl ?_
          exact L.nil (A.on (hO _ _ _ n35447) (Le.mk [(0, 0), (1, 1), (2, 2), (3, 3)] hm rfl (S9 rfl rfl rfl rfl rfl rfl rfl rfl rfl rfl rfl rfl rfl rfl rfl rfl rfl rfl) trivial (B4 rfl rfl rfl rfl rfl rfl rfl rfl rfl rfl rfl rfl)))
        · refine L.loadPtr shape3 hF rfl rfl rfl rfl rfl rfl ?_
          exact L.nil (A.on (hO _ _ _ n35543) (Le.mk [(0, 0), (1, 1), (2, 2), (3, 3)] hm rfl (S9 rfl rfl rfl rfl rfl rfl rfl rfl rfl rfl rfl rfl rfl rfl rfl rfl rfl rfl) trivial (B4 rfl rfl rfl rfl rfl rfl rfl rfl rfl rfl rfl rfl)))
        · refine L.loadPtr shape3 hF rfl rfl rfl rfl rfl rfl ?_
          exact L.nil (A.on (hO _ _ _ n36439) (Le.mk [(0, 0), (1, 1), (2, 2), (3, 3)] hm rfl (S9 rfl rfl rfl rfl rfl rfl rfl rfl rfl rfl rfl rfl rfl rfl rfl rfl rfl rfl) trivial (B4 rfl rfl rfl rfl rfl rfl rfl rfl rfl rfl rfl rfl)))
        · refine L.loadPtr shape3 hF rfl rfl rfl rfl rfl rfl ?_
          exact L.nil (A.on (hO _ _ _ n39511) (Le.mk [(0, 0), (1, 1), (2, 2), (3, 3)] hm rfl (S9 rfl rfl rfl rfl rfl rfl rfl rfl rfl rfl rfl rfl rfl rfl rfl rfl rfl rfl) trivial (B4 rfl rfl rfl rfl rfl rfl rfl rfl rfl rfl rfl rfl)))
      have n35421 : W 9 #[true, false, true, true, true, false, true, false, false, true, false, true, false, false, false, true, false] (mkSt [(3, one (Cell.ptr 0 0)), (4, one (Cell.ptr 1 0)), (6, one (Cell.ptr 2 0)), (16, one (Cell.ptr 3 0)), (19, one (cI v18)), (20, one (Cell.ptr 3 2)), (22, one (Cell.ptr 0 2)), (25, one (Cell.ptr 3 3)), (27, one (Cell.ptr 0 3))] [] [(0, (bx v21 v22 v23 v24)), (1, (bx 0 0 0 0)), (2, (bx 0 0 0 0)), (3, (bx v17 v18 v19 v20))] 4) := by
        refine hI _ _ _ ?_
        refine A.all [1, 5, 7, 10, 12] (by kernel_rfl) rfl ⟨⟨_, rfl, ?_⟩, ⟨_, rfl, ?_⟩, ⟨_, rfl, ?_⟩, ⟨_, rfl, ?_⟩, ⟨_, rfl, ?_⟩, trivial⟩
        · refine L.loadPtr shape3 hF rfl rfl rfl rfl rfl rfl ?_
          exact L.nil (A.on (hO _ _ _ n35423) (Le.mk [(0, 0), (1, 1), (2, 2), (3, 3)] hm rfl (S9 rfl rfl rfl rfl rfl rfl rfl rfl rfl rfl rfl rfl rfl rfl rfl rfl rfl rfl) trivial (B4 rfl rfl rfl rfl rfl rfl rfl rfl rfl rfl rfl rfl)))
        · refine L.loadPtr shape3 hF rfl rfl rfl rfl rfl rfl ?_
          exact L.nil (A.on (hO _ _ _ n35453) (Le.mk [(0, 0), (1, 1), (2, 2), (3, 3)] hm rfl (S9 rfl rfl rfl rfl rfl rfl rfl rfl rfl rfl rfl rfl rfl rfl rfl rfl rfl rfl) trivial (B4 rfl rfl rfl rfl rfl rfl rfl rfl rfl rfl rfl rfl)))
        · refine L.loadPtr shape3 hF rfl rfl rfl rfl rfl rfl ?_
          exact L.nil (A.on (hO _ _ _ n35549) (Le.mk [(0, 0), (1, 1), (2, 2), (3, 3)] hm rfl (S9 rfl rfl rfl rfl rfl rfl rfl rfl rfl rfl rfl rfl rfl rfl rfl rfl rfl rfl) trivial (B4 rfl rfl rfl rfl rfl rfl rfl rfl rfl rfl rfl rfl)))
        · refine L.loadPtr shape3 hF rfl rfl rfl rfl rfl rfl ?_
          exact L.nil (A.on (hO _ _ _ n36445) (Le.mk [(0, 0), (1, 1), (2, 2), (3, 3)] hm rfl (S9 rfl rfl rfl rfl rfl rfl rfl rfl rfl rfl rfl rfl rfl rfl rfl rfl rfl rfl) trivial (B4 rfl rfl rfl rfl rfl rfl rfl rfl rfl rfl rfl rfl)))
        · refine L.loadPtr shape3 hF rfl rfl rfl rfl rfl rfl ?_
          exact L.nil (A.on (hO _ _ _ n39517) (Le.mk [(0, 0), (1, 1), (2, 2), (3, 3)] hm rfl (S9 rfl rfl rfl rfl rfl rfl rfl rfl rfl rfl rfl rfl rfl rfl rfl rfl rfl rfl) trivial (B4 rfl rfl rfl rfl rfl rfl rfl rfl rfl rfl rfl rfl)))
      have n35445 : W 9 #[true, false, true, false, true, true, true, false, false, true, false, true, false, false, false, true, false] (mkSt [(3, one (Cell.ptr 0 0)), (4, one (Cell.ptr 1 0)), (6, one (Cell.ptr 2 0)), (16, one (Cell.ptr 3 0)), (18, one (Cell.ptr 3 1)), (21, one (cI v19)), (22, one (Cell.ptr 0 2)), (25, one (Cell.ptr 3 3)), (27, one (Cell.ptr 0 3))] [] [(0, (bx v21 v22 v23 v24)), (1, (bx 0 0 0 0)), (2, (bx 0 0 0 0)), (3, (bx v17 v18 v19 v20))] 4) := by
        refine hI _ _ _ ?_
        refine A.all [1, 3, 7, 10, 12] (by kernel_rfl) rfl ⟨⟨_, rfl, ?_⟩, ⟨_, rfl, ?_⟩, ⟨_, rfl, ?_⟩, ⟨_, rfl, ?_⟩, ⟨_, rfl, ?_⟩, trivial⟩
        · refine L.loadPtr shape3 hF rfl rfl rfl rfl rfl rfl ?_
          exact L.nil (A.on (hO _ _ _ n35447) (Le.mk [(0, 0), (1, 1), (2, 2), (3, 3)] hm rfl (S9 rfl rfl rfl rfl rfl rfl rfl rfl rfl rfl rfl rfl rfl rfl rfl rfl rfl rfl) trivial (B4 rfl rfl rfl rfl rfl rfl rfl rfl rfl rfl rfl rfl)))
        · refine L.loadPtr shape3 hF rfl rfl rfl rfl rfl rfl ?_
          exact L.nil (A.on (hO _ _ _ n35453) (Le.mk [(0, 0), (1, 1), (2, 2), (3, 3)] hm rfl (S9 rfl rfl rfl rfl rfl rfl rfl rfl rfl rfl rfl rfl rfl rfl rfl rfl rfl rfl) trivial (B4 rfl rfl rfl rfl rfl rfl rfl rfl rfl rfl rfl rfl)))
        · refine L.loadPtr shape3 hF rfl rfl rfl rfl rfl rfl ?_
          exact L.nil (A.on (hO _ _ _ n35573) (Le.mk [(0, 0), (1, 1), (2, 2), (3, 3)] hm rfl (S9 rfl rfl rfl rfl rfl rfl rfl rfl rfl rfl rfl rfl rfl rfl rfl rfl rfl rfl) trivial (B4 rfl rfl rfl rfl rfl rfl rfl rfl rfl rfl rfl rfl)))
        · refine L.loadPtr shape3 hF rfl rfl rfl rfl rfl rfl ?_
          exact L.nil (A.on (hO _ _ _ n36469) (Le.mk [(0, 0), (1, 1), (2, 2), (3, 3)] hm rfl (S9 rfl rfl rfl rfl rfl rfl rfl rfl rfl rfl rfl rfl rfl rfl rfl rfl rfl rfl) trivial (B4 rfl rfl rfl rfl rfl rfl rfl rfl rfl rfl rfl rfl)))
        · refine L.loadPtr shape3 hF rfl rfl rfl rfl rfl rfl ?_
          exact L.nil (A.on (hO _ _ _ n39541) (Le.mk [(0, 0), (1, 1), (2, 2), (3, 3)] hm rfl (S9 rfl rfl rfl rfl rfl rfl rfl rfl rfl rfl rfl rfl rfl rfl rfl rfl rfl rfl) trivial (B4 rfl rfl rfl rfl rfl rfl rfl rfl rfl rfl rfl rfl)))
      have n6743 : W 9 #[true, true, true, false, true, false, true, false, false, true, false, true, true, false, false, false, false] (mkSt [(3, one (Cell.ptr 0 0)), (4, one (Cell.ptr 1 0)), (17, one (cI v17)), (18, one (Cell.ptr 2 1)), (20, one (Cell.ptr 2 2)), (22, one (Cell.ptr 0 2)), (25, one (Cell.ptr 2 3)), (28, one (cI v24))] [] [(0, (bx v21 v22 v23 v24)), (1, (bx 0 0 0 0)), (2, (bx v17 v18 v19 v20))] 3) := by
        refine hI _ _ _ ?_
        refine A.all [3, 5, 7, 10, 15] (by kernel_rfl) rfl ⟨⟨_, rfl, ?_⟩, ⟨_, rfl, ?_⟩, ⟨_, rfl, ?_⟩, ⟨_, rfl, ?_⟩, ⟨_, rfl, ?_⟩, trivial⟩
        · refine L.loadPtr shape3 hF rfl rfl rfl rfl rfl rfl ?_
          exact L.nil (A.on (hO _ _ _ n6751) (Le.mk [(0, 0), (1, 1), (2, 2)] hm rfl (S8 rfl rfl rfl rfl rfl rfl rfl rfl rfl rfl rfl rfl rfl rfl rfl rfl) trivial (B3 rfl rfl rfl rfl rfl rfl rfl rfl rfl)))
        · refine L.loadPtr shape3 hF rfl rfl rfl rfl rfl rfl ?_
          exact L.nil (A.on (hO _ _ _ n6775) (Le.mk [(0, 0), (1, 1), (2, 2)] hm rfl (S8 rfl rfl rfl rfl rfl rfl rfl rfl rfl rfl rfl rfl rfl rfl rfl rfl) trivial (B3 rfl rfl rfl rfl rfl rfl rfl rfl rfl)))
        · refine L.loadPtr shape3 hF rfl rfl rfl rfl rfl rfl ?_
          exact L.nil (A.on (hO _ _ _ n6871) (Le.mk [(0, 0), (1, 1), (2, 2)] hm rfl (S8 rfl rfl rfl rfl rfl rfl rfl rfl rfl rfl rfl rfl rfl rfl rfl rfl) trivial (B3 rfl rfl rfl rfl rfl rfl rfl rfl rfl)))
        · refine L.loadPtr shape3 hF rfl rfl rfl rfl rfl rfl ?_
          exact L.nil (A.on (hO _ _ _ n7767) (Le.mk [(0, 0), (1, 1), (2, 2)] hm rfl (S8 rfl rfl rfl rfl rfl rfl rfl rfl rfl rfl rfl rfl rfl rfl rfl rfl) trivial (B3 rfl rfl rfl rfl rfl rfl rfl rfl rfl)))
        · refine L.alloc 3 info25 rfl hF rfl rfl rfl rfl ?_
          exact L.nil (A.on (hO _ _ _ n39511) (Le.mk [(0, 0), (1, 1), (2, 3), (3, 2)] hm rfl (S9 rfl rfl rfl rfl rfl rfl rfl rfl rfl rfl rfl rfl rfl rfl rfl rfl rfl rfl) trivial (B4 rfl rfl rfl rfl rfl rfl rfl rfl rfl rfl rfl rfl)))
      have n2775 : W 9 #[true, true, true, false, true, false, true, true, false, true, false, true, false, false, false, false, false] (mkSt [(3, one (Cell.ptr 0 0)), (4, one (Cell.ptr 1 0)), (17, one (cI v17)), (18, one (Cell.ptr 2 1)), (20, one (Cell.ptr 2 2)), (23, one (cI v23)), (25, one (Cell.ptr 2 3)), (27, one (Cell.ptr 0 3))] [] [(0, (bx v21 v22 v23 v24)), (1, (bx 0 0 0 0)), (2, (bx v17 v18 v19 v20))] 3) := by
        refine hI _ _ _ ?_
        refine A.all [3, 5, 10, 12, 15] (by kernel_rfl) rfl ⟨⟨_, rfl, ?_⟩, ⟨_, rfl, ?_⟩, ⟨_, rfl, ?_⟩, ⟨_, rfl, ?_⟩, ⟨_, rfl, ?_⟩, trivial⟩
        · refine L.loadPtr shape3 hF rfl rfl rfl rfl rfl rfl ?_
          exact L.nil (A.on (hO _ _ _ n2783) (Le.mk [(0, 0), (1, 1), (2, 2)] hm rfl (S8 rfl rfl rfl rfl rfl rfl rfl rfl rfl rfl rfl rfl rfl rfl rfl rfl) trivial (B3 rfl rfl rfl rfl rfl rfl rfl rfl rfl)))
        · refine L.loadPtr shape3 hF rfl rfl rfl rfl rfl rfl ?_
          exact L.nil (A.on (hO _ _ _ n2807) (Le.mk [(0, 0), (1, 1), (2, 2)] hm rfl (S8 rfl rfl rfl rfl rfl rfl rfl rfl rfl rfl rfl rfl rfl rfl rfl rfl) trivial (B3 rfl rfl rfl rfl rfl rfl rfl rfl rfl)))
        · refine L.loadPtr shape3 hF rfl rfl rfl rfl rfl rfl ?_
          exact L.nil (A.on (hO _ _ _ n3799) (Le.mk [(0, 0), (1, 1), (2, 2)] hm rfl (S8 rfl rfl rfl rfl rfl rfl rfl rfl rfl rfl rfl rfl rfl rfl rfl rfl) trivial (B3 rfl rfl rfl rfl rfl rfl rfl rfl rfl)))
        · refine L.loadPtr shape3 hF rfl rfl rfl rfl rfl rfl ?_
          exact L.nil (A.on (hO _ _ _ n6871) (Le.mk [(0, 0), (1, 1), (2, 2)] hm rfl (S8 rfl rfl rfl rfl rfl rfl rfl rfl rfl rfl rfl rfl rfl rfl rfl rfl) trivial (B3 rfl rfl rfl rfl rfl rfl rfl rfl rfl)))
        · refine L.alloc 3 info25 rfl hF rfl rfl rfl rfl ?_
          exact L.nil (A.on (hO _ _ _ n35543) (Le.mk [(0, 0), (1, 1), (2, 3), (3, 2)] hm rfl (S9 rfl rfl rfl rfl rfl rfl rfl rfl rfl rfl rfl rfl rfl rfl rfl rfl rfl rfl) trivial (B4 rfl rfl rfl rfl rfl rfl rfl rfl rfl rfl rfl rfl)))
      have n7765 : W 9 #[true, false, true, false, true, false, true, false, false, true, true, true, true, false, false, false, false] (mkSt [(3, one (Cell.ptr 0 0)), (4, one (Cell.ptr 1 0)), (16, one (Cell.ptr 2 0)), (18, one (Cell.ptr 2 1)), (20, one (Cell.ptr 2 2)), (22, one (Cell.ptr 0 2)), (26, one (cI v20)), (28, one (cI v24))] [] [(0, (bx v21 v22 v23 v24)), (1, (bx 0 0 0 0)), (2, (bx v17 v18 v19 v20))] 3) := by
        refine hI _ _ _ ?_
        refine A.all [1, 3, 5, 7, 15] (by kernel_rfl) rfl ⟨⟨_, rfl, ?_⟩, ⟨_, rfl, ?_⟩, ⟨_, rfl, ?_⟩, ⟨_, rfl, ?_⟩, ⟨_, rfl, ?_⟩, trivial⟩
        · refine L.loadPtr shape3 hF rfl rfl rfl rfl rfl rfl ?_
          exact L.nil (A.on (hO _ _ _ n7767) (Le.mk [(0, 0), (1, 1), (2, 2)] hm rfl (S8 rfl rfl rfl rfl rfl rfl rfl rfl rfl rfl rfl rfl rfl rfl rfl rfl) trivial (B3 rfl rfl rfl rfl rfl rfl rfl rfl rfl)))
        · refine L.loadPtr shape3 hF rfl rfl rfl rfl rfl rfl ?_
          exact L.nil (A.on (hO _ _ _ n7773) (Le.mk [(0, 0), (1, 1), (2, 2)] hm rfl (S8 rfl rfl rfl rfl rfl rfl rfl rfl rfl rfl rfl rfl rfl rfl rfl rfl) trivial (B3 rfl rfl rfl rfl rfl rfl rfl rfl rfl)))
        · refine L.loadPtr shape3 hF rfl rfl rfl rfl rfl rfl ?_
          exact L.nil (A.on (hO _ _ _ n7797) (Le.mk [(0, 0), (1, 1), (2, 2)] hm rfl (S8 rfl rfl rfl rfl rfl rfl rfl rfl rfl rfl rfl rfl rfl rfl rfl rfl) trivial (B3 rfl rfl rfl rfl rfl rfl rfl rfl rfl)))
        · refine L.loadPtr shape3 hF rfl rfl rfl rfl rfl rfl ?_
          exact L.nil (A.on (hO _ _ _ n7893) (Le.mk [(0, 0), (1, 1), (2, 2)] hm rfl (S8 rfl rfl rfl rfl rfl rfl rfl rfl rfl rfl rfl rfl rfl rfl rfl rfl) trivial (B3 rfl rfl rfl rfl rfl rfl rfl rfl rfl)))
        · refine L.alloc 3 info25 rfl hF rfl rfl rfl rfl ?_
          exact L.nil (A.on (hO _ _ _ n40533) (Le.mk [(0, 0), (1, 1), (2, 3), (3, 2)] hm rfl (S9 rfl rfl rfl rfl rfl rfl rfl rfl rfl rfl rfl rfl rfl rfl rfl rfl rfl rfl) trivial (B4 rfl rfl rfl rfl rfl rfl rfl rfl rfl rfl rfl rfl)))
      have n3797 : W 9 #[true, false, true, false, true, false, true, true, false, true, true, true, false, false, false, false, false] (mkSt [(3, one (Cell.ptr 0 0)), (4, one (Cell.ptr 1 0)), (16, one (Cell.ptr 2 0)), (18, one (Cell.ptr 2 1)), (20, one (Cell.ptr 2 2)), (23, one (cI v23)), (26, one (cI v20)), (27, one (Cell.ptr 0 3))] [] [(0, (bx v21 v22 v23 v24)), (1, (bx 0 0 0 0)), (2, (bx v17 v18 v19 v20))] 3) := by
        refine hI _ _ _ ?_
        refine A.all [1, 3, 5, 12, 15] (by kernel_rfl) rfl ⟨⟨_, rfl, ?_⟩, ⟨_, rfl, ?_⟩, ⟨_, rfl, ?_⟩, ⟨_, rfl, ?_⟩, ⟨_, rfl, ?_⟩, trivial⟩
        · refine L.loadPtr shape3 hF rfl rfl rfl rfl rfl rfl ?_
          exact L.nil (A.on (hO _ _ _ n3799) (Le.mk [(0, 0), (1, 1), (2, 2)] hm rfl (S8 rfl rfl rfl rfl rfl rfl rfl rfl rfl rfl rfl rfl rfl rfl rfl rfl) trivial (B3 rfl rfl rfl rfl rfl rfl rfl rfl rfl)))
        · refine L.loadPtr shape3 hF rfl rfl rfl rfl rfl rfl ?_
          exact L.nil (A.on (hO _ _ _ n3805) (Le.mk [(0, 0), (1, 1), (2, 2)] hm rfl (S8 rfl rfl rfl rfl rfl rfl rfl rfl rfl rfl rfl rfl rfl rfl rfl rfl) trivial (B3 rfl rfl rfl rfl rfl rfl rfl rfl rfl)))
        · refine L.loadPtr shape3 hF rfl rfl rfl rfl rfl rfl ?_
          exact L.nil (A.on (hO _ _ _ n3829) (Le.mk [(0, 0), (1, 1), (2, 2)] hm rfl (S8 rfl rfl rfl rfl rfl rfl rfl rfl rfl rfl rfl rfl rfl rfl rfl rfl) trivial (B3 rfl rfl rfl rfl rfl rfl rfl rfl rfl)))
        · refine L.loadPtr shape3 hF rfl rfl rfl rfl rfl rfl ?_
          exact L.nil (A.on (hO _ _ _ n7893) (Le.mk [(0, 0), (1, 1), (2, 2)] hm rfl (S8 rfl rfl rfl rfl rfl rfl rfl rfl rfl rfl rfl rfl rfl rfl rfl rfl) trivial (B3 rfl rfl rfl rfl rfl rfl rfl rfl rfl)))
        · refine L.alloc 3 info25 rfl hF rfl rfl rfl rfl ?_
          exact L.nil (A.on (hO _ _ _ n36565) (Le.mk [(0, 0), (1, 1), (2, 3), (3, 2)] hm rfl (S9 rfl rfl rfl rfl rfl rfl rfl rfl rfl rfl rfl rfl rfl rfl rfl rfl rfl rfl) trivial (B4 rfl rfl rfl rfl rfl rfl rfl rfl rfl rfl rfl rfl)))
      have n6749 : W 9 #[true, false, true, true, true, false, true, false, false, true, false, true, true, false, false, false, false] (mkSt [(3, one (Cell.ptr 0 0)), (4, one (Cell.ptr 1 0)), (16, one (Cell.ptr 2 0)), (19, one (cI v18)), (20, one (Cell.ptr 2 2)), (22, one (Cell.ptr 0 2)), (25, one (Cell.ptr 2 3)), (28, one (cI v24))] [] [(0, (bx v21 v22 v23 v24)), (1, (bx 0 0 0 0)), (2, (bx v17 v18 v19 v20))] 3) := by
        refine hI _ _ _ ?_
        refine A.all [1, 5, 7, 10, 15] (by kernel_rfl) rfl ⟨⟨_, rfl, ?_⟩, ⟨_, rfl, ?_⟩, ⟨_, rfl, ?_⟩, ⟨_, rfl, ?_⟩, ⟨_, rfl, ?_⟩, trivial⟩
        · refine L.loadPtr shape3 hF rfl rfl rfl rfl rfl rfl ?_
          exact L.nil (A.on (hO _ _ _ n6751) (Le.mk [(0, 0), (1, 1), (2, 2)] hm rfl (S8 rfl rfl rfl rfl rfl rfl rfl rfl rfl rfl rfl rfl rfl rfl rfl rfl) trivial (B3 rfl rfl rfl rfl rfl rfl rfl rfl rfl)))
        · refine L.loadPtr shape3 hF rfl rfl rfl rfl rfl rfl ?_
          exact L.nil (A.on (hO _ _ _ n6781) (Le.mk [(0, 0), (1, 1), (2, 2)] hm rfl (S8 rfl rfl rfl rfl rfl rfl rfl rfl rfl rfl rfl rfl rfl rfl rfl rfl) trivial (B3 rfl rfl rfl rfl rfl rfl rfl rfl rfl)))
        · refine L.loadPtr shape3 hF rfl rfl rfl rfl rfl rfl ?_
          exact L.nil (A.on (hO _ _ _ n6877) (Le.mk [(0, 0), (1, 1), (2, 2)] hm rfl (S8 rfl rfl rfl rfl rfl rfl rfl rfl rfl rfl rfl rfl rfl rfl rfl rfl) trivial (B3 rfl rfl rfl rfl rfl rfl rfl rfl rfl)))
        · refine L.loadPtr shape3 hF rfl rfl rfl rfl rfl rfl ?_
          exact L.nil (A.on (hO _ _ _ n7773) (Le.mk [(0, 0), (1, 1), (2, 2)] hm rfl (S8 rfl rfl rfl rfl rfl rfl rfl rfl rfl rfl rfl rfl rfl rfl rfl rfl) trivial (B3 rfl rfl rfl rfl rfl rfl rfl rfl rfl)))
        · refine L.alloc 3 info25 rfl hF rfl rfl rfl rfl ?_
          exact L.nil (A.on (hO _ _ _ n39517) (Le.mk [(0, 0), (1, 1), (2, 3), (3, 2)] hm rfl (S9 rfl rfl rfl rfl rfl rfl rfl rfl rfl rfl rfl rfl rfl rfl rfl rfl rfl rfl) trivial (B4 rfl rfl rfl rfl rfl rfl rfl rfl rfl rfl rfl rfl)))
      have n2781 : W 9 #[true, false, true, true, true, false, true, true, false, true, false, true, false, false, false, false, false] (mkSt [(3, one (Cell.ptr 0 0)), (4, one (Cell.ptr 1 0)), (16, one (Cell.ptr 2 0)), (19, one (cI v18)), (20, one (Cell.ptr 2 2)), (23, one (cI v23)), (25, one (Cell.ptr 2 3)), (27, one (Cell.ptr 0 3))] [] [(0, (bx v21 v22 v23 v24)), (1, (bx 0 0 0 0)), (2, (bx v17 v18 v19 v20))] 3) := by
        refine hI _ _ _ ?_
        refine A.all [1, 5, 10, 12, 15] (by kernel_rfl) rfl ⟨⟨_, rfl, ?_⟩, ⟨_, rfl, ?_⟩, ⟨_, rfl, ?_⟩, ⟨_, rfl, ?_⟩, ⟨_, rfl, ?_⟩, trivial⟩
        · refine L.loadPtr shape3 hF rfl rfl rfl rfl rfl rfl ?_
          exact L.nil (A.on (hO _ _ _ n2783) (Le.mk [(0, 0), (1, 1), (2, 2)] hm rfl (S8 rfl rfl rfl rfl rfl rfl rfl rfl rfl rfl rfl rfl rfl rfl rfl rfl) trivial (B3 rfl rfl rfl rfl rfl rfl rfl rfl rfl)))
        · refine L.loadPtr shape3 hF rfl rfl rfl rfl rfl rfl ?_
          exact L.nil (A.on (hO _ _ _ n2813) (Le.mk [(0, 0), (1, 1), (2, 2)] hm rfl (S8 rfl rfl rfl rfl rfl rfl rfl rfl rfl rfl rfl rfl rfl rfl rfl rfl) trivial (B3 rfl rfl rfl rfl rfl rfl rfl rfl rfl)))
        · refine L.loadPtr shape3 hF rfl rfl rfl rfl rfl rfl ?_
          exact L.nil (A.on (hO _ _ _ n3805) (Le.mk [(0, 0), (1, 1), (2, 2)] hm rfl (S8 rfl rfl rfl rfl rfl rfl rfl rfl rfl rfl rfl rfl rfl rfl rfl rfl) trivial (B3 rfl rfl rfl rfl rfl rfl rfl rfl rfl)))
        · refine L.loadPtr shape3 hF rfl rfl rfl rfl rfl rfl ?_
          exact L.nil (A.on (hO _ _ _ n6877) (Le.mk [(0, 0), (1, 1), (2, 2)] hm rfl (S8 rfl rfl rfl rfl rfl rfl rfl rfl rfl rfl rfl rfl rfl rfl rfl rfl) trivial (B3 rfl rfl rfl rfl rfl rfl rfl rfl rfl)))
        · refine L.alloc 3 info25 rfl hF rfl rfl rfl rfl ?_
          exact L.nil (A.on (hO _ _ _ n35549) (Le.mk [(0, 0), (1, 1), (2, 3), (3, 2)] hm rfl (S9 rfl rfl rfl rfl rfl rfl rfl rfl rfl rfl rfl rfl rfl rfl rfl rfl rfl rfl) trivial (B4 rfl rfl rfl rfl rfl rfl rfl rfl rfl rfl rfl rfl)))
      have n2679 : W 9 #[true, true, true, false, true, true, true, false, false, true, false, true, false, false, false, false, false] (mkSt [(3, one (Cell.ptr 0 0)), (4, one (Cell.ptr 1 0)), (17, one (cI v17)), (18, one (Cell.ptr 2 1)), (21, one (cI v19)), (22, one (Cell.ptr 0 2)), (25, one (Cell.ptr 2 3)), (27, one (Cell.ptr 0 3))] [] [(0, (bx v21 v22 v23 v24)), (1, (bx 0 0 0 0)), (2, (bx v17 v18 v19 v20))] 3) := by
        refine hI _ _ _ ?_
        refine A.all [3, 7, 10, 12, 15] (by kernel_rfl) rfl ⟨⟨_, rfl, ?_⟩, ⟨_, rfl, ?_⟩, ⟨_, rfl, ?_⟩, ⟨_, rfl, ?_⟩, ⟨_, rfl, ?_⟩, trivial⟩
        · refine L.loadPtr shape3 hF rfl rfl rfl rfl rfl rfl ?_
          exact L.nil (A.on (hO _ _ _ n2687) (Le.mk [(0, 0), (1, 1), (2, 2)] hm rfl (S8 rfl rfl rfl rfl rfl rfl rfl rfl rfl rfl rfl rfl rfl rfl rfl rfl) trivial (B3 rfl rfl rfl rfl rfl rfl rfl rfl rfl)))
        · refine L.loadPtr shape3 hF rfl rfl rfl rfl rfl rfl ?_
          exact L.nil (A.on (hO _ _ _ n2807) (Le.mk [(0, 0), (1, 1), (2, 2)] hm rfl (S8 rfl rfl rfl rfl rfl rfl rfl rfl rfl rfl rfl rfl rfl rfl rfl rfl) trivial (B3 rfl rfl rfl rfl rfl rfl rfl rfl rfl)))
        · refine L.loadPtr shape3 hF rfl rfl rfl rfl rfl rfl ?_
          exact L.nil (A.on (hO _ _ _ n3703) (Le.mk [(0, 0), (1, 1), (2, 2)] hm rfl (S8 rfl rfl rfl rfl rfl rfl rfl rfl rfl rfl rfl rfl rfl rfl rfl rfl) trivial (B3 rfl rfl rfl rfl rfl rfl rfl rfl rfl)))
        · refine L.loadPtr shape3 hF rfl rfl rfl rfl rfl rfl ?_
          exact L.nil (A.on (hO _ _ _ n6775) (Le.mk [(0, 0), (1, 1), (2, 2)] hm rfl (S8 rfl rfl rfl rfl rfl rfl rfl rfl rfl rfl rfl rfl rfl rfl rfl rfl) trivial (B3 rfl rfl rfl rfl rfl rfl rfl rfl rfl)))
        · refine L.alloc 3 info25 rfl hF rfl rfl rfl rfl ?_
          exact L.nil (A.on (hO _ _ _ n35447) (Le.mk [(0, 0), (1, 1), (2, 3), (3, 2)] hm rfl (S9 rfl rfl rfl rfl rfl rfl rfl rfl rfl rfl rfl rfl rfl rfl rfl rfl rfl rfl) trivial (B4 rfl rfl rfl rfl rfl rfl rfl rfl rfl rfl rfl rfl)))
      have n3701 : W 9 #[true, false, true, false, true, true, true, false, false, true, true, true, false, false, false, false, false] (mkSt [(3, one (Cell.ptr 0 0)), (4, one (Cell.ptr 1 0)), (16, one (Cell.ptr 2 0)), (18, one (Cell.ptr 2 1)), (21, one (cI v19)), (22, one (Cell.ptr 0 2)), (26, one (cI v20)), (27, one (Cell.ptr 0 3))] [] [(0, (bx v21 v22 v23 v24)), (1, (bx 0 0 0 0)), (2, (bx v17 v18 v19 v20))] 3) := by
        refine hI _ _ _ ?_
        refine A.all [1, 3, 7, 12, 15] (by kernel_rfl) rfl ⟨⟨_, rfl, ?_⟩, ⟨_, rfl, ?_⟩, ⟨_, rfl, ?_⟩, ⟨_, rfl, ?_⟩, ⟨_, rfl, ?_⟩, trivial⟩
        · refine L.loadPtr shape3 hF rfl rfl rfl rfl rfl rfl ?_
          exact L.nil (A.on (hO _ _ _ n3703) (Le.mk [(0, 0), (1, 1), (2, 2)] hm rfl (S8 rfl rfl rfl rfl rfl rfl rfl rfl rfl rfl rfl rfl rfl rfl rfl rfl) trivial (B3 rfl rfl rfl rfl rfl rfl rfl rfl rfl)))
        · refine L.loadPtr shape3 hF rfl rfl rfl rfl rfl rfl ?_
          exact L.nil (A.on (hO _ _ _ n3709) (Le.mk [(0, 0), (1, 1), (2, 2)] hm rfl (S8 rfl rfl rfl rfl rfl rfl rfl rfl rfl rfl rfl rfl rfl rfl rfl rfl) trivial (B3 rfl rfl rfl rfl rfl rfl rfl rfl rfl)))
        · refine L.loadPtr shape3 hF rfl rfl rfl rfl rfl rfl ?_
          exact L.nil (A.on (hO _ _ _ n3829) (Le.mk [(0, 0), (1, 1), (2, 2)] hm rfl (S8 rfl rfl rfl rfl rfl rfl rfl rfl rfl rfl rfl rfl rfl rfl rfl rfl) trivial (B3 rfl rfl rfl rfl rfl rfl rfl rfl rfl)))
        · refine L.loadPtr shape3 hF rfl rfl rfl rfl rfl rfl ?_
          exact L.nil (A.on (hO _ _ _ n7797) (Le.mk [(0, 0), (1, 1), (2, 2)] hm rfl (S8 rfl rfl rfl rfl rfl rfl rfl rfl rfl rfl rfl rfl rfl rfl rfl rfl) trivial (B3 rfl rfl rfl rfl rfl rfl rfl rfl rfl)))
        · refine L.alloc 3 info25 rfl hF rfl rfl rfl rfl ?_
          exact L.nil (A.on (hO _ _ _ n36469) (Le.mk [(0, 0), (1, 1), (2, 3), (3, 2)] hm rfl (S9 rfl rfl rfl rfl rfl rfl rfl rfl rfl rfl rfl rfl rfl rfl rfl rfl rfl rfl) trivial (B4 rfl rfl rfl rfl rfl rfl rfl rfl rfl rfl rfl rfl)))
      have n2685 : W 9 #[true, false, true, true, true, true, true, false, false, true, false, true, false, false, false, false, false] (mkSt [(3, one (Cell.ptr 0 0)), (4, one (Cell.ptr 1 0)), (16, one (Cell.ptr 2 0)), (19, one (cI v18)), (21, one (cI v19)), (22, one (Cell.ptr 0 2)), (25, one (Cell.ptr 2 3)), (27, one (Cell.ptr 0 3))] [] [(0, (bx v21 v22 v23 v24)), (1, (bx 0 0 0 0)), (2, (bx v17 v18 v19 v20))] 3) := by
        refine hI _ _ _ ?_
        refine A.all [1, 7, 10, 12, 15] (by kernel_rfl) rfl ⟨⟨_, rfl, ?_⟩, ⟨_, rfl, ?_⟩, ⟨_, rfl, ?_⟩, ⟨_, rfl, ?_⟩, ⟨_, rfl, ?_⟩, trivial⟩
        · refine L.loadPtr shape3 hF rfl rfl rfl rfl rfl rfl ?_
          exact L.nil (A.on (hO _ _ _ n2687) (Le.mk [(0, 0), (1, 1), (2, 2)] hm rfl (S8 rfl rfl rfl rfl rfl rfl rfl rfl rfl rfl rfl rfl rfl rfl rfl rfl) trivial (B3 rfl rfl rfl rfl rfl rfl rfl rfl rfl)))
        · refine L.loadPtr shape3 hF rfl rfl rfl rfl rfl rfl ?_
          exact L.nil (A.on (hO _ _ _ n2813) (Le.mk [(0, 0), (1, 1), (2, 2)] hm rfl (S8 rfl rfl rfl rfl rfl rfl rfl rfl rfl rfl rfl rfl rfl rfl rfl rfl) trivial (B3 rfl rfl rfl rfl rfl rfl rfl rfl rfl)))
        · refine L.loadPtr shape3 hF rfl rfl rfl rfl rfl rfl ?_
          exact L.nil (A.on (hO _ _ _ n3709) (Le.mk [(0, 0), (1, 1), (2, 2)] hm rfl (S8 rfl rfl rfl rfl rfl rfl rfl rfl rfl rfl rfl rfl rfl rfl rfl rfl) trivial (B3 rfl rfl rfl rfl rfl rfl rfl rfl rfl)))
        · refine L.loadPtr shape3 hF rfl rfl rfl rfl rfl rfl ?_
          exact L.nil (A.on (hO _ _ _ n6781) (Le.mk [(0, 0), (1, 1), (2, 2)] hm rfl (S8 rfl rfl rfl rfl rfl rfl rfl rfl rfl rfl rfl rfl rfl rfl rfl rfl) trivial (B3 rfl rfl rfl rfl rfl rfl rfl rfl rfl)))
        · refine L.alloc 3 info25 rfl hF rfl rfl rfl rfl ?_
          exact L.nil (A.on (hO _ _ _ n35453) (Le.mk [(0, 0), (1, 1), (2, 3), (3, 2)] hm rfl (S9 rfl rfl rfl rfl rfl rfl rfl rfl rfl rfl rfl rfl rfl rfl rfl rfl rfl rfl) trivial (B4 rfl rfl rfl rfl rfl rfl rfl rfl rfl rfl rfl rfl)))
      have n35541 : W 9 #[true, false, true, false, true, false, true, true, false, true, false, true, false, false, false, true, false] (mkSt [(3, one (Cell.ptr 0 0)), (4, one (Cell.ptr 1 0)), (6, one (Cell.ptr 2 0)), (16, one (Cell.ptr 3 0)), (18, one (Cell.ptr 3 1)), (20, one (Cell.ptr 3 2)), (23, one (cI v23)), (25, one (Cell.ptr 3 3)), (27, one (Cell.ptr 0 3))] [] [(0, (bx v21 v22 v23 v24)), (1, (bx 0 0 0 0)), (2, (bx 0 0 0 0)), (3, (bx v17 v18 v19 v20))] 4) := by
        refine hI _ _ _ ?_
        refine A.all [1, 3, 5, 10, 12] (by kernel_rfl) rfl ⟨⟨_, rfl, ?_⟩, ⟨_, rfl, ?_⟩, ⟨_, rfl, ?_⟩, ⟨_, rfl, ?_⟩, ⟨_, rfl, ?_⟩, trivial⟩
        · refine L.loadPtr shape3 hF rfl rfl rfl rfl rfl rfl ?_
          exact L.nil (A.on (hO _ _ _ n35543) (Le.mk [(0, 0), (1, 1), (2, 2), (3, 3)] hm rfl (S9 rfl rfl rfl rfl rfl rfl rfl rfl rfl rfl rfl rfl rfl rfl rfl rfl rfl rfl) trivial (B4 rfl rfl rfl rfl rfl rfl rfl rfl rfl rfl rfl rfl)))
        · refine L.loadPtr shape3 hF rfl rfl rfl rfl rfl rfl ?_
          exact L.nil (A.on (hO _ _ _ n35549) (Le.mk [(0, 0), (1, 1), (2, 2), (3, 3)] hm rfl (S9 rfl rfl rfl rfl rfl rfl rfl rfl rfl rfl rfl rfl rfl rfl rfl rfl rfl rfl) trivial (B4 rfl rfl rfl rfl rfl rfl rfl rfl rfl rfl rfl rfl)))
        · refine L.loadPtr shape3 hF rfl rfl rfl rfl rfl rfl ?_
          exact L.nil (A.on (hO _ _ _ n35573) (Le.mk [(0, 0), (1, 1), (2, 2), (3, 3)] hm rfl (S9 rfl rfl rfl rfl rfl rfl rfl rfl rfl rfl rfl rfl rfl rfl rfl rfl rfl rfl) trivial (B4 rfl rfl rfl rfl rfl rfl rfl rfl rfl rfl rfl rfl)))
        · refine L.loadPtr shape3 hF rfl rfl rfl rfl rfl rfl ?_
          exact L.nil (A.on (hO _ _ _ n36565) (Le.mk [(0, 0), (1, 1), (2, 2), (3, 3)] hm rfl (S9 rfl rfl rfl rfl rfl rfl rfl rfl rfl rfl rfl rfl rfl rfl rfl rfl rfl rfl) trivial (B4 rfl rfl rfl rfl rfl rfl rfl rfl rfl rfl rfl rfl)))
        · refine L.loadPtr shape3 hF rfl rfl rfl rfl rfl rfl ?_
          exact L.nil (A.on (hO _ _ _ n39637) (Le.mk [(0, 0), (1, 1), (2, 2), (3, 3)] hm rfl (S9 rfl rfl rfl rfl rfl rfl rfl rfl rfl rfl rfl rfl rfl rfl rfl rfl rfl rfl) trivial (B4 rfl rfl rfl rfl rfl rfl rfl rfl rfl rfl rfl rfl)))
      have n6869 : W 9 #[true, false, true, false, true, false, true, true, false, true, false, true, true, false, false, false, false] (mkSt [(3, one (Cell.ptr 0 0)), (4, one (Cell.ptr 1 0)), (16, one (Cell.ptr 2 0)), (18, one (Cell.ptr 2 1)), (20, one (Cell.ptr 2 2)), (23, one (cI v23)), (25, one (Cell.ptr 2 3)), (28, one (cI v24))] [] [(0, (bx v21 v22 v23 v24)), (1, (bx 0 0 0 0)), (2, (bx v17 v18 v19 v20))] 3) := by
        refine hI _ _ _ ?_
        refine A.all [1, 3, 5, 10, 15] (by kernel_rfl) rfl ⟨⟨_, rfl, ?_⟩, ⟨_, rfl, ?_⟩, ⟨_, rfl, ?_⟩, ⟨_, rfl, ?_⟩, ⟨_, rfl, ?_⟩, trivial⟩
        · refine L.loadPtr shape3 hF rfl rfl rfl rfl rfl rfl ?_
          exact L.nil (A.on (hO _ _ _ n6871) (Le.mk [(0, 0), (1, 1), (2, 2)] hm rfl (S8 rfl rfl rfl rfl rfl rfl rfl rfl rfl rfl rfl rfl rfl rfl rfl rfl) trivial (B3 rfl rfl rfl rfl rfl rfl rfl rfl rfl)))
        · refine L.loadPtr shape3 hF rfl rfl rfl rfl rfl rfl ?_
          exact L.nil (A.on (hO _ _ _ n6877) (Le.mk [(0, 0), (1, 1), (2, 2)] hm rfl (S8 rfl rfl rfl rfl rfl rfl rfl rfl rfl rfl rfl rfl rfl rfl rfl rfl) trivial (B3 rfl rfl rfl rfl rfl rfl rfl rfl rfl)))
        · refine L.loadPtr shape3 hF rfl rfl rfl rfl rfl rfl ?_
          exact L.nil (A.on (hO _ _ _ n6901) (Le.mk [(0, 0), (1, 1), (2, 2)] hm rfl (S8 rfl rfl rfl rfl rfl rfl rfl rfl rfl rfl rfl rfl rfl rfl rfl rfl) trivial (B3 rfl rfl rfl rfl rfl rfl rfl rfl rfl)))
        · refine L.loadPtr shape3 hF rfl rfl rfl rfl rfl rfl ?_
          exact L.nil (A.on (hO _ _ _ n7893) (Le.mk [(0, 0), (1, 1), (2, 2)] hm rfl (S8 rfl rfl rfl rfl rfl rfl rfl rfl rfl rfl rfl rfl rfl rfl rfl rfl) trivial (B3 rfl rfl rfl rfl rfl rfl rfl rfl rfl)))
        · refine L.alloc 3 info25 rfl hF rfl rfl rfl rfl ?_
          exact L.nil (A.on (hO _ _ _ n39637) (Le.mk [(0, 0), (1, 1), (2, 3), (3, 2)] hm rfl (S9 rfl rfl rfl rfl rfl rfl rfl rfl rfl rfl rfl rfl rfl rfl rfl rfl rfl rfl) trivial (B4 rfl rfl rfl rfl rfl rfl rfl rfl rfl rfl rfl rfl)))
      have n6773 : W 9 #[true, false, true, false, true, true, true, false, false, true, false, true, true, false, false, false, false] (mkSt [(3, one (Cell.ptr 0 0)), (4, one (Cell.ptr 1 0)), (16, one (Cell.ptr 2 0)), (18, one (Cell.ptr 2 1)), (21, one (cI v19)), (22, one (Cell.ptr 0 2)), (25, one (Cell.ptr 2 3)), (28, one (cI v24))] [] [(0, (bx v21 v22 v23 v24)), (1, (bx 0 0 0 0)), (2, (bx v17 v18 v19 v20))] 3) := by
        refine hI _ _ _ ?_
        refine A.all [1, 3, 7, 10, 15] (by kernel_rfl) rfl ⟨⟨_, rfl, ?_⟩, ⟨_, rfl, ?_⟩, ⟨_, rfl, ?_⟩, ⟨_, rfl, ?_⟩, ⟨_, rfl, ?_⟩, trivial⟩
        · refine L.loadPtr shape3 hF rfl rfl rfl rfl rfl rfl ?_
          exact L.nil (A.on (hO _ _ _ n6775) (Le.mk [(0, 0), (1, 1), (2, 2)] hm rfl (S8 rfl rfl rfl rfl rfl rfl rfl rfl rfl rfl rfl rfl rfl rfl rfl rfl) trivial (B3 rfl rfl rfl rfl rfl rfl rfl rfl rfl)))
        · refine L.loadPtr shape3 hF rfl rfl rfl rfl rfl rfl ?_
          exact L.nil (A.on (hO _ _ _ n6781) (Le.mk [(0, 0), (1, 1), (2, 2)] hm rfl (S8 rfl rfl rfl rfl rfl rfl rfl rfl rfl rfl rfl rfl rfl rfl rfl rfl) trivial (B3 rfl rfl rfl rfl rfl rfl rfl rfl rfl)))
        · refine L.loadPtr shape3 hF rfl rfl rfl rfl rfl rfl ?_
          exact L.nil (A.on (hO _ _ _ n6901) (Le.mk [(0, 0), (1, 1), (2, 2)] hm rfl (S8 rfl rfl rfl rfl rfl rfl rfl rfl rfl rfl rfl rfl rfl rfl rfl rfl) trivial (B3 rfl rfl rfl rfl rfl rfl rfl rfl rfl)))
        · refine L.loadPtr shape3 hF rfl rfl rfl rfl rfl rfl ?_
          exact L.nil (A.on (hO _ _ _ n7797) (Le.mk [(0, 0), (1, 1), (2, 2)] hm rfl (S8 rfl rfl rfl rfl rfl rfl rfl rfl rfl rfl rfl rfl rfl rfl rfl rfl) trivial (B3 rfl rfl rfl rfl rfl rfl rfl rfl rfl)))
        · refine L.alloc 3 info25 rfl hF rfl rfl rfl rfl ?_
          exact L.nil (A.on (hO _ _ _ n39541) (Le.mk [(0, 0), (1, 1), (2, 3), (3, 2)] hm rfl (S9 rfl rfl rfl rfl rfl rfl rfl rfl rfl rfl rfl rfl rfl rfl rfl rfl rfl rfl) trivial (B4 rfl rfl rfl rfl rfl rfl rfl rfl rfl rfl rfl rfl)))
      have n2805 : W 9 #[true, false, true, false, true, true, true, true, false, true, false, true, false, false, false, false, false] (mkSt [(3, one (Cell.ptr 0 0)), (4, one (Cell.ptr 1 0)), (16, one (Cell.ptr 2 0)), (18, one (Cell.ptr 2 1)), (21, one (cI v19)), (23, one (cI v23)), (25, one (Cell.ptr 2 3)), (27, one (Cell.ptr 0 3))] [] [(0, (bx v21 v22 v23 v24)), (1, (bx 0 0 0 0)), (2, (bx v17 v18 v19 v20))] 3) := by
        refine hI _ _ _ ?_
        refine A.all [1, 3, 8, 10, 12, 15] (by kernel_rfl) rfl ⟨⟨_, rfl, ?_⟩, ⟨_, rfl, ?_⟩, ⟨_, rfl, ?_⟩, ⟨_, rfl, ?_⟩, ⟨_, rfl, ?_⟩, ⟨_, rfl, ?_⟩, trivial⟩
        · refine L.loadPtr shape3 hF rfl rfl rfl rfl rfl rfl ?_
          exact L.nil (A.on (hO _ _ _ n2807) (Le.mk [(0, 0), (1, 1), (2, 2)] hm rfl (S8 rfl rfl rfl rfl rfl rfl rfl rfl rfl rfl rfl rfl rfl rfl rfl rfl) trivial (B3 rfl rfl rfl rfl rfl rfl rfl rfl rfl)))
        · refine L.loadPtr shape3 hF rfl rfl rfl rfl rfl rfl ?_
          exact L.nil (A.on (hO _ _ _ n2813) (Le.mk [(0, 0), (1, 1), (2, 2)] hm rfl (S8 rfl rfl rfl rfl rfl rfl rfl rfl rfl rfl rfl rfl rfl rfl rfl rfl) trivial (B3 rfl rfl rfl rfl rfl rfl rfl rfl rfl)))
        · refine L.call [false, false] [] [] 3 hF rfl rfl rfl ent94 rfl rfl rfl rfl rfl (Fspec_l16Least_gives kj2  v19 v23 r25 hr25) rfl ?_
          exact L.nil (A.on (hO _ _ _ n3061) (Le.mk [(0, 0), (1, 1), (2, 2)] hm rfl (S7 rfl rfl rfl rfl rfl rfl rfl rfl rfl rfl rfl rfl rfl rfl) trivial (B3 rfl rfl rfl rfl rfl rfl rfl rfl rfl)))
        · refine L.loadPtr shape3 hF rfl rfl rfl rfl rfl rfl ?_
          exact L.nil (A.on (hO _ _ _ n3829) (Le.mk [(0, 0), (1, 1), (2, 2)] hm rfl (S8 rfl rfl rfl rfl rfl rfl rfl rfl rfl rfl rfl rfl rfl rfl rfl rfl) trivial (B3 rfl rfl rfl rfl rfl rfl rfl rfl rfl)))
        · refine L.loadPtr shape3 hF rfl rfl rfl rfl rfl rfl ?_
          exact L.nil (A.on (hO _ _ _ n6901) (Le.mk [(0, 0), (1, 1), (2, 2)] hm rfl (S8 rfl rfl rfl rfl rfl rfl rfl rfl rfl rfl rfl rfl rfl rfl rfl rfl) trivial (B3 rfl rfl rfl rfl rfl rfl rfl rfl rfl)))
        · refine L.alloc 3 info25 rfl hF rfl rfl rfl rfl ?_
          exact L.nil (A.on (hO _ _ _ n35573) (Le.mk [(0, 0), (1, 1), (2, 3), (3, 2)] hm rfl (S9 rfl rfl rfl rfl rfl rfl rfl rfl rfl rfl rfl rfl rfl rfl rfl rfl rfl rfl) trivial (B4 rfl rfl rfl rfl rfl rfl rfl rfl rfl rfl rfl rfl)))
      have n3669 : W 10 #[true, false, true, false, true, false, true, false, false, true, true, true, false, false, false, false, false] (mkSt [(3, one (Cell.ptr 0 0)), (4, one (Cell.ptr 1 0)), (16, one (Cell.ptr 2 0)), (18, one (Cell.ptr 2 1)), (20, one (Cell.ptr 2 2)), (22, one (Cell.ptr 0 2)), (26, one (cI v20)), (27, one (Cell.ptr 0 3))] [] [(0, (bx v21 v22 v23 v24)), (1, (bx 0 0 0 0)), (2, (bx v17 v18 v19 v20))] 3) := by
        refine hI _ _ _ ?_
        refine A.all [1, 3, 5, 7, 12, 15] (by kernel_rfl) rfl ⟨⟨_, rfl, ?_⟩, ⟨_, rfl, ?_⟩, ⟨_, rfl, ?_⟩, ⟨_, rfl, ?_⟩, ⟨_, rfl, ?_⟩, ⟨_, rfl, ?_⟩, trivial⟩
        · refine L.loadPtr shape3 hF rfl rfl rfl rfl rfl rfl ?_
          exact L.nil (A.on (hO _ _ _ n3671) (Le.mk [(0, 0), (1, 1), (2, 2)] hm rfl (S8 rfl rfl rfl rfl rfl rfl rfl rfl rfl rfl rfl rfl rfl rfl rfl rfl) trivial (B3 rfl rfl rfl rfl rfl rfl rfl rfl rfl)))
        · refine L.loadPtr shape3 hF rfl rfl rfl rfl rfl rfl ?_
          exact L.nil (A.on (hO _ _ _ n3677) (Le.mk [(0, 0), (1, 1), (2, 2)] hm rfl (S8 rfl rfl rfl rfl rfl rfl rfl rfl rfl rfl rfl rfl rfl rfl rfl rfl) trivial (B3 rfl rfl rfl rfl rfl rfl rfl rfl rfl)))
        · refine L.loadPtr shape3 hF rfl rfl rfl rfl rfl rfl ?_
          exact L.nil (A.on (hO _ _ _ n3701) (Le.mk [(0, 0), (1, 1), (2, 2)] hm rfl (S8 rfl rfl rfl rfl rfl rfl rfl rfl rfl rfl rfl rfl rfl rfl rfl rfl) trivial (B3 rfl rfl rfl rfl rfl rfl rfl rfl rfl)))
        · refine L.loadPtr shape3 hF rfl rfl rfl rfl rfl rfl ?_
          exact L.nil (A.on (hO _ _ _ n3797) (Le.mk [(0, 0), (1, 1), (2, 2)] hm rfl (S8 rfl rfl rfl rfl rfl rfl rfl rfl rfl rfl rfl rfl rfl rfl rfl rfl) trivial (B3 rfl rfl rfl rfl rfl rfl rfl rfl rfl)))
        · refine L.loadPtr shape3 hF rfl rfl rfl rfl rfl rfl ?_
          exact L.nil (A.on (hO _ _ _ n7765) (Le.mk [(0, 0), (1, 1), (2, 2)] hm rfl (S8 rfl rfl rfl rfl rfl rfl rfl rfl rfl rfl rfl rfl rfl rfl rfl rfl) trivial (B3 rfl rfl rfl rfl rfl rfl rfl rfl rfl)))
        · refine L.alloc 3 info25 rfl hF rfl rfl rfl rfl ?_
          exact L.nil (A.on (hO _ _ _ n36437) (Le.mk [(0, 0), (1, 1), (2, 3), (3, 2)] hm rfl (S9 rfl rfl rfl rfl rfl rfl rfl rfl rfl rfl rfl rfl rfl rfl rfl rfl rfl rfl) trivial (B4 rfl rfl rfl rfl rfl rfl rfl rfl rfl rfl rfl rfl)))
      have n35413 : W 10 #[true, false, true, false, true, false, true, false, false, true, false, true, false, false, false, true, false] (mkSt [(3, one (Cell.ptr 0 0)), (4, one (Cell.ptr 1 0)), (6, one (Cell.ptr 2 0)), (16, one (Cell.ptr 3 0)), (18, one (Cell.ptr 3 1)), (20, one (Cell.ptr 3 2)), (22, one (Cell.ptr 0 2)), (25, one (Cell.ptr 3 3)), (27, one (Cell.ptr 0 3))] [] [(0, (bx v21 v22 v23 v24)), (1, (bx 0 0 0 0)), (2, (bx 0 0 0 0)), (3, (bx v17 v18 v19 v20))] 4) := by
        refine hI _ _ _ ?_
        refine A.all [1, 3, 5, 7, 10, 12] (by kernel_rfl) rfl ⟨⟨_, rfl, ?_⟩, ⟨_, rfl, ?_⟩, ⟨_, rfl, ?_⟩, ⟨_, rfl, ?_⟩, ⟨_, rfl, ?_⟩, ⟨_, rfl, ?_⟩, trivial⟩
        · refine L.loadPtr shape3 hF rfl rfl rfl rfl rfl rfl ?_
          exact L.nil (A.on (hO _ _ _ n35415) (Le.mk [(0, 0), (1, 1), (2, 2), (3, 3)] hm rfl (S9 rfl rfl rfl rfl rfl rfl rfl rfl rfl rfl rfl rfl rfl rfl rfl rfl rfl rfl) trivial (B4 rfl rfl rfl rfl rfl rfl rfl rfl rfl rfl rfl rfl)))
        · refine L.loadPtr shape3 hF rfl rfl rfl rfl rfl rfl ?_
          exact L.nil (A.on (hO _ _ _ n35421) (Le.mk [(0, 0), (1, 1), (2, 2), (3, 3)] hm rfl (S9 rfl rfl rfl rfl rfl rfl rfl rfl rfl rfl rfl rfl rfl rfl rfl rfl rfl rfl) trivial (B4 rfl rfl rfl rfl rfl rfl rfl rfl rfl rfl rfl rfl)))
        · refine L.loadPtr shape3 hF rfl rfl rfl rfl rfl rfl ?_
          exact L.nil (A.on (hO _ _ _ n35445) (Le.mk [(0, 0), (1, 1), (2, 2), (3, 3)] hm rfl (S9 rfl rfl rfl rfl rfl rfl rfl rfl rfl rfl rfl rfl rfl rfl rfl rfl rfl rfl) trivial (B4 rfl rfl rfl rfl rfl rfl rfl rfl rfl rfl rfl rfl)))
        · refine L.loadPtr shape3 hF rfl rfl rfl rfl rfl rfl ?_
          exact L.nil (A.on (hO _ _ _ n35541) (Le.mk [(0, 0), (1, 1), (2, 2), (3, 3)] hm rfl (S9 rfl rfl rfl rfl rfl rfl rfl rfl rfl rfl rfl rfl rfl rfl rfl rfl rfl rfl) trivial (B4 rfl rfl rfl rfl rfl rfl rfl rfl rfl rfl rfl rfl)))
        · refine L.loadPtr shape3 hF rfl rfl rfl rfl rfl rfl ?_
          exact L.nil (A.on (hO _ _ _ n36437) (Le.mk [(0, 0), (1, 1), (2, 2), (3, 3)] hm rfl (S9 rfl rfl rfl rfl rfl rfl rfl rfl rfl rfl rfl rfl rfl rfl rfl rfl rfl rfl) trivial (B4 rfl rfl rfl rfl rfl rfl rfl rfl rfl rfl rfl rfl)))
        · refine L.loadPtr shape3 hF rfl rfl rfl rfl rfl rfl ?_
          exact L.nil (A.on (hO _ _ _ n39509) (Le.mk [(0, 0), (1, 1), (2, 2), (3, 3)] hm rfl (S9 rfl rfl rfl rfl rfl rfl rfl rfl rfl rfl rfl rfl rfl rfl rfl rfl rfl rfl) trivial (B4 rfl rfl rfl rfl rfl rfl rfl rfl rfl rfl rfl rfl)))
      have n2647 : W 10 #[true, true, true, false, true, false, true, false, false, true, false, true, false, false, false, false, false] (mkSt [(3, one (Cell.ptr 0 0)), (4, one (Cell.ptr 1 0)), (17, one (cI v17)), (18, one (Cell.ptr 2 1)), (20, one (Cell.ptr 2 2)), (22, one (Cell.ptr 0 2)), (25, one (Cell.ptr 2 3)), (27, one (Cell.ptr 0 3))] [] [(0, (bx v21 v22 v23 v24)), (1, (bx 0 0 0 0)), (2, (bx v17 v18 v19 v20))] 3) := by
        refine hI _ _ _ ?_
        refine A.all [3, 5, 7, 10, 12, 15] (by kernel_rfl) rfl ⟨⟨_, rfl, ?_⟩, ⟨_, rfl, ?_⟩, ⟨_, rfl, ?_⟩, ⟨_, rfl, ?_⟩, ⟨_, rfl, ?_⟩, ⟨_, rfl, ?_⟩, trivial⟩
        · refine L.loadPtr shape3 hF rfl rfl rfl rfl rfl rfl ?_
          exact L.nil (A.on (hO _ _ _ n2655) (Le.mk [(0, 0), (1, 1), (2, 2)] hm rfl (S8 rfl rfl rfl rfl rfl rfl rfl rfl rfl rfl rfl rfl rfl rfl rfl rfl) trivial (B3 rfl rfl rfl rfl rfl rfl rfl rfl rfl)))
        · refine L.loadPtr shape3 hF rfl rfl rfl rfl rfl rfl ?_
          exact L.nil (A.on (hO _ _ _ n2679) (Le.mk [(0, 0), (1, 1), (2, 2)] hm rfl (S8 rfl rfl rfl rfl rfl rfl rfl rfl rfl rfl rfl rfl rfl rfl rfl rfl) trivial (B3 rfl rfl rfl rfl rfl rfl rfl rfl rfl)))
        · refine L.loadPtr shape3 hF rfl rfl rfl rfl rfl rfl ?_
          exact L.nil (A.on (hO _ _ _ n2775) (Le.mk [(0, 0), (1, 1), (2, 2)] hm rfl (S8 rfl rfl rfl rfl rfl rfl rfl rfl rfl rfl rfl rfl rfl rfl rfl rfl) trivial (B3 rfl rfl rfl rfl rfl rfl rfl rfl rfl)))
        · refine L.loadPtr shape3 hF rfl rfl rfl rfl rfl rfl ?_
          exact L.nil (A.on (hO _ _ _ n3671) (Le.mk [(0, 0), (1, 1), (2, 2)] hm rfl (S8 rfl rfl rfl rfl rfl rfl rfl rfl rfl rfl rfl rfl rfl rfl rfl rfl) trivial (B3 rfl rfl rfl rfl rfl rfl rfl rfl rfl)))
        · refine L.loadPtr shape3 hF rfl rfl rfl rfl rfl rfl ?_
          exact L.nil (A.on (hO _ _ _ n6743) (Le.mk [(0, 0), (1, 1), (2, 2)] hm rfl (S8 rfl rfl rfl rfl rfl rfl rfl rfl rfl rfl rfl rfl rfl rfl rfl rfl) trivial (B3 rfl rfl rfl rfl rfl rfl rfl rfl rfl)))
        · refine L.alloc 3 info25 rfl hF rfl rfl rfl rfl ?_
          exact L.nil (A.on (hO _ _ _ n35415) (Le.mk [(0, 0), (1, 1), (2, 3), (3, 2)] hm rfl (S9 rfl rfl rfl rfl rfl rfl rfl rfl rfl rfl rfl rfl rfl rfl rfl rfl rfl rfl) trivial (B4 rfl rfl rfl rfl rfl rfl rfl rfl rfl rfl rfl rfl)))
      have n2653 : W 10 #[true, false, true, true, true, false, true, false, false, true, false, true, false, false, false, false, false] (mkSt [(3, one (Cell.ptr 0 0)), (4, one (Cell.ptr 1 0)), (16, one (Cell.ptr 2 0)), (19, one (cI v18)), (20, one (Cell.ptr 2 2)), (22, one (Cell.ptr 0 2)), (25, one (Cell.ptr 2 3)), (27, one (Cell.ptr 0 3))] [] [(0, (bx v21 v22 v23 v24)), (1, (bx 0 0 0 0)), (2, (bx v17 v18 v19 v20))] 3) := by
        refine hI _ _ _ ?_
        refine A.all [1, 5, 7, 10, 12, 15] (by kernel_rfl) rfl ⟨⟨_, rfl, ?_⟩, ⟨_, rfl, ?_⟩, ⟨_, rfl, ?_⟩, ⟨_, rfl, ?_⟩, ⟨_, rfl, ?_⟩, ⟨_, rfl, ?_⟩, trivial⟩
        · refine L.loadPtr shape3 hF rfl rfl rfl rfl rfl rfl ?_
          exact L.nil (A.on (hO _ _ _ n2655) (Le.mk [(0, 0), (1, 1), (2, 2)] hm rfl (S8 rfl rfl rfl rfl rfl rfl rfl rfl rfl rfl rfl rfl rfl rfl rfl rfl) trivial (B3 rfl rfl rfl rfl rfl rfl rfl rfl rfl)))
        · refine L.loadPtr shape3 hF rfl rfl rfl rfl rfl rfl ?_
          exact L.nil (A.on (hO _ _ _ n2685) (Le.mk [(0, 0), (1, 1), (2, 2)] hm rfl (S8 rfl rfl rfl rfl rfl rfl rfl rfl rfl rfl rfl rfl rfl rfl rfl rfl) trivial (B3 rfl rfl rfl rfl rfl rfl rfl rfl rfl)))
        · refine L.loadPtr shape3 hF rfl rfl rfl rfl rfl rfl ?_
          exact L.nil (A.on (hO _ _ _ n2781) (Le.mk [(0, 0), (1, 1), (2, 2)] hm rfl (S8 rfl rfl rfl rfl rfl rfl rfl rfl rfl rfl rfl rfl rfl rfl rfl rfl) trivial (B3 rfl rfl rfl rfl rfl rfl rfl rfl rfl)))
        · refine L.loadPtr shape3 hF rfl rfl rfl rfl rfl rfl ?_
          exact L.nil (A.on (hO _ _ _ n3677) (Le.mk [(0, 0), (1, 1), (2, 2)] hm rfl (S8 rfl rfl rfl rfl rfl rfl rfl rfl rfl rfl rfl rfl rfl rfl rfl rfl) trivial (B3 rfl rfl rfl rfl rfl rfl rfl rfl rfl)))
        · refine L.loadPtr shape3 hF rfl rfl rfl rfl rfl rfl ?_
          exact L.nil (A.on (hO _ _ _ n6749) (Le.mk [(0, 0), (1, 1), (2, 2)] hm rfl (S8 rfl rfl rfl rfl rfl rfl rfl rfl rfl rfl rfl rfl rfl rfl rfl rfl) trivial (B3 rfl rfl rfl rfl rfl rfl rfl rfl rfl)))
        · refine L.alloc 3 info25 rfl hF rfl rfl rfl rfl ?_
          exact L.nil (A.on (hO _ _ _ n35421) (Le.mk [(0, 0), (1, 1), (2, 3), (3, 2)] hm rfl (S9 rfl rfl rfl rfl rfl rfl rfl rfl rfl rfl rfl rfl rfl rfl rfl rfl rfl rfl) trivial (B4 rfl rfl rfl rfl rfl rfl rfl rfl rfl rfl rfl rfl)))
      have n2677 : W 10 #[true, false, true, false, true, true, true, false, false, true, false, true, false, false, false, false, false] (mkSt [(3, one (Cell.ptr 0 0)), (4, one (Cell.ptr 1 0)), (16, one (Cell.ptr 2 0)), (18, one (Cell.ptr 2 1)), (21, one (cI v19)), (22, one (Cell.ptr 0 2)), (25, one (Cell.ptr 2 3)), (27, one (Cell.ptr 0 3))] [] [(0, (bx v21 v22 v23 v24)), (1, (bx 0 0 0 0)), (2, (bx v17 v18 v19 v20))] 3) := by
        refine hI _ _ _ ?_
        refine A.all [1, 3, 7, 10, 12, 15] (by kernel_rfl) rfl ⟨⟨_, rfl, ?_⟩, ⟨_, rfl, ?_⟩, ⟨_, rfl, ?_⟩, ⟨_, rfl, ?_⟩, ⟨_, rfl, ?_⟩, ⟨_, rfl, ?_⟩, trivial⟩
        · refine L.loadPtr shape3 hF rfl rfl rfl rfl rfl rfl ?_
          exact L.nil (A.on (hO _ _ _ n2679) (Le.mk [(0, 0), (1, 1), (2, 2)] hm rfl (S8 rfl rfl rfl rfl rfl rfl rfl rfl rfl rfl rfl rfl rfl rfl rfl rfl) trivial (B3 rfl rfl rfl rfl rfl rfl rfl rfl rfl)))
        · refine L.loadPtr shape3 hF rfl rfl rfl rfl rfl rfl ?_
          exact L.nil (A.on (hO _ _ _ n2685) (Le.mk [(0, 0), (1, 1), (2, 2)] hm rfl (S8 rfl rfl rfl rfl rfl rfl rfl rfl rfl rfl rfl rfl rfl rfl rfl rfl) trivial (B3 rfl rfl rfl rfl rfl rfl rfl rfl rfl)))
        · refine L.loadPtr shape3 hF rfl rfl rfl rfl rfl rfl ?_
          exact L.nil (A.on (hO _ _ _ n2805) (Le.mk [(0, 0), (1, 1), (2, 2)] hm rfl (S8 rfl rfl rfl rfl rfl rfl rfl rfl rfl rfl rfl rfl rfl rfl rfl rfl) trivial (B3 rfl rfl rfl rfl rfl rfl rfl rfl rfl)))
        · refine L.loadPtr shape3 hF rfl rfl rfl rfl rfl rfl ?_
          exact L.nil (A.on (hO _ _ _ n3701) (Le.mk [(0, 0), (1, 1), (2, 2)] hm rfl (S8 rfl rfl rfl rfl rfl rfl rfl rfl rfl rfl rfl rfl rfl rfl rfl rfl) trivial (B3 rfl rfl rfl rfl rfl rfl rfl rfl rfl)))
        · refine L.loadPtr shape3 hF rfl rfl rfl rfl rfl rfl ?_
          exact L.nil (A.on (hO _ _ _ n6773) (Le.mk [(0, 0), (1, 1), (2, 2)] hm rfl (S8 rfl rfl rfl rfl rfl rfl rfl rfl rfl rfl rfl rfl rfl rfl rfl rfl) trivial (B3 rfl rfl rfl rfl rfl rfl rfl rfl rfl)))
        · refine L.alloc 3 info25 rfl hF rfl rfl rfl rfl ?_
          exact L.nil (A.on (hO _ _ _ n35445) (Le.mk [(0, 0), (1, 1), (2, 3), (3, 2)] hm rfl (S9 rfl rfl rfl rfl rfl rfl rfl rfl rfl rfl rfl rfl rfl rfl rfl rfl rfl rfl) trivial (B4 rfl rfl rfl rfl rfl rfl rfl rfl rfl rfl rfl rfl)))
      have n6741 : W 10 #[true, false, true, false, true, false, true, false, false, true, false, true, true, false, false, false, false] (mkSt [(3, one (Cell.ptr 0 0)), (4, one (Cell.ptr 1 0)), (16, one (Cell.ptr 2 0)), (18, one (Cell.ptr 2 1)), (20, one (Cell.ptr 2 2)), (22, one (Cell.ptr 0 2)), (25, one (Cell.ptr 2 3)), (28, one (cI v24))] [] [(0, (bx v21 v22 v23 v24)), (1, (bx 0 0 0 0)), (2, (bx v17 v18 v19 v20))] 3) := by
        refine hI _ _ _ ?_
        refine A.all [1, 3, 5, 7, 10, 15] (by kernel_rfl) rfl ⟨⟨_, rfl, ?_⟩, ⟨_, rfl, ?_⟩, ⟨_, rfl, ?_⟩, ⟨_, rfl, ?_⟩, ⟨_, rfl, ?_⟩, ⟨_, rfl, ?_⟩, trivial⟩
        · refine L.loadPtr shape3 hF rfl rfl rfl rfl rfl rfl ?_
          exact L.nil (A.on (hO _ _ _ n6743) (Le.mk [(0, 0), (1, 1), (2, 2)] hm rfl (S8 rfl rfl rfl rfl rfl rfl rfl rfl rfl rfl rfl rfl rfl rfl rfl rfl) trivial (B3 rfl rfl rfl rfl rfl rfl rfl rfl rfl)))
        · refine L.loadPtr shape3 hF rfl rfl rfl rfl rfl rfl ?_
          exact L.nil (A.on (hO _ _ _ n6749) (Le.mk [(0, 0), (1, 1), (2, 2)] hm rfl (S8 rfl rfl rfl rfl rfl rfl rfl rfl rfl rfl rfl rfl rfl rfl rfl rfl) trivial (B3 rfl rfl rfl rfl rfl rfl rfl rfl rfl)))
        · refine L.loadPtr shape3 hF rfl rfl rfl rfl rfl rfl ?_
          exact L.nil (A.on (hO _ _ _ n6773) (Le.mk [(0, 0), (1, 1), (2, 2)] hm rfl (S8 rfl rfl rfl rfl rfl rfl rfl rfl rfl rfl rfl rfl rfl rfl rfl rfl) trivial (B3 rfl rfl rfl rfl rfl rfl rfl rfl rfl)))
        · refine L.loadPtr shape3 hF rfl rfl rfl rfl rfl rfl ?_
          exact L.nil (A.on (hO _ _ _ n6869) (Le.mk [(0, 0), (1, 1), (2, 2)] hm rfl (S8 rfl rfl rfl rfl rfl rfl rfl rfl rfl rfl rfl rfl rfl rfl rfl rfl) trivial (B3 rfl rfl rfl rfl rfl rfl rfl rfl rfl)))
        · refine L.loadPtr shape3 hF rfl rfl rfl rfl rfl rfl ?_
          exact L.nil (A.on (hO _ _ _ n7765) (Le.mk [(0, 0), (1, 1), (2, 2)] hm rfl (S8 rfl rfl rfl rfl rfl rfl rfl rfl rfl rfl rfl rfl rfl rfl rfl rfl) trivial (B3 rfl rfl rfl rfl rfl rfl rfl rfl rfl)))
        · refine L.alloc 3 info25 rfl hF rfl rfl rfl rfl ?_
          exact L.nil (A.on (hO _ _ _ n39509) (Le.mk [(0, 0), (1, 1), (2, 3), (3, 2)] hm rfl (S9 rfl rfl rfl rfl rfl rfl rfl rfl rfl rfl rfl rfl rfl rfl rfl rfl rfl rfl) trivial (B4 rfl rfl rfl rfl rfl rfl rfl rfl rfl rfl rfl rfl)))
      have n2773 : W 10 #[true, false, true, false, true, false, true, true, false, true, false, true, false, false, false, false, false] (mkSt [(3, one (Cell.ptr 0 0)), (4, one (Cell.ptr 1 0)), (16, one (Cell.ptr 2 0)), (18, one (Cell.ptr 2 1)), (20, one (Cell.ptr 2 2)), (23, one (cI v23)), (25, one (Cell.ptr 2 3)), (27, one (Cell.ptr 0 3))] [] [(0, (bx v21 v22 v23 v24)), (1, (bx 0 0 0 0)), (2, (bx v17 v18 v19 v20))] 3) := by
        refine hI _ _ _ ?_
        refine A.all [1, 3, 5, 10, 12, 15] (by kernel_rfl) rfl ⟨⟨_, rfl, ?_⟩, ⟨_, rfl, ?_⟩, ⟨_, rfl, ?_⟩, ⟨_, rfl, ?_⟩, ⟨_, rfl, ?_⟩, ⟨_, rfl, ?_⟩, trivial⟩
        · refine L.loadPtr shape3 hF rfl rfl rfl rfl rfl rfl ?_
          exact L.nil (A.on (hO _ _ _ n2775) (Le.mk [(0, 0), (1, 1), (2, 2)] hm rfl (S8 rfl rfl rfl rfl rfl rfl rfl rfl rfl rfl rfl rfl rfl rfl rfl rfl) trivial (B3 rfl rfl rfl rfl rfl rfl rfl rfl rfl)))
        · refine L.loadPtr shape3 hF rfl rfl rfl rfl rfl rfl ?_
          exact L.nil (A.on (hO _ _ _ n2781) (Le.mk [(0, 0), (1, 1), (2, 2)] hm rfl (S8 rfl rfl rfl rfl rfl rfl rfl rfl rfl rfl rfl rfl rfl rfl rfl rfl) trivial (B3 rfl rfl rfl rfl rfl rfl rfl rfl rfl)))
        · refine L.loadPtr shape3 hF rfl rfl rfl rfl rfl rfl ?_
          exact L.nil (A.on (hO _ _ _ n2805) (Le.mk [(0, 0), (1, 1), (2, 2)] hm rfl (S8 rfl rfl rfl rfl rfl rfl rfl rfl rfl rfl rfl rfl rfl rfl rfl rfl) trivial (B3 rfl rfl rfl rfl rfl rfl rfl rfl rfl)))
        · refine L.loadPtr shape3 hF rfl rfl rfl rfl rfl rfl ?_
          exact L.nil (A.on (hO _ _ _ n3797) (Le.mk [(0, 0), (1, 1), (2, 2)] hm rfl (S8 rfl rfl rfl rfl rfl rfl rfl rfl rfl rfl rfl rfl rfl rfl rfl rfl) trivial (B3 rfl rfl rfl rfl rfl rfl rfl rfl rfl)))
        · refine L.loadPtr shape3 hF rfl rfl rfl rfl rfl rfl ?_
          exact L.nil (A.on (hO _ _ _ n6869) (Le.mk [(0, 0), (1, 1), (2, 2)] hm rfl (S8 rfl rfl rfl rfl rfl rfl rfl rfl rfl rfl rfl rfl rfl rfl rfl rfl) trivial (B3 rfl rfl rfl rfl rfl rfl rfl rfl rfl)))
        · refine L.alloc 3 info25 rfl hF rfl rfl rfl rfl ?_
          exact L.nil (A.on (hO _ _ _ n35541) (Le.mk [(0, 0), (1, 1), (2, 3), (3, 2)] hm rfl (S9 rfl rfl rfl rfl rfl rfl rfl rfl rfl rfl rfl rfl rfl rfl rfl rfl rfl rfl) trivial (B4 rfl rfl rfl rfl rfl rfl rfl rfl rfl rfl rfl rfl)))
      have n2645 : W 11 #[true, false, true, false, true, false, true, false, false, true, false, true, false, false, false, false, false] (mkSt [(3, one (Cell.ptr 0 0)), (4, one (Cell.ptr 1 0)), (16, one (Cell.ptr 2 0)), (18, one (Cell.ptr 2 1)), (20, one (Cell.ptr 2 2)), (22, one (Cell.ptr 0 2)), (25, one (Cell.ptr 2 3)), (27, one (Cell.ptr 0 3))] [] [(0, (bx v21 v22 v23 v24)), (1, (bx 0 0 0 0)), (2, (bx v17 v18 v19 v20))] 3) := by
        refine hI _ _ _ ?_
        refine A.all [1, 3, 5, 7, 10, 12, 15] (by kernel_rfl) rfl ⟨⟨_, rfl, ?_⟩, ⟨_, rfl, ?_⟩, ⟨_, rfl, ?_⟩, ⟨_, rfl, ?_⟩, ⟨_, rfl, ?_⟩, ⟨_, rfl, ?_⟩, ⟨_, rfl, ?_⟩, trivial⟩
        · refine L.loadPtr shape3 hF rfl rfl rfl rfl rfl rfl ?_
          exact L.nil (A.on (hO _ _ _ n2647) (Le.mk [(0, 0), (1, 1), (2, 2)] hm rfl (S8 rfl rfl rfl rfl rfl rfl rfl rfl rfl rfl rfl rfl rfl rfl rfl rfl) trivial (B3 rfl rfl rfl rfl rfl rfl rfl rfl rfl)))
        · refine L.loadPtr shape3 hF rfl rfl rfl rfl rfl rfl ?_
          exact L.nil (A.on (hO _ _ _ n2653) (Le.mk [(0, 0), (1, 1), (2, 2)] hm rfl (S8 rfl rfl rfl rfl rfl rfl rfl rfl rfl rfl rfl rfl rfl rfl rfl rfl) trivial (B3 rfl rfl rfl rfl rfl rfl rfl rfl rfl)))
        · refine L.loadPtr shape3 hF rfl rfl rfl rfl rfl rfl ?_
          exact L.nil (A.on (hO _ _ _ n2677) (Le.mk [(0, 0), (1, 1), (2, 2)] hm rfl (S8 rfl rfl rfl rfl rfl rfl rfl rfl rfl rfl rfl rfl rfl rfl rfl rfl) trivial (B3 rfl rfl rfl rfl rfl rfl rfl rfl rfl)))
        · refine L.loadPtr shape3 hF rfl rfl rfl rfl rfl rfl ?_
          exact L.nil (A.on (hO _ _ _ n2773) (Le.mk [(0, 0), (1, 1), (2, 2)] hm rfl (S8 rfl rfl rfl rfl rfl rfl rfl rfl rfl rfl rfl rfl rfl rfl rfl rfl) trivial (B3 rfl rfl rfl rfl rfl rfl rfl rfl rfl)))
        · refine L.loadPtr shape3 hF rfl rfl rfl rfl rfl rfl ?_
          exact L.nil (A.on (hO _ _ _ n3669) (Le.mk [(0, 0), (1, 1), (2, 2)] hm rfl (S8 rfl rfl rfl rfl rfl rfl rfl rfl rfl rfl rfl rfl rfl rfl rfl rfl) trivial (B3 rfl rfl rfl rfl rfl rfl rfl rfl rfl)))
        · refine L.loadPtr shape3 hF rfl rfl rfl rfl rfl rfl ?_
          exact L.nil (A.on (hO _ _ _ n6741) (Le.mk [(0, 0), (1, 1), (2, 2)] hm rfl (S8 rfl rfl rfl rfl rfl rfl rfl rfl rfl rfl rfl rfl rfl rfl rfl rfl) trivial (B3 rfl rfl rfl rfl rfl rfl rfl rfl rfl)))
        · refine L.alloc 3 info25 rfl hF rfl rfl rfl rfl ?_
          exact L.nil (A.on (hO _ _ _ n35413) (Le.mk [(0, 0), (1, 1), (2, 3), (3, 2)] hm rfl (S9 rfl rfl rfl rfl rfl rfl rfl rfl rfl rfl rfl rfl rfl rfl rfl rfl rfl rfl) trivial (B4 rfl rfl rfl rfl rfl rfl rfl rfl rfl rfl rfl rfl)))
      have n597 : W 12 #[true, false, true, false, true, false, true, false, false, true, false, false, false, false, false, false, false] (mkSt [(3, one (Cell.ptr 0 0)), (4, one (Cell.ptr 1 0)), (16, one (Cell.ptr 2 0)), (18, one (Cell.ptr 2 1)), (20, one (Cell.ptr 2 2)), (22, one (Cell.ptr 0 2)), (25, one (Cell.ptr 2 3))] [] [(0, (bx v21 v22 v23 v24)), (1, (bx 0 0 0 0)), (2, (bx v17 v18 v19 v20))] 3) := by
        refine hI _ _ _ ?_
        refine A.take 11 rfl (by kernel_rfl) (by kernel_rfl) (by kernel_rfl) rfl (Ca.fieldAddr Try.underlying25 rfl info3 rfl) (fun Q0 k0 => L.fieldAddr Try.underlying25 rfl info3 rfl hF rfl rfl rfl rfl rfl (L.nil k0)) ?_
        exact A.on (hO _ _ _ n2645) (Le.mk [(0, 0), (1, 1), (2, 2)] hm rfl (S8 rfl rfl rfl rfl rfl rfl rfl rfl rfl rfl rfl rfl rfl rfl rfl rfl) trivial (B3 rfl rfl rfl rfl rfl rfl rfl rfl rfl))
      have n85 : W 13 #[true, false, true, false, true, false, true, false, false, false, false, false, false, false, false, false, false] (mkSt [(2, one (Cell.ptr 0 0)), (3, one (Cell.ptr 1 0)), (4, one (Cell.ptr 2 0)), (16, one (Cell.ptr 0 0)), (18, one (Cell.ptr 0 1)), (20, one (Cell.ptr 0 2)), (22, one (Cell.ptr 1 2))] [] [(0, (bx v17 v18 v19 v20)), (1, (bx v21 v22 v23 v24)), (2, (bx 0 0 0 0))] 3) := by
        refine hI _ _ _ ?_
        refine A.take 9 rfl (by kernel_rfl) (by kernel_rfl) (by kernel_rfl) rfl (Ca.fieldAddr Try.underlying25 rfl info3 rfl) (fun Q0 k0 => L.fieldAddr Try.underlying25 rfl info3 rfl hF rfl rfl rfl rfl rfl (L.nil k0)) ?_
        exact A.on (hO _ _ _ n597) (Le.mk [(0, 1), (1, 2), (2, 0)] hm rfl (S7 rfl rfl rfl rfl rfl rfl rfl rfl rfl rfl rfl rfl rfl rfl) trivial (B3 rfl rfl rfl rfl rfl rfl rfl rfl rfl))
      have n21 : W 14 #[true, false, true, false, true, false, false, false, false, false, false, false, false, false, false, false, false] (mkSt [(2, one (Cell.ptr 0 0)), (3, one (Cell.ptr 1 0)), (4, one (Cell.ptr 2 0)), (16, one (Cell.ptr 0 0)), (18, one (Cell.ptr 0 1)), (20, one (Cell.ptr 0 2))] [] [(0, (bx v17 v18 v19 v20)), (1, (bx v21 v22 v23 v24)), (2, (bx 0 0 0 0))] 3) := by
        refine hI _ _ _ ?_
        refine A.take 6 rfl (by kernel_rfl) (by kernel_rfl) (by kernel_rfl) rfl (Ca.fieldAddr Try.underlying25 rfl info3 rfl) (fun Q0 k0 => L.fieldAddr Try.underlying25 rfl info3 rfl hF rfl rfl rfl rfl rfl (L.nil k0)) ?_
        exact A.on (hO _ _ _ n85) (Le.mk [(0, 0), (1, 1), (2, 2)] hm rfl (S7 rfl rfl rfl rfl rfl rfl rfl rfl rfl rfl rfl rfl rfl rfl) trivial (B3 rfl rfl rfl rfl rfl rfl rfl rfl rfl))
      have n5 : W 15 #[true, false, true, false, false, false, false, false, false, false, false, false, false, false, false, false, false] (mkSt [(2, one (Cell.ptr 0 0)), (3, one (Cell.ptr 1 0)), (4, one (Cell.ptr 2 0)), (16, one (Cell.ptr 0 0)), (18, one (Cell.ptr 0 1))] [] [(0, (bx v17 v18 v19 v20)), (1, (bx v21 v22 v23 v24)), (2, (bx 0 0 0 0))] 3) := by
        refine hI _ _ _ ?_
        refine A.take 4 rfl (by kernel_rfl) (by kernel_rfl) (by kernel_rfl) rfl (Ca.fieldAddr Try.underlying25 rfl info3 rfl) (fun Q0 k0 => L.fieldAddr Try.underlying25 rfl info3 rfl hF rfl rfl rfl rfl rfl (L.nil k0)) ?_
        exact A.on (hO _ _ _ n21) (Le.mk [(0, 0), (1, 1), (2, 2)] hm rfl (S6 rfl rfl rfl rfl rfl rfl rfl rfl rfl rfl rfl rfl) trivial (B3 rfl rfl rfl rfl rfl rfl rfl rfl rfl))
      have n1 : W 16 #[true, false, false, false, false, false, false, false, false, false, false, false, false, false, false, false, false] (mkSt [(2, one (Cell.ptr 0 0)), (3, one (Cell.ptr 1 0)), (4, one (Cell.ptr 2 0)), (16, one (Cell.ptr 0 0))] [] [(0, (bx v17 v18 v19 v20)), (1, (bx v21 v22 v23 v24)), (2, (bx 0 0 0 0))] 3) := by
        refine hI _ _ _ ?_
        refine A.take 2 rfl (by kernel_rfl) (by kernel_rfl) (by kernel_rfl) rfl (Ca.fieldAddr Try.underlying25 rfl info3 rfl) (fun Q0 k0 => L.fieldAddr Try.underlying25 rfl info3 rfl hF rfl rfl rfl rfl rfl (L.nil k0)) ?_
        exact A.on (hO _ _ _ n5) (Le.mk [(0, 0), (1, 1), (2, 2)] hm rfl (S5 rfl rfl rfl rfl rfl rfl rfl rfl rfl rfl) trivial (B3 rfl rfl rfl rfl rfl rfl rfl rfl rfl))
      have n0 : W 17 #[false, false, false, false, false, false, false, false, false, false, false, false, false, false, false, false, false] (mkSt [(2, one (Cell.ptr 0 0)), (3, one (Cell.ptr 1 0)), (4, one (Cell.ptr 2 0))] [] [(0, (bx v17 v18 v19 v20)), (1, (bx v21 v22 v23 v24)), (2, (bx 0 0 0 0))] 3) := by
        refine hI _ _ _ ?_
        refine A.take 0 rfl (by kernel_rfl) (by kernel_rfl) (by kernel_rfl) rfl (Ca.fieldAddr Try.underlying25 rfl info3 rfl) (fun Q0 k0 => L.fieldAddr Try.underlying25 rfl info3 rfl hF rfl rfl rfl rfl rfl (L.nil k0)) ?_
        exact A.on (hO _ _ _ n1) (Le.mk [(0, 0), (1, 1), (2, 2)] hm rfl (S4 rfl rfl rfl rfl rfl rfl rfl rfl) trivial (B3 rfl rfl rfl rfl rfl rfl rfl rfl rfl))
      exact hI _ _ _ (A.on (hO _ _ _ n0) (Le.mk [(0, 0), (1, 1), (2, 2)] hm rfl (S3 rfl rfl rfl rfl rfl rfl) trivial (B3 rfl rfl rfl rfl rfl rfl rfl rfl rfl)))
  · refine WpC.regionL ?_
    refine L.loadPtr shape25 hF rfl rfl rfl rfl rfl rfl ?_
    obtain ⟨r33, hr33, H⟩ := bindS H
    refine L.call [false] [] [] 11 hF rfl rfl rfl ent22 rfl rfl rfl rfl rfl (Fspec_TimesOk_gives k  a0 r33 hr33) rfl ?_
    refine L.not hF rfl rfl rfl ?_
    refine L.move hF rfl rfl rfl ?_
    refine L.split (fun hc => ?_) (fun hc => ?_)
    · replace H := condT hc H
      refine L.off hF rfl rfl ?_
      refine L.off hF rfl rfl ?_
      refine L.off hF rfl rfl ?_
      refine L.pick hF rfl rfl rfl rfl ?_
      refine L.nil ?_
      exact ⟨_, ⟨k, true, a0.Auth, a0.Start, a0.End, a0.Renew, a1.Auth, a1.Start, a1.End, a1.Renew, by omega, H, rfl⟩, Le.mk [(0, 8), (1, 9), (2, 10)] hm rfl ⟨⟨_, rfl, rfl⟩, ⟨_, rfl, rfl⟩, ⟨_, rfl, rfl⟩, ⟨_, rfl, rfl⟩, trivial⟩ trivial ⟨⟨_, _, rfl, rfl, rfl⟩, ⟨_, _, rfl, rfl, rfl⟩, ⟨_, _, rfl, rfl, rfl⟩, trivial⟩⟩
    · replace H := condF hc H
      refine L.loadPtr shape25 hF rfl rfl rfl rfl rfl rfl ?_
      obtain ⟨r34, hr34, H⟩ := bindS H
      refine L.call [false] [] [] 12 hF rfl rfl rfl ent22 rfl rfl rfl rfl rfl (Fspec_TimesOk_gives k  a1 r34 hr34) rfl ?_
      refine L.not hF rfl rfl rfl ?_
      refine L.pick hF rfl rfl rfl rfl ?_
      refine L.nil ?_
      exact ⟨_, ⟨k, (!r34), a0.Auth, a0.Start, a0.End, a0.Renew, a1.Auth, a1.Start, a1.End, a1.Renew, by omega, H, rfl⟩, Le.mk [(0, 8), (1, 9), (2, 10)] hm rfl ⟨⟨_, rfl, rfl⟩, ⟨_, rfl, rfl⟩, ⟨_, rfl, rfl⟩, ⟨_, rfl, rfl⟩, trivial⟩ trivial ⟨⟨_, _, rfl, rfl, rfl⟩, ⟨_, _, rfl, rfl, rfl⟩, ⟨_, _, rfl, rfl, rfl⟩, trivial⟩⟩
end Go.Proofs.Ytflcaebmammlfaa.M
