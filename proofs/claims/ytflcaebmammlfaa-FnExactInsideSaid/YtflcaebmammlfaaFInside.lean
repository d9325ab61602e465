import Derived.Test.YtflcaebmammlfaaFInsidex1
import Derived.Test.YtflcaebmammlfaaProg
namespace Go.Proofs.Ytflcaebmammlfaa.M
open Go Go.MG
set_option linter.unusedVariables false
set_option linter.unusedSimpArgs false
/-! ### Fimpl_TimesOk -/
def Fimpl_TimesOk (k : Nat) (a0 : Timpl_Times) : Option Bool := cond (decide (a0.Auth ≥ (0 : Int))) (cond (decide (a0.Start ≥ a0.Auth)) (cond (decide (a0.End ≥ a0.Start)) (cond (decide (a0.Renew ≥ a0.End)) (some (decide (a0.Renew ≤ (100000 : Int)))) (some false)) (some false)) (some false)) (some false)
theorem ent24 : Enters Try.prog 24 := ⟨Try.f24, Try.func24, rfl, by decide⟩
set_option maxHeartbeats 8000000 in
set_option maxRecDepth 100000 in
theorem Fimpl_TimesOk_gives (k : Nat) (a0 : Timpl_Times) (r : Bool) (H : Fimpl_TimesOk k a0 = some r) : Gives Try.prog 24 [V.agg [cI a0.Auth, cI a0.Start, cI a0.End, cI a0.Renew]] [] [V.one (cL r)] [] := by
  refine Gives.intro Try.func24 rfl rfl rfl rfl ?_
  intro F hF hm
  unfold Fimpl_TimesOk at H
  obtain ⟨K, hK⟩ : ∃ K, k ≤ K := ⟨k, Nat.le_refl k⟩
  refine WpC.seq ?_
  refine WpC.regionL ?_
  refine L.box 4 hF rfl rfl rfl rfl ?_
  refine L.assign hF rfl rfl rfl ?_
  refine L.nil ?_
  refine WpC.seq ?_
  refine WpC.regionL ?_
  refine L.fieldAddr Try.underlying25 rfl info3 rfl hF rfl rfl rfl rfl rfl ?_
  refine L.loadPtr shape3 hF rfl rfl rfl rfl rfl rfl ?_
  refine L.bin hF rfl rfl rfl rfl rfl rfl ?_
  refine L.move hF rfl rfl rfl ?_
  refine L.split (fun hc => ?_) (fun hc => ?_)
  · replace H := condT hc H
    refine L.fieldAddr Try.underlying25 rfl info3 rfl hF rfl rfl rfl rfl rfl ?_
    refine L.loadPtr shape3 hF rfl rfl rfl rfl rfl rfl ?_
    refine L.fieldAddr Try.underlying25 rfl info3 rfl hF rfl rfl rfl rfl rfl ?_
    refine L.loadPtr shape3 hF rfl rfl rfl rfl rfl rfl ?_
    refine L.bin hF rfl rfl rfl rfl rfl rfl ?_
    refine L.pick hF rfl rfl rfl rfl ?_
    refine L.move hF rfl rfl rfl ?_
    refine L.split (fun hc => ?_) (fun hc => ?_)
    · replace H := condT hc H
      refine L.fieldAddr Try.underlying25 rfl info3 rfl hF rfl rfl rfl rfl rfl ?_
      refine L.loadPtr shape3 hF rfl rfl rfl rfl rfl rfl ?_
      refine L.fieldAddr Try.underlying25 rfl info3 rfl hF rfl rfl rfl rfl rfl ?_
      refine L.loadPtr shape3 hF rfl rfl rfl rfl rfl rfl ?_
      refine L.bin hF rfl rfl rfl rfl rfl rfl ?_
      refine L.pick hF rfl rfl rfl rfl ?_
      refine L.move hF rfl rfl rfl ?_
      refine L.split (fun hc => ?_) (fun hc => ?_)
      · replace H := condT hc H
        refine L.fieldAddr Try.underlying25 rfl info3 rfl hF rfl rfl rfl rfl rfl ?_
        refine L.loadPtr shape3 hF rfl rfl rfl rfl rfl rfl ?_
        refine L.fieldAddr Try.underlying25 rfl info3 rfl hF rfl rfl rfl rfl rfl ?_
        refine L.loadPtr shape3 hF rfl rfl rfl rfl rfl rfl ?_
        refine L.bin hF rfl rfl rfl rfl rfl rfl ?_
        refine L.pick hF rfl rfl rfl rfl ?_
        refine L.move hF rfl rfl rfl ?_
        refine L.split (fun hc => ?_) (fun hc => ?_)
        · replace H := condT hc H
          refine L.fieldAddr Try.underlying25 rfl info3 rfl hF rfl rfl rfl rfl rfl ?_
          refine L.loadPtr shape3 hF rfl rfl rfl rfl rfl rfl ?_
          refine L.bin hF rfl rfl rfl rfl rfl rfl ?_
          refine L.pick hF rfl rfl rfl rfl ?_
          refine L.assign hF rfl rfl rfl ?_
          refine L.nil ?_
          refine WpC.ret ?_
          cases H
          exact Leaves.ret rfl rfl rfl ⟨rfl, rfl⟩
        · replace H := condF hc H
          refine L.off hF rfl rfl ?_
          refine L.off hF rfl rfl ?_
          refine L.off hF rfl rfl ?_
          refine L.pick hF rfl rfl rfl rfl ?_
          refine L.assign hF rfl rfl rfl ?_
          refine L.nil ?_
          refine WpC.ret ?_
          cases H
          exact Leaves.ret rfl rfl rfl ⟨rfl, rfl⟩
      · replace H := condF hc H
        refine L.off hF rfl rfl ?_
        refine L.off hF rfl rfl ?_
        refine L.off hF rfl rfl ?_
        refine L.off hF rfl rfl ?_
        refine L.off hF rfl rfl ?_
        refine L.pick hF rfl rfl rfl rfl ?_
        refine L.move hF rfl rfl rfl ?_
        refine L.off hF rfl rfl ?_
        refine L.off hF rfl rfl ?_
        refine L.off hF rfl rfl ?_
        refine L.pick hF rfl rfl rfl rfl ?_
        refine L.assign hF rfl rfl rfl ?_
        refine L.nil ?_
        refine WpC.ret ?_
        cases H
        exact Leaves.ret rfl rfl rfl ⟨rfl, rfl⟩
    · replace H := condF hc H
      refine L.off hF rfl rfl ?_
      refine L.off hF rfl rfl ?_
      refine L.off hF rfl rfl ?_
      refine L.off hF rfl rfl ?_
      refine L.off hF rfl rfl ?_
      refine L.pick hF rfl rfl rfl rfl ?_
      refine L.move hF rfl rfl rfl ?_
      refine L.off hF rfl rfl ?_
      refine L.off hF rfl rfl ?_
      refine L.off hF rfl rfl ?_
      refine L.off hF rfl rfl ?_
      refine L.off hF rfl rfl ?_
      refine L.pick hF rfl rfl rfl rfl ?_
      refine L.move hF rfl rfl rfl ?_
      refine L.off hF rfl rfl ?_
      refine L.off hF rfl rfl ?_
      refine L.off hF rfl rfl ?_
      refine L.pick hF rfl rfl rfl rfl ?_
      refine L.assign hF rfl rfl rfl ?_
      refine L.nil ?_
      refine WpC.ret ?_
      cases H
      exact Leaves.ret rfl rfl rfl ⟨rfl, rfl⟩
  · replace H := condF hc H
    refine L.off hF rfl rfl ?_
    refine L.off hF rfl rfl ?_
    refine L.off hF rfl rfl ?_
    refine L.off hF rfl rfl ?_
    refine L.off hF rfl rfl ?_
    refine L.pick hF rfl rfl rfl rfl ?_
    refine L.move hF rfl rfl rfl ?_
    refine L.off hF rfl rfl ?_
    refine L.off hF rfl rfl ?_
    refine L.off hF rfl rfl ?_
    refine L.off hF rfl rfl ?_
    refine L.off hF rfl rfl ?_
    refine L.pick hF rfl rfl rfl rfl ?_
    refine L.move hF rfl rfl rfl ?_
    refine L.off hF rfl rfl ?_
    refine L.off hF rfl rfl ?_
    refine L.off hF rfl rfl ?_
    refine L.off hF rfl rfl ?_
    refine L.off hF rfl rfl ?_
    refine L.pick hF rfl rfl rfl rfl ?_
    refine L.move hF rfl rfl rfl ?_
    refine L.off hF rfl rfl ?_
    refine L.off hF rfl rfl ?_
    refine L.off hF rfl rfl ?_
    refine L.pick hF rfl rfl rfl rfl ?_
    refine L.assign hF rfl rfl rfl ?_
    refine L.nil ?_
    refine WpC.ret ?_
    cases H
    exact Leaves.ret rfl rfl rfl ⟨rfl, rfl⟩
/-! ### Fimpl_Inside -/
def Fimpl_Inside.j2 (k : Nat) (v16 : Bool) (v17 : Int) (v18 : Int) (v19 : Int) (v20 : Int) (v21 : Int) (v22 : Int) (v23 : Int) (v24 : Int) : Option (Timpl_Times × Bool) := cond v16 (some ((⟨(0 : Int), (0 : Int), (0 : Int), (0 : Int)⟩ : Timpl_Times), false)) ((Fimpl_TimesOk k (⟨v17, (if v22 > v18 then v22 else v18), (if v23 < v19 then v23 else v19), (if v24 < v20 then v24 else v20)⟩ : Timpl_Times)).bind fun r26 => cond (!r26) (some ((⟨(0 : Int), (0 : Int), (0 : Int), (0 : Int)⟩ : Timpl_Times), false)) (some ((⟨v17, (if v22 > v18 then v22 else v18), (if v23 < v19 then v23 else v19), (if v24 < v20 then v24 else v20)⟩ : Timpl_Times), true)))
def Fimpl_Inside (k : Nat) (a0 : Timpl_Times) (a1 : Timpl_Times) : Option (Timpl_Times × Bool) := (Fimpl_TimesOk k a0).bind fun r27 => cond (!r27) (Fimpl_Inside.j2 k true a0.Auth a0.Start a0.End a0.Renew a1.Auth a1.Start a1.End a1.Renew) ((Fimpl_TimesOk k a1).bind fun r28 => Fimpl_Inside.j2 k (!r28) a0.Auth a0.Start a0.End a0.Renew a1.Auth a1.Start a1.End a1.Renew)
theorem ent31 : Enters Try.prog 31 := ⟨Try.f31, Try.func31, rfl, by decide⟩
set_option maxHeartbeats 8000000 in
set_option maxRecDepth 100000 in
theorem Fimpl_Inside_gives (k : Nat) (a0 : Timpl_Times) (a1 : Timpl_Times) (r : Timpl_Times × Bool) (H : Fimpl_Inside k a0 a1 = some r) : Gives Try.prog 31 [V.agg [cI a0.Auth, cI a0.Start, cI a0.End, cI a0.Renew], V.agg [cI a1.Auth, cI a1.Start, cI a1.End, cI a1.Renew]] [] [V.agg [cI r.1.Auth, cI r.1.Start, cI r.1.End, cI r.1.Renew], V.one (cL r.2)] [] := by
  refine Gives.intro Try.func31 rfl rfl rfl rfl ?_
  intro F hF hm
  unfold Fimpl_Inside at H
  obtain ⟨K, hK⟩ : ∃ K, k ≤ K := ⟨k, Nat.le_refl k⟩
  refine WpC.seq ?_
  refine WpC.regionL ?_
  refine L.box 8 hF rfl rfl rfl rfl ?_
  refine L.box 9 hF rfl rfl rfl rfl ?_
  refine L.alloc 10 info25 rfl hF rfl rfl rfl rfl ?_
  refine L.assign hF rfl rfl rfl ?_
  refine L.nil ?_
  refine WpC.seq ?_
  refine WpC.join (fun σ => ∃ kj2 : Nat, ∃ v16 : Bool, ∃ v17 : Int, ∃ v18 : Int, ∃ v19 : Int, ∃ v20 : Int, ∃ v21 : Int, ∃ v22 : Int, ∃ v23 : Int, ∃ v24 : Int, kj2 ≤ K ∧ Fimpl_Inside.j2 kj2 v16 v17 v18 v19 v20 v21 v22 v23 v24 = some r ∧ σ = mkSt [(2, one (Cell.ptr 0 0)), (3, one (Cell.ptr 1 0)), (4, one (Cell.ptr 2 0)), (14, one (cL v16))] [] [(0, [cI v17, cI v18, cI v19, cI v20]), (1, [cI v21, cI v22, cI v23, cI v24]), (2, [cI (0 : Int), cI (0 : Int), cI (0 : Int), cI (0 : Int)])] 3) ?_ ?_
  · rintro _ ⟨kj2, v16, v17, v18, v19, v20, v21, v22, v23, v24, hkj2, H, rfl⟩
    unfold Fimpl_Inside.j2 at H
    refine WpC.cond rfl (fun hc => ?_) (fun hc => ?_)
    · replace H := condT hc H
      refine WpC.seq ?_
      refine WpC.regionL ?_
      refine L.buildF built25 hF rfl rfl rfl rfl ?_
      refine L.storePtr shape25 hF rfl rfl rfl rfl rfl rfl rfl ?_
      refine L.assign hF rfl rfl rfl ?_
      refine L.nil ?_
      refine WpC.ret ?_
      cases H
      exact Leaves.ret rfl rfl rfl ⟨rfl, rfl⟩
    · replace H := condF hc H
      refine WpC.skip ?_
      refine WpC.seq ?_
      refine WpC.regionL ?_
      refine L.fieldAddr Try.underlying25 rfl info3 rfl hF rfl rfl rfl rfl rfl ?_
      refine L.loadPtr shape3 hF rfl rfl rfl rfl rfl rfl ?_
      refine L.fieldAddr Try.underlying25 rfl info3 rfl hF rfl rfl rfl rfl rfl ?_
      refine L.loadPtr shape3 hF rfl rfl rfl rfl rfl rfl ?_
      refine L.fieldAddr Try.underlying25 rfl info3 rfl hF rfl rfl rfl rfl rfl ?_
      refine L.loadPtr shape3 hF rfl rfl rfl rfl rfl rfl ?_
      refine L.maxI hF rfl rfl rfl rfl ?_
      refine L.fieldAddr Try.underlying25 rfl info3 rfl hF rfl rfl rfl rfl rfl ?_
      refine L.loadPtr shape3 hF rfl rfl rfl rfl rfl rfl ?_
      refine L.fieldAddr Try.underlying25 rfl info3 rfl hF rfl rfl rfl rfl rfl ?_
      refine L.loadPtr shape3 hF rfl rfl rfl rfl rfl rfl ?_
      refine L.minI hF rfl rfl rfl rfl ?_
      refine L.fieldAddr Try.underlying25 rfl info3 rfl hF rfl rfl rfl rfl rfl ?_
      refine L.loadPtr shape3 hF rfl rfl rfl rfl rfl rfl ?_
      refine L.fieldAddr Try.underlying25 rfl info3 rfl hF rfl rfl rfl rfl rfl ?_
      refine L.loadPtr shape3 hF rfl rfl rfl rfl rfl rfl ?_
      refine L.minI hF rfl rfl rfl rfl ?_
      refine L.buildF built25 hF rfl rfl rfl rfl ?_
      refine L.alloc 3 info25 rfl hF rfl rfl rfl rfl ?_
      refine L.storePtr shape25 hF rfl rfl rfl rfl rfl rfl rfl ?_
      refine L.nil ?_
      refine WpC.seq ?_
      refine WpC.seq ?_
      refine WpC.regionL ?_
      refine L.loadPtr shape25 hF rfl rfl rfl rfl rfl rfl ?_
      obtain ⟨r26, hr26, H⟩ := bindS H
      refine L.call [false] [] [] 4 hF rfl rfl rfl ent24 rfl rfl rfl rfl rfl (Fimpl_TimesOk_gives kj2  (⟨v17, (if v22 > v18 then v22 else v18), (if v23 < v19 then v23 else v19), (if v24 < v20 then v24 else v20)⟩ : Timpl_Times) r26 hr26) rfl ?_
      refine L.not hF rfl rfl rfl ?_
      refine L.nil ?_
      refine WpC.cond rfl (fun hc => ?_) (fun hc => ?_)
      · replace H := condT hc H
        refine WpC.seq ?_
        refine WpC.regionL ?_
        refine L.buildF built25 hF rfl rfl rfl rfl ?_
        refine L.storePtr shape25 hF rfl rfl rfl rfl rfl rfl rfl ?_
        refine L.assign hF rfl rfl rfl ?_
        refine L.nil ?_
        refine WpC.ret ?_
        cases H
        exact Leaves.ret rfl rfl rfl ⟨rfl, rfl⟩
      · replace H := condF hc H
        refine WpC.skip ?_
        refine WpC.seq ?_
        refine WpC.regionL ?_
        refine L.loadPtr shape25 hF rfl rfl rfl rfl rfl rfl ?_
        refine L.storePtr shape25 hF rfl rfl rfl rfl rfl rfl rfl ?_
        refine L.assign hF rfl rfl rfl ?_
        refine L.nil ?_
        refine WpC.ret ?_
        cases H
        exact Leaves.ret rfl rfl rfl ⟨rfl, rfl⟩
  · refine WpC.regionL ?_
    refine L.loadPtr shape25 hF rfl rfl rfl rfl rfl rfl ?_
    obtain ⟨r27, hr27, H⟩ := bindS H
    refine L.call [false] [] [] 11 hF rfl rfl rfl ent24 rfl rfl rfl rfl rfl (Fimpl_TimesOk_gives k  a0 r27 hr27) rfl ?_
    refine L.not hF rfl rfl rfl ?_
    refine L.move hF rfl rfl rfl ?_
    refine L.split (fun hc => ?_) (fun hc => ?_)
    · replace H := condT hc H
      refine L.off hF rfl rfl ?_
      refine L.off hF rfl rfl ?_
      refine L.off hF rfl rfl ?_
      refine L.pick hF rfl rfl rfl rfl ?_
      refine L.nil ?_
      exact ⟨_, ⟨k, true, a0.Auth, a0.Start, a0.End, a0.Renew, a1.Auth, a1.Start, a1.End, a1.Renew, by omega, H, rfl⟩, Le.mk [(0, 8), (1, 9), (2, 10)] hm rfl ⟨⟨_, rfl, rfl⟩, ⟨_, rfl, rfl⟩, ⟨_, rfl, rfl⟩, ⟨_, rfl, rfl⟩, trivial⟩ trivial ⟨⟨_, _, rfl, rfl, rfl⟩, ⟨_, _, rfl, rfl, rfl⟩, ⟨_, _, rfl, rfl, rfl⟩, trivial⟩⟩
    · replace H := condF hc H
      refine L.loadPtr shape25 hF rfl rfl rfl rfl rfl rfl ?_
      obtain ⟨r28, hr28, H⟩ := bindS H
      refine L.call [false] [] [] 12 hF rfl rfl rfl ent24 rfl rfl rfl rfl rfl (Fimpl_TimesOk_gives k  a1 r28 hr28) rfl ?_
      refine L.not hF rfl rfl rfl ?_
      refine L.pick hF rfl rfl rfl rfl ?_
      refine L.nil ?_
      exact ⟨_, ⟨k, (!r28), a0.Auth, a0.Start, a0.End, a0.Renew, a1.Auth, a1.Start, a1.End, a1.Renew, by omega, H, rfl⟩, Le.mk [(0, 8), (1, 9), (2, 10)] hm rfl ⟨⟨_, rfl, rfl⟩, ⟨_, rfl, rfl⟩, ⟨_, rfl, rfl⟩, ⟨_, rfl, rfl⟩, trivial⟩ trivial ⟨⟨_, _, rfl, rfl, rfl⟩, ⟨_, _, rfl, rfl, rfl⟩, ⟨_, _, rfl, rfl, rfl⟩, trivial⟩⟩
/-! ### Flaws_eqTimes -/
def Flaws_eqTimes (k : Nat) (a0 : Timpl_Times) (a1 : Timpl_Times) : Option Bool := cond (a0.Auth != a1.Auth) (some false) (cond (a0.Start != a1.Start) (some false) (cond (a0.End != a1.End) (some false) (cond (a0.Renew != a1.Renew) (some false) (some true))))
theorem ent29 : Enters Try.prog 29 := ⟨Try.f29, Try.func29, rfl, by decide⟩
set_option maxHeartbeats 8000000 in
set_option maxRecDepth 100000 in
theorem Flaws_eqTimes_gives (k : Nat) (a0 : Timpl_Times) (a1 : Timpl_Times) (r : Bool) (H : Flaws_eqTimes k a0 a1 = some r) : Gives Try.prog 29 [V.agg [cI a0.Auth, cI a0.Start, cI a0.End, cI a0.Renew], V.agg [cI a1.Auth, cI a1.Start, cI a1.End, cI a1.Renew]] [] [V.one (cL r)] [] := by
  refine Gives.intro Try.func29 rfl rfl rfl rfl ?_
  intro F hF hm
  unfold Flaws_eqTimes at H
  obtain ⟨K, hK⟩ : ∃ K, k ≤ K := ⟨k, Nat.le_refl k⟩
  refine WpC.seq ?_
  refine WpC.regionL ?_
  refine L.box 8 hF rfl rfl rfl rfl ?_
  refine L.box 9 hF rfl rfl rfl rfl ?_
  refine L.assign hF rfl rfl rfl ?_
  refine L.nil ?_
  refine WpC.seq ?_
  refine WpC.seq ?_
  refine WpC.regionL ?_
  refine L.fieldAddr Try.underlying25 rfl info3 rfl hF rfl rfl rfl rfl rfl ?_
  refine L.loadPtr shape3 hF rfl rfl rfl rfl rfl rfl ?_
  refine L.fieldAddr Try.underlying25 rfl info3 rfl hF rfl rfl rfl rfl rfl ?_
  refine L.loadPtr shape3 hF rfl rfl rfl rfl rfl rfl ?_
  refine L.bin hF rfl rfl rfl rfl rfl rfl ?_
  refine L.nil ?_
  refine WpC.cond rfl (fun hc => ?_) (fun hc => ?_)
  · replace H := condT hc H
    refine WpC.seq ?_
    refine WpC.regionL ?_
    refine L.assign hF rfl rfl rfl ?_
    refine L.nil ?_
    refine WpC.ret ?_
    cases H
    exact Leaves.ret rfl rfl rfl ⟨rfl, rfl⟩
  · replace H := condF hc H
    refine WpC.skip ?_
    refine WpC.seq ?_
    refine WpC.seq ?_
    refine WpC.regionL ?_
    refine L.fieldAddr Try.underlying25 rfl info3 rfl hF rfl rfl rfl rfl rfl ?_
    refine L.loadPtr shape3 hF rfl rfl rfl rfl rfl rfl ?_
    refine L.fieldAddr Try.underlying25 rfl info3 rfl hF rfl rfl rfl rfl rfl ?_
    refine L.loadPtr shape3 hF rfl rfl rfl rfl rfl rfl ?_
    refine L.bin hF rfl rfl rfl rfl rfl rfl ?_
    refine L.nil ?_
    refine WpC.cond rfl (fun hc => ?_) (fun hc => ?_)
    · replace H := condT hc H
      refine WpC.seq ?_
      refine WpC.regionL ?_
      refine L.assign hF rfl rfl rfl ?_
      refine L.nil ?_
      refine WpC.ret ?_
      cases H
      exact Leaves.ret rfl rfl rfl ⟨rfl, rfl⟩
    · replace H := condF hc H
      refine WpC.skip ?_
      refine WpC.seq ?_
      refine WpC.seq ?_
      refine WpC.regionL ?_
      refine L.fieldAddr Try.underlying25 rfl info3 rfl hF rfl rfl rfl rfl rfl ?_
      refine L.loadPtr shape3 hF rfl rfl rfl rfl rfl rfl ?_
      refine L.fieldAddr Try.underlying25 rfl info3 rfl hF rfl rfl rfl rfl rfl ?_
      refine L.loadPtr shape3 hF rfl rfl rfl rfl rfl rfl ?_
      refine L.bin hF rfl rfl rfl rfl rfl rfl ?_
      refine L.nil ?_
      refine WpC.cond rfl (fun hc => ?_) (fun hc => ?_)
      · replace H := condT hc H
        refine WpC.seq ?_
        refine WpC.regionL ?_
        refine L.assign hF rfl rfl rfl ?_
        refine L.nil ?_
        refine WpC.ret ?_
        cases H
        exact Leaves.ret rfl rfl rfl ⟨rfl, rfl⟩
      · replace H := condF hc H
        refine WpC.skip ?_
        refine WpC.seq ?_
        refine WpC.seq ?_
        refine WpC.regionL ?_
        refine L.fieldAddr Try.underlying25 rfl info3 rfl hF rfl rfl rfl rfl rfl ?_
        refine L.loadPtr shape3 hF rfl rfl rfl rfl rfl rfl ?_
        refine L.fieldAddr Try.underlying25 rfl info3 rfl hF rfl rfl rfl rfl rfl ?_
        refine L.loadPtr shape3 hF rfl rfl rfl rfl rfl rfl ?_
        refine L.bin hF rfl rfl rfl rfl rfl rfl ?_
        refine L.nil ?_
        refine WpC.cond rfl (fun hc => ?_) (fun hc => ?_)
        · replace H := condT hc H
          refine WpC.seq ?_
          refine WpC.regionL ?_
          refine L.assign hF rfl rfl rfl ?_
          refine L.nil ?_
          refine WpC.ret ?_
          cases H
          exact Leaves.ret rfl rfl rfl ⟨rfl, rfl⟩
        · replace H := condF hc H
          refine WpC.skip ?_
          refine WpC.seq ?_
          refine WpC.regionL ?_
          refine L.assign hF rfl rfl rfl ?_
          refine L.nil ?_
          refine WpC.ret ?_
          cases H
          exact Leaves.ret rfl rfl rfl ⟨rfl, rfl⟩
/-! ### Flaws_FnExactInside -/
def Flaws_FnExactInside (k : Nat) (a0 : Tlaws_Times) (a1 : Tlaws_Times) : Option Bool := (Flaws_toTimes k a0).bind fun r1 => (Flaws_toTimes k a1).bind fun r2 => (Fspec_Inside k r1 r2).bind fun r3 => (Flaws_toTimes k a0).bind fun r4 => (Flaws_toTimes k a1).bind fun r5 => (Fimpl_Inside k r4 r5).bind fun r6 => (Flaws_eqTimes k r6.1 r3.1).bind fun r10 => cond (!r10) (some false) (cond (r6.2 != r3.2) (some false) (some true))
theorem ent6 : Enters Try.prog 6 := ⟨Try.f6, Try.func6, rfl, by decide⟩
set_option maxHeartbeats 8000000 in
set_option maxRecDepth 100000 in
theorem Flaws_FnExactInside_gives (k : Nat) (a0 : Tlaws_Times) (a1 : Tlaws_Times) (r : Bool) (H : Flaws_FnExactInside k a0 a1 = some r) : Gives Try.prog 6 [V.agg [cI a0.Auth, cI a0.Start, cI a0.End, cI a0.Renew], V.agg [cI a1.Auth, cI a1.Start, cI a1.End, cI a1.Renew]] [] [V.one (cL r)] [] := by
  refine Gives.intro Try.func6 rfl rfl rfl rfl ?_
  intro F hF hm
  unfold Flaws_FnExactInside at H
  obtain ⟨K, hK⟩ : ∃ K, k ≤ K := ⟨k, Nat.le_refl k⟩
  refine WpC.seq ?_
  refine WpC.regionL ?_
  refine L.box 8 hF rfl rfl rfl rfl ?_
  refine L.box 9 hF rfl rfl rfl rfl ?_
  refine L.assign hF rfl rfl rfl ?_
  refine L.nil ?_
  refine WpC.seq ?_
  obtain ⟨r1, hr1, H⟩ := bindS H
  obtain ⟨r2, hr2, H⟩ := bindS H
  obtain ⟨r3, hr3, H⟩ := bindS H
  refine A.begin mixed rfl rfl ?_
  intro W hI hO
  have n2047 : W 0 #[true, true, true, true, true, true, true, true, true, true, true] (mkSt [(2, one (Cell.ptr 0 0)), (3, one (Cell.ptr 1 0)), (5, one (Cell.ptr 2 0)), (6, one (cL r3.2))] [] [(0, [cI a0.Auth, cI a0.Start, cI a0.End, cI a0.Renew]), (1, [cI a1.Auth, cI a1.Start, cI a1.End, cI a1.Renew]), (2, [cI r3.1.Auth, cI r3.1.Start, cI r3.1.End, cI r3.1.Renew])] 3) := by
    refine hI _ _ _ (A.done (by kernel_rfl) ?_)
    refine WpC.seq ?_
    obtain ⟨r4, hr4, H⟩ := bindS H
    obtain ⟨r5, hr5, H⟩ := bindS H
    obtain ⟨r6, hr6, H⟩ := bindS H
    refine A.begin mixed rfl rfl ?_
    intro W hI hO
    have n2047 : W 0 #[true, true, true, true, true, true, true, true, true, true, true] (mkSt [(5, one (Cell.ptr 0 0)), (6, one (cL r3.2)), (7, one (Cell.ptr 1 0)), (8, one (cL r6.2))] [] [(0, [cI r3.1.Auth, cI r3.1.Start, cI r3.1.End, cI r3.1.Renew]), (1, [cI r6.1.Auth, cI r6.1.Start, cI r6.1.End, cI r6.1.Renew])] 2) := by
      refine hI _ _ _ (A.done (by kernel_rfl) ?_)
      refine WpC.seq ?_
      refine WpC.seq ?_
      refine WpC.regionL ?_
      refine L.loadPtr shape25 hF rfl rfl rfl rfl rfl rfl ?_
      refine L.loadPtr shape25 hF rfl rfl rfl rfl rfl rfl ?_
      obtain ⟨r10, hr10, H⟩ := bindS H
      refine L.call [false, false] [] [] 2 hF rfl rfl rfl ent29 rfl rfl rfl rfl rfl (Flaws_eqTimes_gives k  r6.1 r3.1 r10 hr10) rfl ?_
      refine L.not hF rfl rfl rfl ?_
      refine L.move hF rfl rfl rfl ?_
      refine L.split (fun hc => ?_) (fun hc => ?_)
      · replace H := condT hc H
        refine L.off hF rfl rfl ?_
        refine L.off hF rfl rfl ?_
        refine L.off hF rfl rfl ?_
        refine L.pick hF rfl rfl rfl rfl ?_
        refine L.nil ?_
        refine WpC.cond rfl (fun _ => ?_) (fun hc => by cases hc)
        refine WpC.seq ?_
        refine WpC.regionL ?_
        refine L.assign hF rfl rfl rfl ?_
        refine L.nil ?_
        refine WpC.ret ?_
        cases H
        exact Leaves.ret rfl rfl rfl ⟨rfl, rfl⟩
      · replace H := condF hc H
        refine L.move hF rfl rfl rfl ?_
        refine L.move hF rfl rfl rfl ?_
        refine L.neL Try.underlying4 hF rfl rfl rfl rfl ?_
        refine L.pick hF rfl rfl rfl rfl ?_
        refine L.nil ?_
        refine WpC.cond rfl (fun hc => ?_) (fun hc => ?_)
        · replace H := condT hc H
          refine WpC.seq ?_
          refine WpC.regionL ?_
          refine L.assign hF rfl rfl rfl ?_
          refine L.nil ?_
          refine WpC.ret ?_
          cases H
          exact Leaves.ret rfl rfl rfl ⟨rfl, rfl⟩
        · replace H := condF hc H
          refine WpC.skip ?_
          refine WpC.seq ?_
          refine WpC.regionL ?_
          refine L.assign hF rfl rfl rfl ?_
          refine L.nil ?_
          refine WpC.ret ?_
          cases H
          exact Leaves.ret rfl rfl rfl ⟨rfl, rfl⟩
    have n1023 : W 1 #[true, true, true, true, true, true, true, true, true, true, false] (mkSt [(5, one (Cell.ptr 0 0)), (6, one (cL r3.2)), (7, one (Cell.ptr 1 0)), (24, one (cL r6.2))] [] [(0, [cI r3.1.Auth, cI r3.1.Start, cI r3.1.End, cI r3.1.Renew]), (1, [cI r6.1.Auth, cI r6.1.Start, cI r6.1.End, cI r6.1.Renew])] 2) := by
      refine hI _ _ _ ?_
      refine A.take 10 rfl (by kernel_rfl) (by kernel_rfl) (by kernel_rfl) rfl (Ca.assign) (fun Q0 k0 => L.assign hF rfl rfl rfl (L.nil k0)) ?_
      exact A.on (hO _ _ _ n2047) (Le.mk [(0, 0), (1, 1)] hm rfl ⟨⟨_, rfl, rfl⟩, ⟨_, rfl, rfl⟩, ⟨_, rfl, rfl⟩, ⟨_, rfl, rfl⟩, trivial⟩ trivial ⟨⟨_, _, rfl, rfl, rfl⟩, ⟨_, _, rfl, rfl, rfl⟩, trivial⟩)
    have n511 : W 2 #[true, true, true, true, true, true, true, true, true, false, false] (mkSt [(5, one (Cell.ptr 0 0)), (6, one (cL r3.2)), (7, one (Cell.ptr 1 0)), (23, agg [cI r6.1.Auth, cI r6.1.Start, cI r6.1.End, cI r6.1.Renew]), (24, one (cL r6.2))] [] [(0, [cI r3.1.Auth, cI r3.1.Start, cI r3.1.End, cI r3.1.Renew]), (1, [cI (0 : Int), cI (0 : Int), cI (0 : Int), cI (0 : Int)])] 2) := by
      refine hI _ _ _ ?_
      refine A.all [9] (by kernel_rfl) rfl ⟨⟨_, rfl, ?_⟩, trivial⟩
      · refine L.storePtr shape25 hF rfl rfl rfl rfl rfl rfl rfl ?_
        refine L.nil ?_
        exact A.on (hO _ _ _ n1023) (Le.mk [(0, 0), (1, 1)] hm rfl ⟨⟨_, rfl, rfl⟩, ⟨_, rfl, rfl⟩, ⟨_, rfl, rfl⟩, ⟨_, rfl, rfl⟩, trivial⟩ trivial ⟨⟨_, _, rfl, rfl, rfl⟩, ⟨_, _, rfl, rfl, rfl⟩, trivial⟩)
    have n255 : W 3 #[true, true, true, true, true, true, true, true, false, false, false] (mkSt [(5, one (Cell.ptr 0 0)), (6, one (cL r3.2)), (23, agg [cI r6.1.Auth, cI r6.1.Start, cI r6.1.End, cI r6.1.Renew]), (24, one (cL r6.2))] [] [(0, [cI r3.1.Auth, cI r3.1.Start, cI r3.1.End, cI r3.1.Renew])] 1) := by
      refine hI _ _ _ ?_
      refine A.all [8] (by kernel_rfl) rfl ⟨⟨_, rfl, ?_⟩, trivial⟩
      · refine L.alloc 1 info25 rfl hF rfl rfl rfl rfl ?_
        refine L.nil ?_
        exact A.on (hO _ _ _ n511) (Le.mk [(0, 0), (1, 1)] hm rfl ⟨⟨_, rfl, rfl⟩, ⟨_, rfl, rfl⟩, ⟨_, rfl, rfl⟩, ⟨_, rfl, rfl⟩, ⟨_, rfl, rfl⟩, trivial⟩ trivial ⟨⟨_, _, rfl, rfl, rfl⟩, ⟨_, _, rfl, rfl, rfl⟩, trivial⟩)
    have n383 : W 3 #[true, true, true, true, true, true, true, false, true, false, false] (mkSt [(5, one (Cell.ptr 0 0)), (6, one (cL r3.2)), (7, one (Cell.ptr 1 0)), (17, Slot.tup [V.agg [cI r6.1.Auth, cI r6.1.Start, cI r6.1.End, cI r6.1.Renew], V.one (cL r6.2)]), (23, agg [cI r6.1.Auth, cI r6.1.Start, cI r6.1.End, cI r6.1.Renew])] [] [(0, [cI r3.1.Auth, cI r3.1.Start, cI r3.1.End, cI r3.1.Renew]), (1, [cI (0 : Int), cI (0 : Int), cI (0 : Int), cI (0 : Int)])] 2) := by
      refine hI _ _ _ ?_
      refine A.take 7 rfl (by kernel_rfl) (by kernel_rfl) (by kernel_rfl) rfl (Ca.extract) (fun Q0 k0 => L.extract hF rfl rfl rfl rfl (L.nil k0)) ?_
      exact A.on (hO _ _ _ n511) (Le.mk [(0, 0), (1, 1)] hm rfl ⟨⟨_, rfl, rfl⟩, ⟨_, rfl, rfl⟩, ⟨_, rfl, rfl⟩, ⟨_, rfl, rfl⟩, ⟨_, rfl, rfl⟩, trivial⟩ trivial ⟨⟨_, _, rfl, rfl, rfl⟩, ⟨_, _, rfl, rfl, rfl⟩, trivial⟩)
    have n319 : W 4 #[true, true, true, true, true, true, false, false, true, false, false] (mkSt [(5, one (Cell.ptr 0 0)), (6, one (cL r3.2)), (7, one (Cell.ptr 1 0)), (17, Slot.tup [V.agg [cI r6.1.Auth, cI r6.1.Start, cI r6.1.End, cI r6.1.Renew], V.one (cL r6.2)])] [] [(0, [cI r3.1.Auth, cI r3.1.Start, cI r3.1.End, cI r3.1.Renew]), (1, [cI (0 : Int), cI (0 : Int), cI (0 : Int), cI (0 : Int)])] 2) := by
      refine hI _ _ _ ?_
      refine A.take 6 rfl (by kernel_rfl) (by kernel_rfl) (by kernel_rfl) rfl (Ca.extract) (fun Q0 k0 => L.extract hF rfl rfl rfl rfl (L.nil k0)) ?_
      exact A.on (hO _ _ _ n383) (Le.mk [(0, 0), (1, 1)] hm rfl ⟨⟨_, rfl, rfl⟩, ⟨_, rfl, rfl⟩, ⟨_, rfl, rfl⟩, ⟨_, rfl, rfl⟩, ⟨_, rfl, rfl⟩, trivial⟩ trivial ⟨⟨_, _, rfl, rfl, rfl⟩, ⟨_, _, rfl, rfl, rfl⟩, trivial⟩)
    have n127 : W 4 #[true, true, true, true, true, true, true, false, false, false, false] (mkSt [(5, one (Cell.ptr 0 0)), (6, one (cL r3.2)), (17, Slot.tup [V.agg [cI r6.1.Auth, cI r6.1.Start, cI r6.1.End, cI r6.1.Renew], V.one (cL r6.2)]), (23, agg [cI r6.1.Auth, cI r6.1.Start, cI r6.1.End, cI r6.1.Renew])] [] [(0, [cI r3.1.Auth, cI r3.1.Start, cI r3.1.End, cI r3.1.Renew])] 1) := by
      refine hI _ _ _ ?_
      refine A.take 7 rfl (by kernel_rfl) (by kernel_rfl) (by kernel_rfl) rfl (Ca.extract) (fun Q0 k0 => L.extract hF rfl rfl rfl rfl (L.nil k0)) ?_
      exact A.on (hO _ _ _ n255) (Le.mk [(0, 0)] hm rfl ⟨⟨_, rfl, rfl⟩, ⟨_, rfl, rfl⟩, ⟨_, rfl, rfl⟩, ⟨_, rfl, rfl⟩, trivial⟩ trivial ⟨⟨_, _, rfl, rfl, rfl⟩, trivial⟩)
    have n287 : W 5 #[true, true, true, true, true, false, false, false, true, false, false] (mkSt [(5, one (Cell.ptr 0 0)), (6, one (cL r3.2)), (7, one (Cell.ptr 1 0)), (22, Slot.tup [V.agg [cI r6.1.Auth, cI r6.1.Start, cI r6.1.End, cI r6.1.Renew], V.one (cL r6.2)])] [] [(0, [cI r3.1.Auth, cI r3.1.Start, cI r3.1.End, cI r3.1.Renew]), (1, [cI (0 : Int), cI (0 : Int), cI (0 : Int), cI (0 : Int)])] 2) := by
      refine hI _ _ _ ?_
      refine A.take 5 rfl (by kernel_rfl) (by kernel_rfl) (by kernel_rfl) rfl (Ca.move) (fun Q0 k0 => L.move hF rfl rfl rfl (L.nil k0)) ?_
      exact A.on (hO _ _ _ n319) (Le.mk [(0, 0), (1, 1)] hm rfl ⟨⟨_, rfl, rfl⟩, ⟨_, rfl, rfl⟩, ⟨_, rfl, rfl⟩, ⟨_, rfl, rfl⟩, trivial⟩ trivial ⟨⟨_, _, rfl, rfl, rfl⟩, ⟨_, _, rfl, rfl, rfl⟩, trivial⟩)
    have n63 : W 5 #[true, true, true, true, true, true, false, false, false, false, false] (mkSt [(5, one (Cell.ptr 0 0)), (6, one (cL r3.2)), (17, Slot.tup [V.agg [cI r6.1.Auth, cI r6.1.Start, cI r6.1.End, cI r6.1.Renew], V.one (cL r6.2)])] [] [(0, [cI r3.1.Auth, cI r3.1.Start, cI r3.1.End, cI r3.1.Renew])] 1) := by
      refine hI _ _ _ ?_
      refine A.take 6 rfl (by kernel_rfl) (by kernel_rfl) (by kernel_rfl) rfl (Ca.extract) (fun Q0 k0 => L.extract hF rfl rfl rfl rfl (L.nil k0)) ?_
      exact A.on (hO _ _ _ n127) (Le.mk [(0, 0)] hm rfl ⟨⟨_, rfl, rfl⟩, ⟨_, rfl, rfl⟩, ⟨_, rfl, rfl⟩, ⟨_, rfl, rfl⟩, trivial⟩ trivial ⟨⟨_, _, rfl, rfl, rfl⟩, trivial⟩)
    have n271 : W 6 #[true, true, true, true, false, false, false, false, true, false, false] (mkSt [(5, one (Cell.ptr 0 0)), (6, one (cL r3.2)), (7, one (Cell.ptr 1 0)), (19, agg [cI r4.Auth, cI r4.Start, cI r4.End, cI r4.Renew]), (21, agg [cI r5.Auth, cI r5.Start, cI r5.End, cI r5.Renew])] [] [(0, [cI r3.1.Auth, cI r3.1.Start, cI r3.1.End, cI r3.1.Renew]), (1, [cI (0 : Int), cI (0 : Int), cI (0 : Int), cI (0 : Int)])] 2) := by
      refine hI _ _ _ ?_
      refine A.all [4] (by kernel_rfl) rfl ⟨⟨_, rfl, ?_⟩, trivial⟩
      · refine L.call [false, false] [] [] 2 hF rfl rfl rfl ent31 rfl rfl rfl rfl rfl (Fimpl_Inside_gives k  r4 r5 r6 hr6) rfl ?_
        refine L.nil ?_
        exact A.on (hO _ _ _ n287) (Le.mk [(0, 0), (1, 1)] hm rfl ⟨⟨_, rfl, rfl⟩, ⟨_, rfl, rfl⟩, ⟨_, rfl, rfl⟩, ⟨_, rfl, rfl⟩, trivial⟩ trivial ⟨⟨_, _, rfl, rfl, rfl⟩, ⟨_, _, rfl, rfl, rfl⟩, trivial⟩)
    have n31 : W 6 #[true, true, true, true, true, false, false, false, false, false, false] (mkSt [(5, one (Cell.ptr 0 0)), (6, one (cL r3.2)), (22, Slot.tup [V.agg [cI r6.1.Auth, cI r6.1.Start, cI r6.1.End, cI r6.1.Renew], V.one (cL r6.2)])] [] [(0, [cI r3.1.Auth, cI r3.1.Start, cI r3.1.End, cI r3.1.Renew])] 1) := by
      refine hI _ _ _ ?_
      refine A.take 5 rfl (by kernel_rfl) (by kernel_rfl) (by kernel_rfl) rfl (Ca.move) (fun Q0 k0 => L.move hF rfl rfl rfl (L.nil k0)) ?_
      exact A.on (hO _ _ _ n63) (Le.mk [(0, 0)] hm rfl ⟨⟨_, rfl, rfl⟩, ⟨_, rfl, rfl⟩, ⟨_, rfl, rfl⟩, trivial⟩ trivial ⟨⟨_, _, rfl, rfl, rfl⟩, trivial⟩)
    have n263 : W 7 #[true, true, true, false, false, false, false, false, true, false, false] (mkSt [(5, one (Cell.ptr 0 0)), (6, one (cL r3.2)), (7, one (Cell.ptr 1 0)), (19, agg [cI r4.Auth, cI r4.Start, cI r4.End, cI r4.Renew]), (20, agg [cI a1.Auth, cI a1.Start, cI a1.End, cI a1.Renew])] [] [(0, [cI r3.1.Auth, cI r3.1.Start, cI r3.1.End, cI r3.1.Renew]), (1, [cI (0 : Int), cI (0 : Int), cI (0 : Int), cI (0 : Int)])] 2) := by
      refine hI _ _ _ ?_
      refine A.all [3] (by kernel_rfl) rfl ⟨⟨_, rfl, ?_⟩, trivial⟩
      · refine L.call [false] [] [] 2 hF rfl rfl rfl ent23 rfl rfl rfl rfl rfl (Flaws_toTimes_gives k  a1 r5 hr5) rfl ?_
        refine L.nil ?_
        exact A.on (hO _ _ _ n271) (Le.mk [(0, 0), (1, 1)] hm rfl ⟨⟨_, rfl, rfl⟩, ⟨_, rfl, rfl⟩, ⟨_, rfl, rfl⟩, ⟨_, rfl, rfl⟩, ⟨_, rfl, rfl⟩, trivial⟩ trivial ⟨⟨_, _, rfl, rfl, rfl⟩, ⟨_, _, rfl, rfl, rfl⟩, trivial⟩)
    have n15 : W 7 #[true, true, true, true, false, false, false, false, false, false, false] (mkSt [(5, one (Cell.ptr 0 0)), (6, one (cL r3.2)), (19, agg [cI r4.Auth, cI r4.Start, cI r4.End, cI r4.Renew]), (21, agg [cI r5.Auth, cI r5.Start, cI r5.End, cI r5.Renew])] [] [(0, [cI r3.1.Auth, cI r3.1.Start, cI r3.1.End, cI r3.1.Renew])] 1) := by
      refine hI _ _ _ ?_
      refine A.all [4, 8] (by kernel_rfl) rfl ⟨⟨_, rfl, ?_⟩, ⟨_, rfl, ?_⟩, trivial⟩
      · refine L.call [false, false] [] [] 1 hF rfl rfl rfl ent31 rfl rfl rfl rfl rfl (Fimpl_Inside_gives k  r4 r5 r6 hr6) rfl ?_
        refine L.nil ?_
        exact A.on (hO _ _ _ n31) (Le.mk [(0, 0)] hm rfl ⟨⟨_, rfl, rfl⟩, ⟨_, rfl, rfl⟩, ⟨_, rfl, rfl⟩, trivial⟩ trivial ⟨⟨_, _, rfl, rfl, rfl⟩, trivial⟩)
      · refine L.alloc 1 info25 rfl hF rfl rfl rfl rfl ?_
        refine L.nil ?_
        exact A.on (hO _ _ _ n271) (Le.mk [(0, 0), (1, 1)] hm rfl ⟨⟨_, rfl, rfl⟩, ⟨_, rfl, rfl⟩, ⟨_, rfl, rfl⟩, ⟨_, rfl, rfl⟩, ⟨_, rfl, rfl⟩, trivial⟩ trivial ⟨⟨_, _, rfl, rfl, rfl⟩, ⟨_, _, rfl, rfl, rfl⟩, trivial⟩)
    have n261 : W 8 #[true, false, true, false, false, false, false, false, true, false, false] (mkSt [(5, one (Cell.ptr 0 0)), (6, one (cL r3.2)), (7, one (Cell.ptr 1 0)), (18, agg [cI a0.Auth, cI a0.Start, cI a0.End, cI a0.Renew]), (20, agg [cI a1.Auth, cI a1.Start, cI a1.End, cI a1.Renew])] [] [(0, [cI r3.1.Auth, cI r3.1.Start, cI r3.1.End, cI r3.1.Renew]), (1, [cI (0 : Int), cI (0 : Int), cI (0 : Int), cI (0 : Int)])] 2) := by
      refine hI _ _ _ ?_
      refine A.all [1] (by kernel_rfl) rfl ⟨⟨_, rfl, ?_⟩, trivial⟩
      · refine L.call [false] [] [] 2 hF rfl rfl rfl ent23 rfl rfl rfl rfl rfl (Flaws_toTimes_gives k  a0 r4 hr4) rfl ?_
        refine L.nil ?_
        exact A.on (hO _ _ _ n263) (Le.mk [(0, 0), (1, 1)] hm rfl ⟨⟨_, rfl, rfl⟩, ⟨_, rfl, rfl⟩, ⟨_, rfl, rfl⟩, ⟨_, rfl, rfl⟩, ⟨_, rfl, rfl⟩, trivial⟩ trivial ⟨⟨_, _, rfl, rfl, rfl⟩, ⟨_, _, rfl, rfl, rfl⟩, trivial⟩)
    have n259 : W 8 #[true, true, false, false, false, false, false, false, true, false, false] (mkSt [(3, one (Cell.ptr 0 0)), (5, one (Cell.ptr 1 0)), (6, one (cL r3.2)), (7, one (Cell.ptr 2 0)), (19, agg [cI r4.Auth, cI r4.Start, cI r4.End, cI r4.Renew])] [] [(0, [cI a1.Auth, cI a1.Start, cI a1.End, cI a1.Renew]), (1, [cI r3.1.Auth, cI r3.1.Start, cI r3.1.End, cI r3.1.Renew]), (2, [cI (0 : Int), cI (0 : Int), cI (0 : Int), cI (0 : Int)])] 3) := by
      refine hI _ _ _ ?_
      refine A.all [2] (by kernel_rfl) rfl ⟨⟨_, rfl, ?_⟩, trivial⟩
      · refine L.loadPtr shape23 hF rfl rfl rfl rfl rfl rfl ?_
        refine L.nil ?_
        exact A.on (hO _ _ _ n263) (Le.mk [(0, 1), (1, 2)] hm rfl ⟨⟨_, rfl, rfl⟩, ⟨_, rfl, rfl⟩, ⟨_, rfl, rfl⟩, ⟨_, rfl, rfl⟩, ⟨_, rfl, rfl⟩, trivial⟩ trivial ⟨⟨_, _, rfl, rfl, rfl⟩, ⟨_, _, rfl, rfl, rfl⟩, trivial⟩)
    have n7 : W 8 #[true, true, true, false, false, false, false, false, false, false, false] (mkSt [(5, one (Cell.ptr 0 0)), (6, one (cL r3.2)), (19, agg [cI r4.Auth, cI r4.Start, cI r4.End, cI r4.Renew]), (20, agg [cI a1.Auth, cI a1.Start, cI a1.End, cI a1.Renew])] [] [(0, [cI r3.1.Auth, cI r3.1.Start, cI r3.1.End, cI r3.1.Renew])] 1) := by
      refine hI _ _ _ ?_
      refine A.all [3, 8] (by kernel_rfl) rfl ⟨⟨_, rfl, ?_⟩, ⟨_, rfl, ?_⟩, trivial⟩
      · refine L.call [false] [] [] 1 hF rfl rfl rfl ent23 rfl rfl rfl rfl rfl (Flaws_toTimes_gives k  a1 r5 hr5) rfl ?_
        refine L.nil ?_
        exact A.on (hO _ _ _ n15) (Le.mk [(0, 0)] hm rfl ⟨⟨_, rfl, rfl⟩, ⟨_, rfl, rfl⟩, ⟨_, rfl, rfl⟩, ⟨_, rfl, rfl⟩, trivial⟩ trivial ⟨⟨_, _, rfl, rfl, rfl⟩, trivial⟩)
      · refine L.alloc 1 info25 rfl hF rfl rfl rfl rfl ?_
        refine L.nil ?_
        exact A.on (hO _ _ _ n263) (Le.mk [(0, 0), (1, 1)] hm rfl ⟨⟨_, rfl, rfl⟩, ⟨_, rfl, rfl⟩, ⟨_, rfl, rfl⟩, ⟨_, rfl, rfl⟩, ⟨_, rfl, rfl⟩, trivial⟩ trivial ⟨⟨_, _, rfl, rfl, rfl⟩, ⟨_, _, rfl, rfl, rfl⟩, trivial⟩)
    have n257 : W 9 #[true, false, false, false, false, false, false, false, true, false, false] (mkSt [(3, one (Cell.ptr 0 0)), (5, one (Cell.ptr 1 0)), (6, one (cL r3.2)), (7, one (Cell.ptr 2 0)), (18, agg [cI a0.Auth, cI a0.Start, cI a0.End, cI a0.Renew])] [] [(0, [cI a1.Auth, cI a1.Start, cI a1.End, cI a1.Renew]), (1, [cI r3.1.Auth, cI r3.1.Start, cI r3.1.End, cI r3.1.Renew]), (2, [cI (0 : Int), cI (0 : Int), cI (0 : Int), cI (0 : Int)])] 3) := by
      refine hI _ _ _ ?_
      refine A.all [1, 2] (by kernel_rfl) rfl ⟨⟨_, rfl, ?_⟩, ⟨_, rfl, ?_⟩, trivial⟩
      · refine L.call [false] [] [] 3 hF rfl rfl rfl ent23 rfl rfl rfl rfl rfl (Flaws_toTimes_gives k  a0 r4 hr4) rfl ?_
        refine L.nil ?_
        exact A.on (hO _ _ _ n259) (Le.mk [(0, 0), (1, 1), (2, 2)] hm rfl ⟨⟨_, rfl, rfl⟩, ⟨_, rfl, rfl⟩, ⟨_, rfl, rfl⟩, ⟨_, rfl, rfl⟩, ⟨_, rfl, rfl⟩, trivial⟩ trivial ⟨⟨_, _, rfl, rfl, rfl⟩, ⟨_, _, rfl, rfl, rfl⟩, ⟨_, _, rfl, rfl, rfl⟩, trivial⟩)
      · refine L.loadPtr shape23 hF rfl rfl rfl rfl rfl rfl ?_
        refine L.nil ?_
        exact A.on (hO _ _ _ n261) (Le.mk [(0, 1), (1, 2)] hm rfl ⟨⟨_, rfl, rfl⟩, ⟨_, rfl, rfl⟩, ⟨_, rfl, rfl⟩, ⟨_, rfl, rfl⟩, ⟨_, rfl, rfl⟩, trivial⟩ trivial ⟨⟨_, _, rfl, rfl, rfl⟩, ⟨_, _, rfl, rfl, rfl⟩, trivial⟩)
    have n260 : W 9 #[false, false, true, false, false, false, false, false, true, false, false] (mkSt [(2, one (Cell.ptr 0 0)), (5, one (Cell.ptr 1 0)), (6, one (cL r3.2)), (7, one (Cell.ptr 2 0)), (20, agg [cI a1.Auth, cI a1.Start, cI a1.End, cI a1.Renew])] [] [(0, [cI a0.Auth, cI a0.Start, cI a0.End, cI a0.Renew]), (1, [cI r3.1.Auth, cI r3.1.Start, cI r3.1.End, cI r3.1.Renew]), (2, [cI (0 : Int), cI (0 : Int), cI (0 : Int), cI (0 : Int)])] 3) := by
      refine hI _ _ _ ?_
      refine A.all [0] (by kernel_rfl) rfl ⟨⟨_, rfl, ?_⟩, trivial⟩
      · refine L.loadPtr shape23 hF rfl rfl rfl rfl rfl rfl ?_
        refine L.nil ?_
        exact A.on (hO _ _ _ n261) (Le.mk [(0, 1), (1, 2)] hm rfl ⟨⟨_, rfl, rfl⟩, ⟨_, rfl, rfl⟩, ⟨_, rfl, rfl⟩, ⟨_, rfl, rfl⟩, ⟨_, rfl, rfl⟩, trivial⟩ trivial ⟨⟨_, _, rfl, rfl, rfl⟩, ⟨_, _, rfl, rfl, rfl⟩, trivial⟩)
    have n5 : W 9 #[true, false, true, false, false, false, false, false, false, false, false] (mkSt [(5, one (Cell.ptr 0 0)), (6, one (cL r3.2)), (18, agg [cI a0.Auth, cI a0.Start, cI a0.End, cI a0.Renew]), (20, agg [cI a1.Auth, cI a1.Start, cI a1.End, cI a1.Renew])] [] [(0, [cI r3.1.Auth, cI r3.1.Start, cI r3.1.End, cI r3.1.Renew])] 1) := by
      refine hI _ _ _ ?_
      refine A.all [1, 8] (by kernel_rfl) rfl ⟨⟨_, rfl, ?_⟩, ⟨_, rfl, ?_⟩, trivial⟩
      · refine L.call [false] [] [] 1 hF rfl rfl rfl ent23 rfl rfl rfl rfl rfl (Flaws_toTimes_gives k  a0 r4 hr4) rfl ?_
        refine L.nil ?_
        exact A.on (hO _ _ _ n7) (Le.mk [(0, 0)] hm rfl ⟨⟨_, rfl, rfl⟩, ⟨_, rfl, rfl⟩, ⟨_, rfl, rfl⟩, ⟨_, rfl, rfl⟩, trivial⟩ trivial ⟨⟨_, _, rfl, rfl, rfl⟩, trivial⟩)
      · refine L.alloc 1 info25 rfl hF rfl rfl rfl rfl ?_
        refine L.nil ?_
        exact A.on (hO _ _ _ n261) (Le.mk [(0, 0), (1, 1)] hm rfl ⟨⟨_, rfl, rfl⟩, ⟨_, rfl, rfl⟩, ⟨_, rfl, rfl⟩, ⟨_, rfl, rfl⟩, ⟨_, rfl, rfl⟩, trivial⟩ trivial ⟨⟨_, _, rfl, rfl, rfl⟩, ⟨_, _, rfl, rfl, rfl⟩, trivial⟩)
    have n3 : W 9 #[true, true, false, false, false, false, false, false, false, false, false] (mkSt [(3, one (Cell.ptr 0 0)), (5, one (Cell.ptr 1 0)), (6, one (cL r3.2)), (19, agg [cI r4.Auth, cI r4.Start, cI r4.End, cI r4.Renew])] [] [(0, [cI a1.Auth, cI a1.Start, cI a1.End, cI a1.Renew]), (1, [cI r3.1.Auth, cI r3.1.Start, cI r3.1.End, cI r3.1.Renew])] 2) := by
      refine hI _ _ _ ?_
      refine A.all [2, 8] (by kernel_rfl) rfl ⟨⟨_, rfl, ?_⟩, ⟨_, rfl, ?_⟩, trivial⟩
      · refine L.loadPtr shape23 hF rfl rfl rfl rfl rfl rfl ?_
        refine L.nil ?_
        exact A.on (hO _ _ _ n7) (Le.mk [(0, 1)] hm rfl ⟨⟨_, rfl, rfl⟩, ⟨_, rfl, rfl⟩, ⟨_, rfl, rfl⟩, ⟨_, rfl, rfl⟩, trivial⟩ trivial ⟨⟨_, _, rfl, rfl, rfl⟩, trivial⟩)
      · refine L.alloc 2 info25 rfl hF rfl rfl rfl rfl ?_
        refine L.nil ?_
        exact A.on (hO _ _ _ n259) (Le.mk [(0, 0), (1, 1), (2, 2)] hm rfl ⟨⟨_, rfl, rfl⟩, ⟨_, rfl, rfl⟩, ⟨_, rfl, rfl⟩, ⟨_, rfl, rfl⟩, ⟨_, rfl, rfl⟩, trivial⟩ trivial ⟨⟨_, _, rfl, rfl, rfl⟩, ⟨_, _, rfl, rfl, rfl⟩, ⟨_, _, rfl, rfl, rfl⟩, trivial⟩)
    have n1 : W 10 #[true, false, false, false, false, false, false, false, false, false, false] (mkSt [(3, one (Cell.ptr 0 0)), (5, one (Cell.ptr 1 0)), (6, one (cL r3.2)), (18, agg [cI a0.Auth, cI a0.Start, cI a0.End, cI a0.Renew])] [] [(0, [cI a1.Auth, cI a1.Start, cI a1.End, cI a1.Renew]), (1, [cI r3.1.Auth, cI r3.1.Start, cI r3.1.End, cI r3.1.Renew])] 2) := by
      refine hI _ _ _ ?_
      refine A.all [1, 2, 8] (by kernel_rfl) rfl ⟨⟨_, rfl, ?_⟩, ⟨_, rfl, ?_⟩, ⟨_, rfl, ?_⟩, trivial⟩
      · refine L.call [false] [] [] 2 hF rfl rfl rfl ent23 rfl rfl rfl rfl rfl (Flaws_toTimes_gives k  a0 r4 hr4) rfl ?_
        refine L.nil ?_
        exact A.on (hO _ _ _ n3) (Le.mk [(0, 0), (1, 1)] hm rfl ⟨⟨_, rfl, rfl⟩, ⟨_, rfl, rfl⟩, ⟨_, rfl, rfl⟩, ⟨_, rfl, rfl⟩, trivial⟩ trivial ⟨⟨_, _, rfl, rfl, rfl⟩, ⟨_, _, rfl, rfl, rfl⟩, trivial⟩)
      · refine L.loadPtr shape23 hF rfl rfl rfl rfl rfl rfl ?_
        refine L.nil ?_
        exact A.on (hO _ _ _ n5) (Le.mk [(0, 1)] hm rfl ⟨⟨_, rfl, rfl⟩, ⟨_, rfl, rfl⟩, ⟨_, rfl, rfl⟩, ⟨_, rfl, rfl⟩, trivial⟩ trivial ⟨⟨_, _, rfl, rfl, rfl⟩, trivial⟩)
      · refine L.alloc 2 info25 rfl hF rfl rfl rfl rfl ?_
        refine L.nil ?_
        exact A.on (hO _ _ _ n257) (Le.mk [(0, 0), (1, 1), (2, 2)] hm rfl ⟨⟨_, rfl, rfl⟩, ⟨_, rfl, rfl⟩, ⟨_, rfl, rfl⟩, ⟨_, rfl, rfl⟩, ⟨_, rfl, rfl⟩, trivial⟩ trivial ⟨⟨_, _, rfl, rfl, rfl⟩, ⟨_, _, rfl, rfl, rfl⟩, ⟨_, _, rfl, rfl, rfl⟩, trivial⟩)
    have n256 : W 10 #[false, false, false, false, false, false, false, false, true, false, false] (mkSt [(2, one (Cell.ptr 0 0)), (3, one (Cell.ptr 1 0)), (5, one (Cell.ptr 2 0)), (6, one (cL r3.2)), (7, one (Cell.ptr 3 0))] [] [(0, [cI a0.Auth, cI a0.Start, cI a0.End, cI a0.Renew]), (1, [cI a1.Auth, cI a1.Start, cI a1.End, cI a1.Renew]), (2, [cI r3.1.Auth, cI r3.1.Start, cI r3.1.End, cI r3.1.Renew]), (3, [cI (0 : Int), cI (0 : Int), cI (0 : Int), cI (0 : Int)])] 4) := by
      refine hI _ _ _ ?_
      refine A.all [0, 2] (by kernel_rfl) rfl ⟨⟨_, rfl, ?_⟩, ⟨_, rfl, ?_⟩, trivial⟩
      · refine L.loadPtr shape23 hF rfl rfl rfl rfl rfl rfl ?_
        refine L.nil ?_
        exact A.on (hO _ _ _ n257) (Le.mk [(0, 1), (1, 2), (2, 3)] hm rfl ⟨⟨_, rfl, rfl⟩, ⟨_, rfl, rfl⟩, ⟨_, rfl, rfl⟩, ⟨_, rfl, rfl⟩, ⟨_, rfl, rfl⟩, trivial⟩ trivial ⟨⟨_, _, rfl, rfl, rfl⟩, ⟨_, _, rfl, rfl, rfl⟩, ⟨_, _, rfl, rfl, rfl⟩, trivial⟩)
      · refine L.loadPtr shape23 hF rfl rfl rfl rfl rfl rfl ?_
        refine L.nil ?_
        exact A.on (hO _ _ _ n260) (Le.mk [(0, 0), (1, 2), (2, 3)] hm rfl ⟨⟨_, rfl, rfl⟩, ⟨_, rfl, rfl⟩, ⟨_, rfl, rfl⟩, ⟨_, rfl, rfl⟩, ⟨_, rfl, rfl⟩, trivial⟩ trivial ⟨⟨_, _, rfl, rfl, rfl⟩, ⟨_, _, rfl, rfl, rfl⟩, ⟨_, _, rfl, rfl, rfl⟩, trivial⟩)
    have n4 : W 10 #[false, false, true, false, false, false, false, false, false, false, false] (mkSt [(2, one (Cell.ptr 0 0)), (5, one (Cell.ptr 1 0)), (6, one (cL r3.2)), (20, agg [cI a1.Auth, cI a1.Start, cI a1.End, cI a1.Renew])] [] [(0, [cI a0.Auth, cI a0.Start, cI a0.End, cI a0.Renew]), (1, [cI r3.1.Auth, cI r3.1.Start, cI r3.1.End, cI r3.1.Renew])] 2) := by
      refine hI _ _ _ ?_
      refine A.all [0, 8] (by kernel_rfl) rfl ⟨⟨_, rfl, ?_⟩, ⟨_, rfl, ?_⟩, trivial⟩
      · refine L.loadPtr shape23 hF rfl rfl rfl rfl rfl rfl ?_
        refine L.nil ?_
        exact A.on (hO _ _ _ n5) (Le.mk [(0, 1)] hm rfl ⟨⟨_, rfl, rfl⟩, ⟨_, rfl, rfl⟩, ⟨_, rfl, rfl⟩, ⟨_, rfl, rfl⟩, trivial⟩ trivial ⟨⟨_, _, rfl, rfl, rfl⟩, trivial⟩)
      · refine L.alloc 2 info25 rfl hF rfl rfl rfl rfl ?_
        refine L.nil ?_
        exact A.on (hO _ _ _ n260) (Le.mk [(0, 0), (1, 1), (2, 2)] hm rfl ⟨⟨_, rfl, rfl⟩, ⟨_, rfl, rfl⟩, ⟨_, rfl, rfl⟩, ⟨_, rfl, rfl⟩, ⟨_, rfl, rfl⟩, trivial⟩ trivial ⟨⟨_, _, rfl, rfl, rfl⟩, ⟨_, _, rfl, rfl, rfl⟩, ⟨_, _, rfl, rfl, rfl⟩, trivial⟩)
    have n0 : W 11 #[false, false, false, false, false, false, false, false, false, false, false] (mkSt [(2, one (Cell.ptr 0 0)), (3, one (Cell.ptr 1 0)), (5, one (Cell.ptr 2 0)), (6, one (cL r3.2))] [] [(0, [cI a0.Auth, cI a0.Start, cI a0.End, cI a0.Renew]), (1, [cI a1.Auth, cI a1.Start, cI a1.End, cI a1.Renew]), (2, [cI r3.1.Auth, cI r3.1.Start, cI r3.1.End, cI r3.1.Renew])] 3) := by
      refine hI _ _ _ ?_
      refine A.all [0, 2, 8] (by kernel_rfl) rfl ⟨⟨_, rfl, ?_⟩, ⟨_, rfl, ?_⟩, ⟨_, rfl, ?_⟩, trivial⟩
      · refine L.loadPtr shape23 hF rfl rfl rfl rfl rfl rfl ?_
        refine L.nil ?_
        exact A.on (hO _ _ _ n1) (Le.mk [(0, 1), (1, 2)] hm rfl ⟨⟨_, rfl, rfl⟩, ⟨_, rfl, rfl⟩, ⟨_, rfl, rfl⟩, ⟨_, rfl, rfl⟩, trivial⟩ trivial ⟨⟨_, _, rfl, rfl, rfl⟩, ⟨_, _, rfl, rfl, rfl⟩, trivial⟩)
      · refine L.loadPtr shape23 hF rfl rfl rfl rfl rfl rfl ?_
        refine L.nil ?_
        exact A.on (hO _ _ _ n4) (Le.mk [(0, 0), (1, 2)] hm rfl ⟨⟨_, rfl, rfl⟩, ⟨_, rfl, rfl⟩, ⟨_, rfl, rfl⟩, ⟨_, rfl, rfl⟩, trivial⟩ trivial ⟨⟨_, _, rfl, rfl, rfl⟩, ⟨_, _, rfl, rfl, rfl⟩, trivial⟩)
      · refine L.alloc 3 info25 rfl hF rfl rfl rfl rfl ?_
        refine L.nil ?_
        exact A.on (hO _ _ _ n256) (Le.mk [(0, 0), (1, 1), (2, 2), (3, 3)] hm rfl ⟨⟨_, rfl, rfl⟩, ⟨_, rfl, rfl⟩, ⟨_, rfl, rfl⟩, ⟨_, rfl, rfl⟩, ⟨_, rfl, rfl⟩, trivial⟩ trivial ⟨⟨_, _, rfl, rfl, rfl⟩, ⟨_, _, rfl, rfl, rfl⟩, ⟨_, _, rfl, rfl, rfl⟩, ⟨_, _, rfl, rfl, rfl⟩, trivial⟩)
    exact hI _ _ _ (A.on (hO _ _ _ n0) (Le.mk [(0, 0), (1, 1), (2, 2)] hm rfl ⟨⟨_, rfl, rfl⟩, ⟨_, rfl, rfl⟩, ⟨_, rfl, rfl⟩, ⟨_, rfl, rfl⟩, trivial⟩ trivial ⟨⟨_, _, rfl, rfl, rfl⟩, ⟨_, _, rfl, rfl, rfl⟩, ⟨_, _, rfl, rfl, rfl⟩, trivial⟩))
  have n1023 : W 1 #[true, true, true, true, true, true, true, true, true, true, false] (mkSt [(2, one (Cell.ptr 0 0)), (3, one (Cell.ptr 1 0)), (5, one (Cell.ptr 2 0)), (16, one (cL r3.2))] [] [(0, [cI a0.Auth, cI a0.Start, cI a0.End, cI a0.Renew]), (1, [cI a1.Auth, cI a1.Start, cI a1.End, cI a1.Renew]), (2, [cI r3.1.Auth, cI r3.1.Start, cI r3.1.End, cI r3.1.Renew])] 3) := by
    refine hI _ _ _ ?_
    refine A.take 10 rfl (by kernel_rfl) (by kernel_rfl) (by kernel_rfl) rfl (Ca.assign) (fun Q0 k0 => L.assign hF rfl rfl rfl (L.nil k0)) ?_
    exact A.on (hO _ _ _ n2047) (Le.mk [(0, 0), (1, 1), (2, 2)] hm rfl ⟨⟨_, rfl, rfl⟩, ⟨_, rfl, rfl⟩, ⟨_, rfl, rfl⟩, ⟨_, rfl, rfl⟩, trivial⟩ trivial ⟨⟨_, _, rfl, rfl, rfl⟩, ⟨_, _, rfl, rfl, rfl⟩, ⟨_, _, rfl, rfl, rfl⟩, trivial⟩)
  have n511 : W 2 #[true, true, true, true, true, true, true, true, true, false, false] (mkSt [(2, one (Cell.ptr 0 0)), (3, one (Cell.ptr 1 0)), (5, one (Cell.ptr 2 0)), (15, agg [cI r3.1.Auth, cI r3.1.Start, cI r3.1.End, cI r3.1.Renew]), (16, one (cL r3.2))] [] [(0, [cI a0.Auth, cI a0.Start, cI a0.End, cI a0.Renew]), (1, [cI a1.Auth, cI a1.Start, cI a1.End, cI a1.Renew]), (2, [cI (0 : Int), cI (0 : Int), cI (0 : Int), cI (0 : Int)])] 3) := by
    refine hI _ _ _ ?_
    refine A.all [9] (by kernel_rfl) rfl ⟨⟨_, rfl, ?_⟩, trivial⟩
    · refine L.storePtr shape25 hF rfl rfl rfl rfl rfl rfl rfl ?_
      refine L.nil ?_
      exact A.on (hO _ _ _ n1023) (Le.mk [(0, 0), (1, 1), (2, 2)] hm rfl ⟨⟨_, rfl, rfl⟩, ⟨_, rfl, rfl⟩, ⟨_, rfl, rfl⟩, ⟨_, rfl, rfl⟩, trivial⟩ trivial ⟨⟨_, _, rfl, rfl, rfl⟩, ⟨_, _, rfl, rfl, rfl⟩, ⟨_, _, rfl, rfl, rfl⟩, trivial⟩)
  have n255 : W 3 #[true, true, true, true, true, true, true, true, false, false, false] (mkSt [(2, one (Cell.ptr 0 0)), (3, one (Cell.ptr 1 0)), (15, agg [cI r3.1.Auth, cI r3.1.Start, cI r3.1.End, cI r3.1.Renew]), (16, one (cL r3.2))] [] [(0, [cI a0.Auth, cI a0.Start, cI a0.End, cI a0.Renew]), (1, [cI a1.Auth, cI a1.Start, cI a1.End, cI a1.Renew])] 2) := by
    refine hI _ _ _ ?_
    refine A.all [8] (by kernel_rfl) rfl ⟨⟨_, rfl, ?_⟩, trivial⟩
    · refine L.alloc 2 info25 rfl hF rfl rfl rfl rfl ?_
      refine L.nil ?_
      exact A.on (hO _ _ _ n511) (Le.mk [(0, 0), (1, 1), (2, 2)] hm rfl ⟨⟨_, rfl, rfl⟩, ⟨_, rfl, rfl⟩, ⟨_, rfl, rfl⟩, ⟨_, rfl, rfl⟩, ⟨_, rfl, rfl⟩, trivial⟩ trivial ⟨⟨_, _, rfl, rfl, rfl⟩, ⟨_, _, rfl, rfl, rfl⟩, ⟨_, _, rfl, rfl, rfl⟩, trivial⟩)
  have n383 : W 3 #[true, true, true, true, true, true, true, false, true, false, false] (mkSt [(2, one (Cell.ptr 0 0)), (3, one (Cell.ptr 1 0)), (5, one (Cell.ptr 2 0)), (9, Slot.tup [V.agg [cI r3.1.Auth, cI r3.1.Start, cI r3.1.End, cI r3.1.Renew], V.one (cL r3.2)]), (15, agg [cI r3.1.Auth, cI r3.1.Start, cI r3.1.End, cI r3.1.Renew])] [] [(0, [cI a0.Auth, cI a0.Start, cI a0.End, cI a0.Renew]), (1, [cI a1.Auth, cI a1.Start, cI a1.End, cI a1.Renew]), (2, [cI (0 : Int), cI (0 : Int), cI (0 : Int), cI (0 : Int)])] 3) := by
    refine hI _ _ _ ?_
    refine A.take 7 rfl (by kernel_rfl) (by kernel_rfl) (by kernel_rfl) rfl (Ca.extract) (fun Q0 k0 => L.extract hF rfl rfl rfl rfl (L.nil k0)) ?_
    exact A.on (hO _ _ _ n511) (Le.mk [(0, 0), (1, 1), (2, 2)] hm rfl ⟨⟨_, rfl, rfl⟩, ⟨_, rfl, rfl⟩, ⟨_, rfl, rfl⟩, ⟨_, rfl, rfl⟩, ⟨_, rfl, rfl⟩, trivial⟩ trivial ⟨⟨_, _, rfl, rfl, rfl⟩, ⟨_, _, rfl, rfl, rfl⟩, ⟨_, _, rfl, rfl, rfl⟩, trivial⟩)
  have n319 : W 4 #[true, true, true, true, true, true, false, false, true, false, false] (mkSt [(2, one (Cell.ptr 0 0)), (3, one (Cell.ptr 1 0)), (5, one (Cell.ptr 2 0)), (9, Slot.tup [V.agg [cI r3.1.Auth, cI r3.1.Start, cI r3.1.End, cI r3.1.Renew], V.one (cL r3.2)])] [] [(0, [cI a0.Auth, cI a0.Start, cI a0.End, cI a0.Renew]), (1, [cI a1.Auth, cI a1.Start, cI a1.End, cI a1.Renew]), (2, [cI (0 : Int), cI (0 : Int), cI (0 : Int), cI (0 : Int)])] 3) := by
    refine hI _ _ _ ?_
    refine A.take 6 rfl (by kernel_rfl) (by kernel_rfl) (by kernel_rfl) rfl (Ca.extract) (fun Q0 k0 => L.extract hF rfl rfl rfl rfl (L.nil k0)) ?_
    exact A.on (hO _ _ _ n383) (Le.mk [(0, 0), (1, 1), (2, 2)] hm rfl ⟨⟨_, rfl, rfl⟩, ⟨_, rfl, rfl⟩, ⟨_, rfl, rfl⟩, ⟨_, rfl, rfl⟩, ⟨_, rfl, rfl⟩, trivial⟩ trivial ⟨⟨_, _, rfl, rfl, rfl⟩, ⟨_, _, rfl, rfl, rfl⟩, ⟨_, _, rfl, rfl, rfl⟩, trivial⟩)
  have n127 : W 4 #[true, true, true, true, true, true, true, false, false, false, false] (mkSt [(2, one (Cell.ptr 0 0)), (3, one (Cell.ptr 1 0)), (9, Slot.tup [V.agg [cI r3.1.Auth, cI r3.1.Start, cI r3.1.End, cI r3.1.Renew], V.one (cL r3.2)]), (15, agg [cI r3.1.Auth, cI r3.1.Start, cI r3.1.End, cI r3.1.Renew])] [] [(0, [cI a0.Auth, cI a0.Start, cI a0.End, cI a0.Renew]), (1, [cI a1.Auth, cI a1.Start, cI a1.End, cI a1.Renew])] 2) := by
    refine hI _ _ _ ?_
    refine A.take 7 rfl (by kernel_rfl) (by kernel_rfl) (by kernel_rfl) rfl (Ca.extract) (fun Q0 k0 => L.extract hF rfl rfl rfl rfl (L.nil k0)) ?_
    exact A.on (hO _ _ _ n255) (Le.mk [(0, 0), (1, 1)] hm rfl ⟨⟨_, rfl, rfl⟩, ⟨_, rfl, rfl⟩, ⟨_, rfl, rfl⟩, ⟨_, rfl, rfl⟩, trivial⟩ trivial ⟨⟨_, _, rfl, rfl, rfl⟩, ⟨_, _, rfl, rfl, rfl⟩, trivial⟩)
  have n287 : W 5 #[true, true, true, true, true, false, false, false, true, false, false] (mkSt [(2, one (Cell.ptr 0 0)), (3, one (Cell.ptr 1 0)), (5, one (Cell.ptr 2 0)), (14, Slot.tup [V.agg [cI r3.1.Auth, cI r3.1.Start, cI r3.1.End, cI r3.1.Renew], V.one (cL r3.2)])] [] [(0, [cI a0.Auth, cI a0.Start, cI a0.End, cI a0.Renew]), (1, [cI a1.Auth, cI a1.Start, cI a1.End, cI a1.Renew]), (2, [cI (0 : Int), cI (0 : Int), cI (0 : Int), cI (0 : Int)])] 3) := by
    refine hI _ _ _ ?_
    refine A.take 5 rfl (by kernel_rfl) (by kernel_rfl) (by kernel_rfl) rfl (Ca.move) (fun Q0 k0 => L.move hF rfl rfl rfl (L.nil k0)) ?_
    exact A.on (hO _ _ _ n319) (Le.mk [(0, 0), (1, 1), (2, 2)] hm rfl ⟨⟨_, rfl, rfl⟩, ⟨_, rfl, rfl⟩, ⟨_, rfl, rfl⟩, ⟨_, rfl, rfl⟩, trivial⟩ trivial ⟨⟨_, _, rfl, rfl, rfl⟩, ⟨_, _, rfl, rfl, rfl⟩, ⟨_, _, rfl, rfl, rfl⟩, trivial⟩)
  have n63 : W 5 #[true, true, true, true, true, true, false, false, false, false, false] (mkSt [(2, one (Cell.ptr 0 0)), (3, one (Cell.ptr 1 0)), (9, Slot.tup [V.agg [cI r3.1.Auth, cI r3.1.Start, cI r3.1.End, cI r3.1.Renew], V.one (cL r3.2)])] [] [(0, [cI a0.Auth, cI a0.Start, cI a0.End, cI a0.Renew]), (1, [cI a1.Auth, cI a1.Start, cI a1.End, cI a1.Renew])] 2) := by
    refine hI _ _ _ ?_
    refine A.take 6 rfl (by kernel_rfl) (by kernel_rfl) (by kernel_rfl) rfl (Ca.extract) (fun Q0 k0 => L.extract hF rfl rfl rfl rfl (L.nil k0)) ?_
    exact A.on (hO _ _ _ n127) (Le.mk [(0, 0), (1, 1)] hm rfl ⟨⟨_, rfl, rfl⟩, ⟨_, rfl, rfl⟩, ⟨_, rfl, rfl⟩, ⟨_, rfl, rfl⟩, trivial⟩ trivial ⟨⟨_, _, rfl, rfl, rfl⟩, ⟨_, _, rfl, rfl, rfl⟩, trivial⟩)
  have n271 : W 6 #[true, true, true, true, false, false, false, false, true, false, false] (mkSt [(2, one (Cell.ptr 0 0)), (3, one (Cell.ptr 1 0)), (5, one (Cell.ptr 2 0)), (11, agg [cI r1.Auth, cI r1.Start, cI r1.End, cI r1.Renew]), (13, agg [cI r2.Auth, cI r2.Start, cI r2.End, cI r2.Renew])] [] [(0, [cI a0.Auth, cI a0.Start, cI a0.End, cI a0.Renew]), (1, [cI a1.Auth, cI a1.Start, cI a1.End, cI a1.Renew]), (2, [cI (0 : Int), cI (0 : Int), cI (0 : Int), cI (0 : Int)])] 3) := by
    refine hI _ _ _ ?_
    refine A.all [4] (by kernel_rfl) rfl ⟨⟨_, rfl, ?_⟩, trivial⟩
    · refine L.call [false, false] [] [] 3 hF rfl rfl rfl ent30 rfl rfl rfl rfl rfl (Fspec_Inside_gives k  r1 r2 r3 hr3) rfl ?_
      refine L.nil ?_
      exact A.on (hO _ _ _ n287) (Le.mk [(0, 0), (1, 1), (2, 2)] hm rfl ⟨⟨_, rfl, rfl⟩, ⟨_, rfl, rfl⟩, ⟨_, rfl, rfl⟩, ⟨_, rfl, rfl⟩, trivial⟩ trivial ⟨⟨_, _, rfl, rfl, rfl⟩, ⟨_, _, rfl, rfl, rfl⟩, ⟨_, _, rfl, rfl, rfl⟩, trivial⟩)
  have n31 : W 6 #[true, true, true, true, true, false, false, false, false, false, false] (mkSt [(2, one (Cell.ptr 0 0)), (3, one (Cell.ptr 1 0)), (14, Slot.tup [V.agg [cI r3.1.Auth, cI r3.1.Start, cI r3.1.End, cI r3.1.Renew], V.one (cL r3.2)])] [] [(0, [cI a0.Auth, cI a0.Start, cI a0.End, cI a0.Renew]), (1, [cI a1.Auth, cI a1.Start, cI a1.End, cI a1.Renew])] 2) := by
    refine hI _ _ _ ?_
    refine A.take 5 rfl (by kernel_rfl) (by kernel_rfl) (by kernel_rfl) rfl (Ca.move) (fun Q0 k0 => L.move hF rfl rfl rfl (L.nil k0)) ?_
    exact A.on (hO _ _ _ n63) (Le.mk [(0, 0), (1, 1)] hm rfl ⟨⟨_, rfl, rfl⟩, ⟨_, rfl, rfl⟩, ⟨_, rfl, rfl⟩, trivial⟩ trivial ⟨⟨_, _, rfl, rfl, rfl⟩, ⟨_, _, rfl, rfl, rfl⟩, trivial⟩)
  have n263 : W 7 #[true, true, true, false, false, false, false, false, true, false, false] (mkSt [(2, one (Cell.ptr 0 0)), (3, one (Cell.ptr 1 0)), (5, one (Cell.ptr 2 0)), (11, agg [cI r1.Auth, cI r1.Start, cI r1.End, cI r1.Renew]), (12, agg [cI a1.Auth, cI a1.Start, cI a1.End, cI a1.Renew])] [] [(0, [cI a0.Auth, cI a0.Start, cI a0.End, cI a0.Renew]), (1, [cI a1.Auth, cI a1.Start, cI a1.End, cI a1.Renew]), (2, [cI (0 : Int), cI (0 : Int), cI (0 : Int), cI (0 : Int)])] 3) := by
    refine hI _ _ _ ?_
    refine A.all [3] (by kernel_rfl) rfl ⟨⟨_, rfl, ?_⟩, trivial⟩
    · refine L.call [false] [] [] 3 hF rfl rfl rfl ent23 rfl rfl rfl rfl rfl (Flaws_toTimes_gives k  a1 r2 hr2) rfl ?_
      refine L.nil ?_
      exact A.on (hO _ _ _ n271) (Le.mk [(0, 0), (1, 1), (2, 2)] hm rfl ⟨⟨_, rfl, rfl⟩, ⟨_, rfl, rfl⟩, ⟨_, rfl, rfl⟩, ⟨_, rfl, rfl⟩, ⟨_, rfl, rfl⟩, trivial⟩ trivial ⟨⟨_, _, rfl, rfl, rfl⟩, ⟨_, _, rfl, rfl, rfl⟩, ⟨_, _, rfl, rfl, rfl⟩, trivial⟩)
  have n15 : W 7 #[true, true, true, true, false, false, false, false, false, false, false] (mkSt [(2, one (Cell.ptr 0 0)), (3, one (Cell.ptr 1 0)), (11, agg [cI r1.Auth, cI r1.Start, cI r1.End, cI r1.Renew]), (13, agg [cI r2.Auth, cI r2.Start, cI r2.End, cI r2.Renew])] [] [(0, [cI a0.Auth, cI a0.Start, cI a0.End, cI a0.Renew]), (1, [cI a1.Auth, cI a1.Start, cI a1.End, cI a1.Renew])] 2) := by
    refine hI _ _ _ ?_
    refine A.all [4, 8] (by kernel_rfl) rfl ⟨⟨_, rfl, ?_⟩, ⟨_, rfl, ?_⟩, trivial⟩
    · refine L.call [false, false] [] [] 2 hF rfl rfl rfl ent30 rfl rfl rfl rfl rfl (Fspec_Inside_gives k  r1 r2 r3 hr3) rfl ?_
      refine L.nil ?_
      exact A.on (hO _ _ _ n31) (Le.mk [(0, 0), (1, 1)] hm rfl ⟨⟨_, rfl, rfl⟩, ⟨_, rfl, rfl⟩, ⟨_, rfl, rfl⟩, trivial⟩ trivial ⟨⟨_, _, rfl, rfl, rfl⟩, ⟨_, _, rfl, rfl, rfl⟩, trivial⟩)
    · refine L.alloc 2 info25 rfl hF rfl rfl rfl rfl ?_
      refine L.nil ?_
      exact A.on (hO _ _ _ n271) (Le.mk [(0, 0), (1, 1), (2, 2)] hm rfl ⟨⟨_, rfl, rfl⟩, ⟨_, rfl, rfl⟩, ⟨_, rfl, rfl⟩, ⟨_, rfl, rfl⟩, ⟨_, rfl, rfl⟩, trivial⟩ trivial ⟨⟨_, _, rfl, rfl, rfl⟩, ⟨_, _, rfl, rfl, rfl⟩, ⟨_, _, rfl, rfl, rfl⟩, trivial⟩)
  have n261 : W 8 #[true, false, true, false, false, false, false, false, true, false, false] (mkSt [(2, one (Cell.ptr 0 0)), (3, one (Cell.ptr 1 0)), (5, one (Cell.ptr 2 0)), (10, agg [cI a0.Auth, cI a0.Start, cI a0.End, cI a0.Renew]), (12, agg [cI a1.Auth, cI a1.Start, cI a1.End, cI a1.Renew])] [] [(0, [cI a0.Auth, cI a0.Start, cI a0.End, cI a0.Renew]), (1, [cI a1.Auth, cI a1.Start, cI a1.End, cI a1.Renew]), (2, [cI (0 : Int), cI (0 : Int), cI (0 : Int), cI (0 : Int)])] 3) := by
    refine hI _ _ _ ?_
    refine A.all [1] (by kernel_rfl) rfl ⟨⟨_, rfl, ?_⟩, trivial⟩
    · refine L.call [false] [] [] 3 hF rfl rfl rfl ent23 rfl rfl rfl rfl rfl (Flaws_toTimes_gives k  a0 r1 hr1) rfl ?_
      refine L.nil ?_
      exact A.on (hO _ _ _ n263) (Le.mk [(0, 0), (1, 1), (2, 2)] hm rfl ⟨⟨_, rfl, rfl⟩, ⟨_, rfl, rfl⟩, ⟨_, rfl, rfl⟩, ⟨_, rfl, rfl⟩, ⟨_, rfl, rfl⟩, trivial⟩ trivial ⟨⟨_, _, rfl, rfl, rfl⟩, ⟨_, _, rfl, rfl, rfl⟩, ⟨_, _, rfl, rfl, rfl⟩, trivial⟩)
  have n259 : W 8 #[true, true, false, false, false, false, false, false, true, false, false] (mkSt [(2, one (Cell.ptr 0 0)), (3, one (Cell.ptr 1 0)), (5, one (Cell.ptr 2 0)), (11, agg [cI r1.Auth, cI r1.Start, cI r1.End, cI r1.Renew])] [] [(0, [cI a0.Auth, cI a0.Start, cI a0.End, cI a0.Renew]), (1, [cI a1.Auth, cI a1.Start, cI a1.End, cI a1.Renew]), (2, [cI (0 : Int), cI (0 : Int), cI (0 : Int), cI (0 : Int)])] 3) := by
    refine hI _ _ _ ?_
    refine A.all [2] (by kernel_rfl) rfl ⟨⟨_, rfl, ?_⟩, trivial⟩
    · refine L.loadPtr shape23 hF rfl rfl rfl rfl rfl rfl ?_
      refine L.nil ?_
      exact A.on (hO _ _ _ n263) (Le.mk [(0, 0), (1, 1), (2, 2)] hm rfl ⟨⟨_, rfl, rfl⟩, ⟨_, rfl, rfl⟩, ⟨_, rfl, rfl⟩, ⟨_, rfl, rfl⟩, ⟨_, rfl, rfl⟩, trivial⟩ trivial ⟨⟨_, _, rfl, rfl, rfl⟩, ⟨_, _, rfl, rfl, rfl⟩, ⟨_, _, rfl, rfl, rfl⟩, trivial⟩)
  have n7 : W 8 #[true, true, true, false, false, false, false, false, false, false, false] (mkSt [(2, one (Cell.ptr 0 0)), (3, one (Cell.ptr 1 0)), (11, agg [cI r1.Auth, cI r1.Start, cI r1.End, cI r1.Renew]), (12, agg [cI a1.Auth, cI a1.Start, cI a1.End, cI a1.Renew])] [] [(0, [cI a0.Auth, cI a0.Start, cI a0.End, cI a0.Renew]), (1, [cI a1.Auth, cI a1.Start, cI a1.End, cI a1.Renew])] 2) := by
    refine hI _ _ _ ?_
    refine A.all [3, 8] (by kernel_rfl) rfl ⟨⟨_, rfl, ?_⟩, ⟨_, rfl, ?_⟩, trivial⟩
    · refine L.call [false] [] [] 2 hF rfl rfl rfl ent23 rfl rfl rfl rfl rfl (Flaws_toTimes_gives k  a1 r2 hr2) rfl ?_
      refine L.nil ?_
      exact A.on (hO _ _ _ n15) (Le.mk [(0, 0), (1, 1)] hm rfl ⟨⟨_, rfl, rfl⟩, ⟨_, rfl, rfl⟩, ⟨_, rfl, rfl⟩, ⟨_, rfl, rfl⟩, trivial⟩ trivial ⟨⟨_, _, rfl, rfl, rfl⟩, ⟨_, _, rfl, rfl, rfl⟩, trivial⟩)
    · refine L.alloc 2 info25 rfl hF rfl rfl rfl rfl ?_
      refine L.nil ?_
      exact A.on (hO _ _ _ n263) (Le.mk [(0, 0), (1, 1), (2, 2)] hm rfl ⟨⟨_, rfl, rfl⟩, ⟨_, rfl, rfl⟩, ⟨_, rfl, rfl⟩, ⟨_, rfl, rfl⟩, ⟨_, rfl, rfl⟩, trivial⟩ trivial ⟨⟨_, _, rfl, rfl, rfl⟩, ⟨_, _, rfl, rfl, rfl⟩, ⟨_, _, rfl, rfl, rfl⟩, trivial⟩)
  have n257 : W 9 #[true, false, false, false, false, false, false, false, true, false, false] (mkSt [(2, one (Cell.ptr 0 0)), (3, one (Cell.ptr 1 0)), (5, one (Cell.ptr 2 0)), (10, agg [cI a0.Auth, cI a0.Start, cI a0.End, cI a0.Renew])] [] [(0, [cI a0.Auth, cI a0.Start, cI a0.End, cI a0.Renew]), (1, [cI a1.Auth, cI a1.Start, cI a1.End, cI a1.Renew]), (2, [cI (0 : Int), cI (0 : Int), cI (0 : Int), cI (0 : Int)])] 3) := by
    refine hI _ _ _ ?_
    refine A.all [1, 2] (by kernel_rfl) rfl ⟨⟨_, rfl, ?_⟩, ⟨_, rfl, ?_⟩, trivial⟩
    · refine L.call [false] [] [] 3 hF rfl rfl rfl ent23 rfl rfl rfl rfl rfl (Flaws_toTimes_gives k  a0 r1 hr1) rfl ?_
      refine L.nil ?_
      exact A.on (hO _ _ _ n259) (Le.mk [(0, 0), (1, 1), (2, 2)] hm rfl ⟨⟨_, rfl, rfl⟩, ⟨_, rfl, rfl⟩, ⟨_, rfl, rfl⟩, ⟨_, rfl, rfl⟩, trivial⟩ trivial ⟨⟨_, _, rfl, rfl, rfl⟩, ⟨_, _, rfl, rfl, rfl⟩, ⟨_, _, rfl, rfl, rfl⟩, trivial⟩)
    · refine L.loadPtr shape23 hF rfl rfl rfl rfl rfl rfl ?_
      refine L.nil ?_
      exact A.on (hO _ _ _ n261) (Le.mk [(0, 0), (1, 1), (2, 2)] hm rfl ⟨⟨_, rfl, rfl⟩, ⟨_, rfl, rfl⟩, ⟨_, rfl, rfl⟩, ⟨_, rfl, rfl⟩, ⟨_, rfl, rfl⟩, trivial⟩ trivial ⟨⟨_, _, rfl, rfl, rfl⟩, ⟨_, _, rfl, rfl, rfl⟩, ⟨_, _, rfl, rfl, rfl⟩, trivial⟩)
  have n260 : W 9 #[false, false, true, false, false, false, false, false, true, false, false] (mkSt [(2, one (Cell.ptr 0 0)), (3, one (Cell.ptr 1 0)), (5, one (Cell.ptr 2 0)), (12, agg [cI a1.Auth, cI a1.Start, cI a1.End, cI a1.Renew])] [] [(0, [cI a0.Auth, cI a0.Start, cI a0.End, cI a0.Renew]), (1, [cI a1.Auth, cI a1.Start, cI a1.End, cI a1.Renew]), (2, [cI (0 : Int), cI (0 : Int), cI (0 : Int), cI (0 : Int)])] 3) := by
    refine hI _ _ _ ?_
    refine A.all [0] (by kernel_rfl) rfl ⟨⟨_, rfl, ?_⟩, trivial⟩
    · refine L.loadPtr shape23 hF rfl rfl rfl rfl rfl rfl ?_
      refine L.nil ?_
      exact A.on (hO _ _ _ n261) (Le.mk [(0, 0), (1, 1), (2, 2)] hm rfl ⟨⟨_, rfl, rfl⟩, ⟨_, rfl, rfl⟩, ⟨_, rfl, rfl⟩, ⟨_, rfl, rfl⟩, ⟨_, rfl, rfl⟩, trivial⟩ trivial ⟨⟨_, _, rfl, rfl, rfl⟩, ⟨_, _, rfl, rfl, rfl⟩, ⟨_, _, rfl, rfl, rfl⟩, trivial⟩)
  have n5 : W 9 #[true, false, true, false, false, false, false, false, false, false, false] (mkSt [(2, one (Cell.ptr 0 0)), (3, one (Cell.ptr 1 0)), (10, agg [cI a0.Auth, cI a0.Start, cI a0.End, cI a0.Renew]), (12, agg [cI a1.Auth, cI a1.Start, cI a1.End, cI a1.Renew])] [] [(0, [cI a0.Auth, cI a0.Start, cI a0.End, cI a0.Renew]), (1, [cI a1.Auth, cI a1.Start, cI a1.End, cI a1.Renew])] 2) := by
    refine hI _ _ _ ?_
    refine A.all [1, 8] (by kernel_rfl) rfl ⟨⟨_, rfl, ?_⟩, ⟨_, rfl, ?_⟩, trivial⟩
    · refine L.call [false] [] [] 2 hF rfl rfl rfl ent23 rfl rfl rfl rfl rfl (Flaws_toTimes_gives k  a0 r1 hr1) rfl ?_
      refine L.nil ?_
      exact A.on (hO _ _ _ n7) (Le.mk [(0, 0), (1, 1)] hm rfl ⟨⟨_, rfl, rfl⟩, ⟨_, rfl, rfl⟩, ⟨_, rfl, rfl⟩, ⟨_, rfl, rfl⟩, trivial⟩ trivial ⟨⟨_, _, rfl, rfl, rfl⟩, ⟨_, _, rfl, rfl, rfl⟩, trivial⟩)
    · refine L.alloc 2 info25 rfl hF rfl rfl rfl rfl ?_
      refine L.nil ?_
      exact A.on (hO _ _ _ n261) (Le.mk [(0, 0), (1, 1), (2, 2)] hm rfl ⟨⟨_, rfl, rfl⟩, ⟨_, rfl, rfl⟩, ⟨_, rfl, rfl⟩, ⟨_, rfl, rfl⟩, ⟨_, rfl, rfl⟩, trivial⟩ trivial ⟨⟨_, _, rfl, rfl, rfl⟩, ⟨_, _, rfl, rfl, rfl⟩, ⟨_, _, rfl, rfl, rfl⟩, trivial⟩)
  have n3 : W 9 #[true, true, false, false, false, false, false, false, false, false, false] (mkSt [(2, one (Cell.ptr 0 0)), (3, one (Cell.ptr 1 0)), (11, agg [cI r1.Auth, cI r1.Start, cI r1.End, cI r1.Renew])] [] [(0, [cI a0.Auth, cI a0.Start, cI a0.End, cI a0.Renew]), (1, [cI a1.Auth, cI a1.Start, cI a1.End, cI a1.Renew])] 2) := by
    refine hI _ _ _ ?_
    refine A.all [2, 8] (by kernel_rfl) rfl ⟨⟨_, rfl, ?_⟩, ⟨_, rfl, ?_⟩, trivial⟩
    · refine L.loadPtr shape23 hF rfl rfl rfl rfl rfl rfl ?_
      refine L.nil ?_
      exact A.on (hO _ _ _ n7) (Le.mk [(0, 0), (1, 1)] hm rfl ⟨⟨_, rfl, rfl⟩, ⟨_, rfl, rfl⟩, ⟨_, rfl, rfl⟩, ⟨_, rfl, rfl⟩, trivial⟩ trivial ⟨⟨_, _, rfl, rfl, rfl⟩, ⟨_, _, rfl, rfl, rfl⟩, trivial⟩)
    · refine L.alloc 2 info25 rfl hF rfl rfl rfl rfl ?_
      refine L.nil ?_
      exact A.on (hO _ _ _ n259) (Le.mk [(0, 0), (1, 1), (2, 2)] hm rfl ⟨⟨_, rfl, rfl⟩, ⟨_, rfl, rfl⟩, ⟨_, rfl, rfl⟩, ⟨_, rfl, rfl⟩, trivial⟩ trivial ⟨⟨_, _, rfl, rfl, rfl⟩, ⟨_, _, rfl, rfl, rfl⟩, ⟨_, _, rfl, rfl, rfl⟩, trivial⟩)
  have n1 : W 10 #[true, false, false, false, false, false, false, false, false, false, false] (mkSt [(2, one (Cell.ptr 0 0)), (3, one (Cell.ptr 1 0)), (10, agg [cI a0.Auth, cI a0.Start, cI a0.End, cI a0.Renew])] [] [(0, [cI a0.Auth, cI a0.Start, cI a0.End, cI a0.Renew]), (1, [cI a1.Auth, cI a1.Start, cI a1.End, cI a1.Renew])] 2) := by
    refine hI _ _ _ ?_
    refine A.all [1, 2, 8] (by kernel_rfl) rfl ⟨⟨_, rfl, ?_⟩, ⟨_, rfl, ?_⟩, ⟨_, rfl, ?_⟩, trivial⟩
    · refine L.call [false] [] [] 2 hF rfl rfl rfl ent23 rfl rfl rfl rfl rfl (Flaws_toTimes_gives k  a0 r1 hr1) rfl ?_
      refine L.nil ?_
      exact A.on (hO _ _ _ n3) (Le.mk [(0, 0), (1, 1)] hm rfl ⟨⟨_, rfl, rfl⟩, ⟨_, rfl, rfl⟩, ⟨_, rfl, rfl⟩, trivial⟩ trivial ⟨⟨_, _, rfl, rfl, rfl⟩, ⟨_, _, rfl, rfl, rfl⟩, trivial⟩)
    · refine L.loadPtr shape23 hF rfl rfl rfl rfl rfl rfl ?_
      refine L.nil ?_
      exact A.on (hO _ _ _ n5) (Le.mk [(0, 0), (1, 1)] hm rfl ⟨⟨_, rfl, rfl⟩, ⟨_, rfl, rfl⟩, ⟨_, rfl, rfl⟩, ⟨_, rfl, rfl⟩, trivial⟩ trivial ⟨⟨_, _, rfl, rfl, rfl⟩, ⟨_, _, rfl, rfl, rfl⟩, trivial⟩)
    · refine L.alloc 2 info25 rfl hF rfl rfl rfl rfl ?_
      refine L.nil ?_
      exact A.on (hO _ _ _ n257) (Le.mk [(0, 0), (1, 1), (2, 2)] hm rfl ⟨⟨_, rfl, rfl⟩, ⟨_, rfl, rfl⟩, ⟨_, rfl, rfl⟩, ⟨_, rfl, rfl⟩, trivial⟩ trivial ⟨⟨_, _, rfl, rfl, rfl⟩, ⟨_, _, rfl, rfl, rfl⟩, ⟨_, _, rfl, rfl, rfl⟩, trivial⟩)
  have n256 : W 10 #[false, false, false, false, false, false, false, false, true, false, false] (mkSt [(2, one (Cell.ptr 0 0)), (3, one (Cell.ptr 1 0)), (5, one (Cell.ptr 2 0))] [] [(0, [cI a0.Auth, cI a0.Start, cI a0.End, cI a0.Renew]), (1, [cI a1.Auth, cI a1.Start, cI a1.End, cI a1.Renew]), (2, [cI (0 : Int), cI (0 : Int), cI (0 : Int), cI (0 : Int)])] 3) := by
    refine hI _ _ _ ?_
    refine A.all [0, 2] (by kernel_rfl) rfl ⟨⟨_, rfl, ?_⟩, ⟨_, rfl, ?_⟩, trivial⟩
    · refine L.loadPtr shape23 hF rfl rfl rfl rfl rfl rfl ?_
      refine L.nil ?_
      exact A.on (hO _ _ _ n257) (Le.mk [(0, 0), (1, 1), (2, 2)] hm rfl ⟨⟨_, rfl, rfl⟩, ⟨_, rfl, rfl⟩, ⟨_, rfl, rfl⟩, ⟨_, rfl, rfl⟩, trivial⟩ trivial ⟨⟨_, _, rfl, rfl, rfl⟩, ⟨_, _, rfl, rfl, rfl⟩, ⟨_, _, rfl, rfl, rfl⟩, trivial⟩)
    · refine L.loadPtr shape23 hF rfl rfl rfl rfl rfl rfl ?_
      refine L.nil ?_
      exact A.on (hO _ _ _ n260) (Le.mk [(0, 0), (1, 1), (2, 2)] hm rfl ⟨⟨_, rfl, rfl⟩, ⟨_, rfl, rfl⟩, ⟨_, rfl, rfl⟩, ⟨_, rfl, rfl⟩, trivial⟩ trivial ⟨⟨_, _, rfl, rfl, rfl⟩, ⟨_, _, rfl, rfl, rfl⟩, ⟨_, _, rfl, rfl, rfl⟩, trivial⟩)
  have n4 : W 10 #[false, false, true, false, false, false, false, false, false, false, false] (mkSt [(2, one (Cell.ptr 0 0)), (3, one (Cell.ptr 1 0)), (12, agg [cI a1.Auth, cI a1.Start, cI a1.End, cI a1.Renew])] [] [(0, [cI a0.Auth, cI a0.Start, cI a0.End, cI a0.Renew]), (1, [cI a1.Auth, cI a1.Start, cI a1.End, cI a1.Renew])] 2) := by
    refine hI _ _ _ ?_
    refine A.all [0, 8] (by kernel_rfl) rfl ⟨⟨_, rfl, ?_⟩, ⟨_, rfl, ?_⟩, trivial⟩
    · refine L.loadPtr shape23 hF rfl rfl rfl rfl rfl rfl ?_
      refine L.nil ?_
      exact A.on (hO _ _ _ n5) (Le.mk [(0, 0), (1, 1)] hm rfl ⟨⟨_, rfl, rfl⟩, ⟨_, rfl, rfl⟩, ⟨_, rfl, rfl⟩, ⟨_, rfl, rfl⟩, trivial⟩ trivial ⟨⟨_, _, rfl, rfl, rfl⟩, ⟨_, _, rfl, rfl, rfl⟩, trivial⟩)
    · refine L.alloc 2 info25 rfl hF rfl rfl rfl rfl ?_
      refine L.nil ?_
      exact A.on (hO _ _ _ n260) (Le.mk [(0, 0), (1, 1), (2, 2)] hm rfl ⟨⟨_, rfl, rfl⟩, ⟨_, rfl, rfl⟩, ⟨_, rfl, rfl⟩, ⟨_, rfl, rfl⟩, trivial⟩ trivial ⟨⟨_, _, rfl, rfl, rfl⟩, ⟨_, _, rfl, rfl, rfl⟩, ⟨_, _, rfl, rfl, rfl⟩, trivial⟩)
  have n0 : W 11 #[false, false, false, false, false, false, false, false, false, false, false] (mkSt [(2, one (Cell.ptr 0 0)), (3, one (Cell.ptr 1 0))] [] [(0, [cI a0.Auth, cI a0.Start, cI a0.End, cI a0.Renew]), (1, [cI a1.Auth, cI a1.Start, cI a1.End, cI a1.Renew])] 2) := by
    refine hI _ _ _ ?_
    refine A.all [0, 2, 8] (by kernel_rfl) rfl ⟨⟨_, rfl, ?_⟩, ⟨_, rfl, ?_⟩, ⟨_, rfl, ?_⟩, trivial⟩
    · refine L.loadPtr shape23 hF rfl rfl rfl rfl rfl rfl ?_
      refine L.nil ?_
      exact A.on (hO _ _ _ n1) (Le.mk [(0, 0), (1, 1)] hm rfl ⟨⟨_, rfl, rfl⟩, ⟨_, rfl, rfl⟩, ⟨_, rfl, rfl⟩, trivial⟩ trivial ⟨⟨_, _, rfl, rfl, rfl⟩, ⟨_, _, rfl, rfl, rfl⟩, trivial⟩)
    · refine L.loadPtr shape23 hF rfl rfl rfl rfl rfl rfl ?_
      refine L.nil ?_
      exact A.on (hO _ _ _ n4) (Le.mk [(0, 0), (1, 1)] hm rfl ⟨⟨_, rfl, rfl⟩, ⟨_, rfl, rfl⟩, ⟨_, rfl, rfl⟩, trivial⟩ trivial ⟨⟨_, _, rfl, rfl, rfl⟩, ⟨_, _, rfl, rfl, rfl⟩, trivial⟩)
    · refine L.alloc 2 info25 rfl hF rfl rfl rfl rfl ?_
      refine L.nil ?_
      exact A.on (hO _ _ _ n256) (Le.mk [(0, 0), (1, 1), (2, 2)] hm rfl ⟨⟨_, rfl, rfl⟩, ⟨_, rfl, rfl⟩, ⟨_, rfl, rfl⟩, trivial⟩ trivial ⟨⟨_, _, rfl, rfl, rfl⟩, ⟨_, _, rfl, rfl, rfl⟩, ⟨_, _, rfl, rfl, rfl⟩, trivial⟩)
  exact hI _ _ _ (A.on (hO _ _ _ n0) (Le.mk [(0, 8), (1, 9)] hm rfl ⟨⟨_, rfl, rfl⟩, ⟨_, rfl, rfl⟩, trivial⟩ trivial ⟨⟨_, _, rfl, rfl, rfl⟩, ⟨_, _, rfl, rfl, rfl⟩, trivial⟩))
def wfTlaws_Times (x : Tlaws_Times) : Prop := Go.MG.wfI x.Auth ∧ Go.MG.wfI x.Start ∧ Go.MG.wfI x.End ∧ Go.MG.wfI x.Renew
theorem open23 : Go.MG.Opens Try.prog 23 eTlaws_Times wfTlaws_Times := by
  intro H enc W fuel cs x h
  obtain ⟨n, hp⟩ := Go.MG.struct_parts Try.underlying23 (by kernel_rfl : Try.prog.cellsOf 23 = 4) (by kernel_rfl) h
  obtain ⟨c0, k0, y0, rfl, h0, hp⟩ := hp
  obtain ⟨c1, k1, y1, rfl, h1, hp⟩ := hp
  obtain ⟨c2, k2, y2, rfl, h2, hp⟩ := hp
  obtain ⟨c3, k3, y3, rfl, h3, hp⟩ := hp
  obtain rfl := hp
  obtain ⟨a0, r0, w0⟩ := (Go.MG.Opens.int Try.underlying3) _ _ _ _ _ _ h0
  obtain ⟨a1, r1, w1⟩ := (Go.MG.Opens.int Try.underlying3) _ _ _ _ _ _ h1
  obtain ⟨a2, r2, w2⟩ := (Go.MG.Opens.int Try.underlying3) _ _ _ _ _ _ h2
  obtain ⟨a3, r3, w3⟩ := (Go.MG.Opens.int Try.underlying3) _ _ _ _ _ _ h3
  exact ⟨⟨a0, a1, a2, a3⟩, (r0.append (r1.append (r2.append (r3.append (rfl : Go.MG.RCs _ [] []))))), w0, w1, w2, w3⟩
end Go.Proofs.Ytflcaebmammlfaa.M
