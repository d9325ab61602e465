import Derived.Test.YtgjbgakcfcomdaaFNewWorldx1
import Derived.Test.YtgjbgakcfcomdaaProg
namespace Go.Proofs.Ytgjbgakcfcomdaa.M
open Go Go.MG
set_option linter.unusedVariables false
set_option linter.unusedSimpArgs false
/-! ### Flaws_heldPairS -/
def Flaws_heldPairS.l2 : Nat → (List Timpl_Pair) → Int → Int → Option Int
 | 0, _, _, _ => none
 | k2 + 1, v54, v55, v56 => cond (decide (v56 < (v54.length : Int))) ((at? v54 v56).bind fun b62 => cond (b62.A != v55) (some (-1 : Int)) ((at? v54 v56).bind fun b64 => cond (b64.B != (IntKind.i64.wrap (v55 + (1 : Int)))) (some (-1 : Int)) ((Flaws_heldPairS.l2 k2) v54 (IntKind.i64.wrap ((IntKind.i64.wrap (v55 + (1 : Int))) + (1 : Int))) (IntKind.i64.wrap (v56 + (1 : Int)))))) (some v55)
def Flaws_heldPairS (k : Nat) (a0 : List Timpl_Pair) (a1 : Int) : Option Int := Flaws_heldPairS.l2 k a0 a1 (0 : Int)
theorem ent150 : MG.Enters Try.prog 150 := ⟨Try.f150, Try.func150, rfl, by decide⟩
set_option maxHeartbeats 8000000 in
set_option maxRecDepth 100000 in
theorem Flaws_heldPairS_gives (k : Nat) (g0 : Bool) (a0 : List Timpl_Pair) (a1 : Int) (r : Int) (H : Flaws_heldPairS k a0 a1 = some r) : Gives Try.prog 150 [V.one (Cell.sl g0 (List.map eTimpl_Pair a0)), V.one (cI a1)] [] [V.one (cI r)] [] := by
 refine Gives.intro Try.func150 rfl rfl rfl rfl ?_
 intro F hF hm
 unfold Flaws_heldPairS at H
 obtain ⟨K, hK⟩ : ∃ K, k ≤ K := ⟨k, Nat.le_refl k⟩
 refine WpC.seq (WpC.regionL ?_)
 refine L.assign hF rfl rfl rfl (L.nil ?_)
 refine WpC.seq (WpC.seq (WpC.regionL ?_))
 refine L.assign hF rfl rfl rfl (L.nil ?_)
 refine WpC.block ?_
 refine WpC.loopL (P := Try.prog) (fun n σ => ∃ v54 : List Timpl_Pair, ∃ v55 : Int, ∃ v56 : Int, n ≤ K ∧ Flaws_heldPairS.l2 n v54 v55 v56 = some r ∧ σ = mkSt [(0, one (Cell.sl g0 (List.map eTimpl_Pair v54))), (1, one (cI v55)), (5, one (cI v56))] [] [] 0) k ⟨_, ⟨a0, a1, (0 : Int), by omega, H, rfl⟩, Le.mk [] hm rfl (Sa2 (Sa1 trivial)) trivial trivial⟩ ?_
 clear H
 rintro k2 _ ⟨v54, v55, v56, hk2, H, rfl⟩
 cases k2 with
 | zero => cases H
 | succ k2 =>
  rw [Flaws_heldPairS.l2] at H
  refine WpC.seq (WpC.seq (WpC.regionL ?_))
  refine L.move hF rfl rfl rfl ?_
  refine L.move hF rfl rfl rfl ?_
  refine L.lenR (xs := v54) (e := eTimpl_Pair) Try.underlying60 hF rfl rfl rfl rfl ?_
  refine L.bin hF rfl rfl rfl rfl rfl rfl (L.nil ?_)
  refine WpC.cond rfl (fun hc => ?_) (fun hc => ?_)
  ·replace H := condT hc H
   refine WpC.skip (WpC.seq (WpC.block (WpC.seq (WpC.seq (WpC.regionL ?_)))))
   refine L.move hF rfl rfl rfl ?_
   refine L.move hF rfl rfl rfl ?_
   obtain ⟨b62, hb62, H⟩ := bindS H
   refine L.idxR (xs := v54) (e := eTimpl_Pair) Try.underlying60 info164 hF rfl rfl rfl rfl rfl hb62 rfl rfl ?_
   refine L.fieldAddr Try.underlying164 rfl info3 rfl hF rfl rfl rfl rfl rfl ?_
   refine L.loadPe shape3 hF rfl rfl rfl rfl rfl ?_
   refine L.move hF rfl rfl rfl ?_
   refine L.bin hF rfl rfl rfl rfl rfl rfl (L.nil ?_)
   refine WpC.cond rfl (fun hc => ?_) (fun hc => ?_)
   ·replace H := condT hc H
    refine WpC.seq (WpC.regionL ?_)
    refine L.assign hF rfl rfl rfl (L.nil ?_)
    refine WpC.ret ?_
    cases H
    exact Leaves.ret rfl rfl rfl ⟨rfl, rfl⟩
   ·replace H := condF hc H
    refine WpC.skip (WpC.seq (WpC.regionL ?_))
    refine L.move hF rfl rfl rfl ?_
    refine L.bin hF rfl rfl rfl rfl rfl rfl ?_
    refine L.assign hF rfl rfl rfl (L.nil ?_)
    refine WpC.seq (WpC.seq (WpC.regionL ?_))
    refine L.move hF rfl rfl rfl ?_
    refine L.move hF rfl rfl rfl ?_
    obtain ⟨b64, hb64, H⟩ := bindS H
    refine L.idxR (xs := v54) (e := eTimpl_Pair) Try.underlying60 info164 hF rfl rfl rfl rfl rfl hb64 rfl rfl ?_
    refine L.fieldAddr Try.underlying164 rfl info3 rfl hF rfl rfl rfl rfl rfl ?_
    refine L.loadPe shape3 hF rfl rfl rfl rfl rfl ?_
    refine L.move hF rfl rfl rfl ?_
    refine L.bin hF rfl rfl rfl rfl rfl rfl (L.nil ?_)
    refine WpC.cond rfl (fun hc => ?_) (fun hc => ?_)
    ·replace H := condT hc H
     refine WpC.seq (WpC.regionL ?_)
     refine L.assign hF rfl rfl rfl (L.nil ?_)
     refine WpC.ret ?_
     cases H
     exact Leaves.ret rfl rfl rfl ⟨rfl, rfl⟩
    ·replace H := condF hc H
     refine WpC.skip (WpC.regionL ?_)
     refine L.move hF rfl rfl rfl ?_
     refine L.bin hF rfl rfl rfl rfl rfl rfl ?_
     refine L.assign hF rfl rfl rfl (L.nil ?_)
     refine WpC.regionL ?_
     refine L.move hF rfl rfl rfl ?_
     refine L.bin hF rfl rfl rfl rfl rfl rfl ?_
     refine L.assign hF rfl rfl rfl (L.nil ?_)
     exact ⟨k2, _, by omega, ⟨v54, (IntKind.i64.wrap ((IntKind.i64.wrap (v55 + (1 : Int))) + (1 : Int))), (IntKind.i64.wrap (v56 + (1 : Int))), by omega, H, rfl⟩, Le.mk [] hm rfl (Sa2 (Sa1 trivial)) trivial trivial⟩
  ·replace H := condF hc H
   refine WpC.exit (WpC.seq (WpC.regionL ?_))
   refine L.move hF rfl rfl rfl ?_
   refine L.assign hF rfl rfl rfl (L.nil ?_)
   refine WpC.ret ?_
   cases H
   exact Leaves.ret rfl rfl rfl ⟨rfl, rfl⟩
/-! ### Flaws_heldConfig -/
def Flaws_heldConfig (k : Nat) (a0 : Timpl_Config) (a1 : Int) : Option Int := (Flaws_heldIntS k a0.UserRealm a1).bind fun r1 => cond (decide (r1 < (0 : Int))) (some (-1 : Int)) ((Flaws_heldIntS k a0.ServiceRealm r1).bind fun r2 => cond (decide (r2 < (0 : Int))) (some (-1 : Int)) ((Flaws_heldPairS k a0.Links r2).bind fun r3 => cond (decide (r3 < (0 : Int))) (some (-1 : Int)) ((Flaws_heldPairS k a0.Proxy r3).bind fun r4 => cond (decide (r4 < (0 : Int))) (some (-1 : Int)) (some r4))))
theorem ent113 : MG.Enters Try.prog 113 := ⟨Try.f113, Try.func113, rfl, by decide⟩
set_option maxHeartbeats 8000000 in
set_option maxRecDepth 100000 in
theorem Flaws_heldConfig_gives (k : Nat) (g0 : Bool) (g1 : Bool) (g2 : Bool) (g3 : Bool) (a0 : Timpl_Config) (a1 : Int) (r : Int) (H : Flaws_heldConfig k a0 a1 = some r) : Gives Try.prog 113 [V.agg [Cell.sl g0 (List.map eI a0.UserRealm), Cell.sl g1 (List.map eI a0.ServiceRealm), Cell.sl g2 (List.map eTimpl_Pair a0.Links), Cell.sl g3 (List.map eTimpl_Pair a0.Proxy), cI a0.Skew], V.one (cI a1)] [] [V.one (cI r)] [] := by
 refine Gives.intro Try.func113 rfl rfl rfl rfl ?_
 intro F hF hm
 unfold Flaws_heldConfig at H
 obtain ⟨K, hK⟩ : ∃ K, k ≤ K := ⟨k, Nat.le_refl k⟩
 refine WpC.seq (WpC.regionL ?_)
 refine L.box 6 hF rfl rfl rfl rfl ?_
 refine L.assign hF rfl rfl rfl (L.nil ?_)
 refine WpC.seq (WpC.regionL ?_)
 refine L.fieldAddr Try.underlying62 rfl info39 rfl hF rfl rfl rfl rfl rfl ?_
 refine L.loadPtr shape39 hF rfl rfl rfl rfl rfl rfl ?_
 refine L.move hF rfl rfl rfl ?_
 obtain ⟨r1, hr1, H⟩ := bindS H
 refine L.call [false, false] [] [] 7 hF rfl rfl rfl ent56 rfl rfl rfl rfl rfl (Flaws_heldIntS_gives k g0 a0.UserRealm a1 r1 hr1) rfl ?_
 refine L.assign hF rfl rfl rfl (L.nil ?_)
 refine WpC.seq (WpC.seq (WpC.regionL ?_))
 refine L.move hF rfl rfl rfl ?_
 refine L.bin hF rfl rfl rfl rfl rfl rfl (L.nil ?_)
 refine WpC.cond rfl (fun hc => ?_) (fun hc => ?_)
 ·replace H := condT hc H
  refine WpC.seq (WpC.regionL ?_)
  refine L.assign hF rfl rfl rfl (L.nil ?_)
  refine WpC.ret ?_
  cases H
  exact Leaves.ret rfl rfl rfl ⟨rfl, rfl⟩
 ·replace H := condF hc H
  refine WpC.skip (WpC.seq (WpC.regionL ?_))
  refine L.fieldAddr Try.underlying62 rfl info39 rfl hF rfl rfl rfl rfl rfl ?_
  refine L.loadPtr shape39 hF rfl rfl rfl rfl rfl rfl ?_
  refine L.move hF rfl rfl rfl ?_
  obtain ⟨r2, hr2, H⟩ := bindS H
  refine L.call [false, false] [] [] 8 hF rfl rfl rfl ent56 rfl rfl rfl rfl rfl (Flaws_heldIntS_gives k g1 a0.ServiceRealm r1 r2 hr2) rfl ?_
  refine L.assign hF rfl rfl rfl (L.nil ?_)
  refine WpC.seq (WpC.seq (WpC.regionL ?_))
  refine L.move hF rfl rfl rfl ?_
  refine L.bin hF rfl rfl rfl rfl rfl rfl (L.nil ?_)
  refine WpC.cond rfl (fun hc => ?_) (fun hc => ?_)
  ·replace H := condT hc H
   refine WpC.seq (WpC.regionL ?_)
   refine L.assign hF rfl rfl rfl (L.nil ?_)
   refine WpC.ret ?_
   cases H
   exact Leaves.ret rfl rfl rfl ⟨rfl, rfl⟩
  ·replace H := condF hc H
   refine WpC.skip (WpC.seq (WpC.regionL ?_))
   refine L.fieldAddr Try.underlying62 rfl info60 rfl hF rfl rfl rfl rfl rfl ?_
   refine L.loadPtr shape60 hF rfl rfl rfl rfl rfl rfl ?_
   refine L.move hF rfl rfl rfl ?_
   obtain ⟨r3, hr3, H⟩ := bindS H
   refine L.call [false, false] [] [] 9 hF rfl rfl rfl ent150 rfl rfl rfl rfl rfl (Flaws_heldPairS_gives k g2 a0.Links r2 r3 hr3) rfl ?_
   refine L.assign hF rfl rfl rfl (L.nil ?_)
   refine WpC.seq (WpC.seq (WpC.regionL ?_))
   refine L.move hF rfl rfl rfl ?_
   refine L.bin hF rfl rfl rfl rfl rfl rfl (L.nil ?_)
   refine WpC.cond rfl (fun hc => ?_) (fun hc => ?_)
   ·replace H := condT hc H
    refine WpC.seq (WpC.regionL ?_)
    refine L.assign hF rfl rfl rfl (L.nil ?_)
    refine WpC.ret ?_
    cases H
    exact Leaves.ret rfl rfl rfl ⟨rfl, rfl⟩
   ·replace H := condF hc H
    refine WpC.skip (WpC.seq (WpC.regionL ?_))
    refine L.fieldAddr Try.underlying62 rfl info60 rfl hF rfl rfl rfl rfl rfl ?_
    refine L.loadPtr shape60 hF rfl rfl rfl rfl rfl rfl ?_
    refine L.move hF rfl rfl rfl ?_
    obtain ⟨r4, hr4, H⟩ := bindS H
    refine L.call [false, false] [] [] 10 hF rfl rfl rfl ent150 rfl rfl rfl rfl rfl (Flaws_heldPairS_gives k g3 a0.Proxy r3 r4 hr4) rfl ?_
    refine L.assign hF rfl rfl rfl (L.nil ?_)
    refine WpC.seq (WpC.seq (WpC.regionL ?_))
    refine L.move hF rfl rfl rfl ?_
    refine L.bin hF rfl rfl rfl rfl rfl rfl (L.nil ?_)
    refine WpC.cond rfl (fun hc => ?_) (fun hc => ?_)
    ·replace H := condT hc H
     refine WpC.seq (WpC.regionL ?_)
     refine L.assign hF rfl rfl rfl (L.nil ?_)
     refine WpC.ret ?_
     cases H
     exact Leaves.ret rfl rfl rfl ⟨rfl, rfl⟩
    ·replace H := condF hc H
     refine WpC.skip (WpC.seq (WpC.regionL ?_))
     refine L.move hF rfl rfl rfl ?_
     refine L.assign hF rfl rfl rfl (L.nil ?_)
     refine WpC.ret ?_
     cases H
     exact Leaves.ret rfl rfl rfl ⟨rfl, rfl⟩
/-! ### Flaws_heldStringS -/
def Flaws_heldStringS.l2 : Nat → (List (List UInt8)) → Int → Int → Option Int
 | 0, _, _, _ => none
 | k2 + 1, v54, v55, v56 => cond (decide (v56 < (v54.length : Int))) ((at? v54 v56).bind fun b63 => (Flaws_markText k2 v55).bind fun r64 => cond (b63 != r64) (some (-1 : Int)) ((Flaws_heldStringS.l2 k2) v54 (IntKind.i64.wrap (v55 + (1 : Int))) (IntKind.i64.wrap (v56 + (1 : Int))))) (some v55)
def Flaws_heldStringS (k : Nat) (a0 : List (List UInt8)) (a1 : Int) : Option Int := Flaws_heldStringS.l2 k a0 a1 (0 : Int)
theorem ent114 : MG.Enters Try.prog 114 := ⟨Try.f114, Try.func114, rfl, by decide⟩
set_option maxHeartbeats 8000000 in
set_option maxRecDepth 100000 in
theorem Flaws_heldStringS_gives (k : Nat) (g0 : Bool) (a0 : List (List UInt8)) (a1 : Int) (r : Int) (H : Flaws_heldStringS k a0 a1 = some r) : Gives Try.prog 114 [V.one (Cell.sl g0 (List.map eS a0)), V.one (cI a1)] [] [V.one (cI r)] [] := by
 refine Gives.intro Try.func114 rfl rfl rfl rfl ?_
 intro F hF hm
 unfold Flaws_heldStringS at H
 obtain ⟨K, hK⟩ : ∃ K, k ≤ K := ⟨k, Nat.le_refl k⟩
 refine WpC.seq (WpC.regionL ?_)
 refine L.assign hF rfl rfl rfl (L.nil ?_)
 refine WpC.seq (WpC.seq (WpC.regionL ?_))
 refine L.assign hF rfl rfl rfl (L.nil ?_)
 refine WpC.block ?_
 refine WpC.loopL (P := Try.prog) (fun n σ => ∃ v54 : List (List UInt8), ∃ v55 : Int, ∃ v56 : Int, n ≤ K ∧ Flaws_heldStringS.l2 n v54 v55 v56 = some r ∧ σ = mkSt [(0, one (Cell.sl g0 (List.map eS v54))), (1, one (cI v55)), (5, one (cI v56))] [] [] 0) k ⟨_, ⟨a0, a1, (0 : Int), by omega, H, rfl⟩, Le.mk [] hm rfl (Sa2 (Sa1 trivial)) trivial trivial⟩ ?_
 clear H
 rintro k2 _ ⟨v54, v55, v56, hk2, H, rfl⟩
 cases k2 with
 | zero => cases H
 | succ k2 =>
  rw [Flaws_heldStringS.l2] at H
  refine WpC.seq (WpC.seq (WpC.regionL ?_))
  refine L.move hF rfl rfl rfl ?_
  refine L.move hF rfl rfl rfl ?_
  refine L.lenR (xs := v54) (e := eS) Try.underlying63 hF rfl rfl rfl rfl ?_
  refine L.bin hF rfl rfl rfl rfl rfl rfl (L.nil ?_)
  refine WpC.cond rfl (fun hc => ?_) (fun hc => ?_)
  ·replace H := condT hc H
   refine WpC.skip (WpC.seq (WpC.block (WpC.seq (WpC.seq ?_))))
   obtain ⟨b63, hb63, H⟩ := bindS H
   obtain ⟨r64, hr64, H⟩ := bindS H
   refine A.begin mixed rfl rfl ?_
   intro W hI hO
   have n63 : W 1 #[true, true, true, true, true, true, false] (mkSt [(0, one (Cell.sl g0 (List.map eS v54))), (1, one (cI v55)), (5, one (cI v56)), (15, one (cS b63)), (17, one (cS r64))] [] [] 0) := by
    refine hI _ _ _ ?_
    refine Atk 6 rfl (Ca.bin rfl rfl (calm_str _ _ _ _ _ _)) (fun Q0 k0 => L.binS hF rfl rfl rfl rfl rfl (L.nil k0)) ?_
    refine A.le (τ := mkSt [(0, one (Cell.sl g0 (List.map eS v54))), (1, one (cI v55)), (5, one (cI v56)), (18, one (cL (b63 != r64)))] [] [] 0) (Le.mk [] hm rfl (Sa4 trivial) trivial trivial) ?_
    refine A.done (by kernel_rfl) ?_
    refine WpC.cond rfl (fun hc => ?_) (fun hc => ?_)
    ·replace H := condT hc H
     refine WpC.seq (WpC.regionL ?_)
     refine L.assign hF rfl rfl rfl (L.nil ?_)
     refine WpC.ret ?_
     cases H
     exact Leaves.ret rfl rfl rfl ⟨rfl, rfl⟩
    ·replace H := condF hc H
     refine WpC.skip (WpC.regionL ?_)
     refine L.move hF rfl rfl rfl ?_
     refine L.bin hF rfl rfl rfl rfl rfl rfl ?_
     refine L.assign hF rfl rfl rfl (L.nil ?_)
     refine WpC.regionL ?_
     refine L.move hF rfl rfl rfl ?_
     refine L.bin hF rfl rfl rfl rfl rfl rfl ?_
     refine L.assign hF rfl rfl rfl (L.nil ?_)
     exact ⟨k2, _, by omega, ⟨v54, (IntKind.i64.wrap (v55 + (1 : Int))), (IntKind.i64.wrap (v56 + (1 : Int))), by omega, H, rfl⟩, Le.mk [] hm rfl (Sa2 (Sa1 trivial)) trivial trivial⟩
   refine hI _ _ _ ?_
   refine Atk 0 rfl (Ca.move) (fun Q0 k0 => L.move hF rfl rfl rfl (L.nil k0)) ?_
   refine Atk 1 rfl (Ca.move) (fun Q0 k0 => L.move hF rfl rfl rfl (L.nil k0)) ?_
   refine Atk 2 rfl (Ca.indexAddr) (fun Q0 k0 => L.idxR (xs := v54) (e := eS) Try.underlying63 info9 hF rfl rfl rfl rfl rfl hb63 rfl rfl (L.nil k0)) ?_
   refine Atk 4 rfl (Ca.move) (fun Q0 k0 => L.move hF rfl rfl rfl (L.nil k0)) ?_
   refine A.all [3, 5] (by kernel_rfl) rfl ⟨⟨_, rfl, ?_⟩, ⟨_, rfl, ?_⟩, trivial⟩
   ·refine L.loadPe shape9 hF rfl rfl rfl rfl rfl (L.nil ?_)
    refine A.all [5] (by kernel_rfl) rfl ⟨⟨_, rfl, ?_⟩, trivial⟩
    refine L.call [false] [] [] 0 hF rfl rfl rfl ent54 rfl rfl rfl rfl rfl (Flaws_markText_gives k2  v55 r64 hr64) rfl (L.nil ?_)
    exact A.on (hO _ _ _ n63) (Le.mk [] hm rfl (Sa4 (Sa1 trivial)) trivial trivial)
   ·refine L.call [false] [] [] 0 hF rfl rfl rfl ent54 rfl rfl rfl rfl rfl (Flaws_markText_gives k2  v55 r64 hr64) rfl (L.nil ?_)
    refine A.all [3] (by kernel_rfl) rfl ⟨⟨_, rfl, ?_⟩, trivial⟩
    refine L.loadPe shape9 hF rfl rfl rfl rfl rfl (L.nil ?_)
    exact A.on (hO _ _ _ n63) (Le.mk [] hm rfl (Sa4 (Sa1 trivial)) trivial trivial)
  ·replace H := condF hc H
   refine WpC.exit (WpC.seq (WpC.regionL ?_))
   refine L.move hF rfl rfl rfl ?_
   refine L.assign hF rfl rfl rfl (L.nil ?_)
   refine WpC.ret ?_
   cases H
   exact Leaves.ret rfl rfl rfl ⟨rfl, rfl⟩
/-! ### Flaws_heldKnown -/
def Flaws_heldKnown (k : Nat) (a0 : Timpl_Known) (a1 : Int) : Option Int := (Flaws_heldStringS k a0.Terms a1).bind fun r1 => cond (decide (r1 < (0 : Int))) (some (-1 : Int)) ((Flaws_heldIntS k a0.Keys r1).bind fun r2 => cond (decide (r2 < (0 : Int))) (some (-1 : Int)) (some r2))
theorem ent115 : MG.Enters Try.prog 115 := ⟨Try.f115, Try.func115, rfl, by decide⟩
set_option maxHeartbeats 8000000 in
set_option maxRecDepth 100000 in
theorem Flaws_heldKnown_gives (k : Nat) (g0 : Bool) (g1 : Bool) (a0 : Timpl_Known) (a1 : Int) (r : Int) (H : Flaws_heldKnown k a0 a1 = some r) : Gives Try.prog 115 [V.agg [Cell.sl g0 (List.map eS a0.Terms), Cell.sl g1 (List.map eI a0.Keys)], V.one (cI a1)] [] [V.one (cI r)] [] := by
 refine Gives.intro Try.func115 rfl rfl rfl rfl ?_
 intro F hF hm
 unfold Flaws_heldKnown at H
 obtain ⟨K, hK⟩ : ∃ K, k ≤ K := ⟨k, Nat.le_refl k⟩
 refine WpC.seq (WpC.regionL ?_)
 refine L.box 3 hF rfl rfl rfl rfl ?_
 refine L.assign hF rfl rfl rfl (L.nil ?_)
 refine WpC.seq (WpC.regionL ?_)
 refine L.fieldAddr Try.underlying65 rfl info63 rfl hF rfl rfl rfl rfl rfl ?_
 refine L.loadPtr shape63 hF rfl rfl rfl rfl rfl rfl ?_
 refine L.move hF rfl rfl rfl ?_
 obtain ⟨r1, hr1, H⟩ := bindS H
 refine L.call [false, false] [] [] 4 hF rfl rfl rfl ent114 rfl rfl rfl rfl rfl (Flaws_heldStringS_gives k g0 a0.Terms a1 r1 hr1) rfl ?_
 refine L.assign hF rfl rfl rfl (L.nil ?_)
 refine WpC.seq (WpC.seq (WpC.regionL ?_))
 refine L.move hF rfl rfl rfl ?_
 refine L.bin hF rfl rfl rfl rfl rfl rfl (L.nil ?_)
 refine WpC.cond rfl (fun hc => ?_) (fun hc => ?_)
 ·replace H := condT hc H
  refine WpC.seq (WpC.regionL ?_)
  refine L.assign hF rfl rfl rfl (L.nil ?_)
  refine WpC.ret ?_
  cases H
  exact Leaves.ret rfl rfl rfl ⟨rfl, rfl⟩
 ·replace H := condF hc H
  refine WpC.skip (WpC.seq (WpC.regionL ?_))
  refine L.fieldAddr Try.underlying65 rfl info39 rfl hF rfl rfl rfl rfl rfl ?_
  refine L.loadPtr shape39 hF rfl rfl rfl rfl rfl rfl ?_
  refine L.move hF rfl rfl rfl ?_
  obtain ⟨r2, hr2, H⟩ := bindS H
  refine L.call [false, false] [] [] 5 hF rfl rfl rfl ent56 rfl rfl rfl rfl rfl (Flaws_heldIntS_gives k g1 a0.Keys r1 r2 hr2) rfl ?_
  refine L.assign hF rfl rfl rfl (L.nil ?_)
  refine WpC.seq (WpC.seq (WpC.regionL ?_))
  refine L.move hF rfl rfl rfl ?_
  refine L.bin hF rfl rfl rfl rfl rfl rfl (L.nil ?_)
  refine WpC.cond rfl (fun hc => ?_) (fun hc => ?_)
  ·replace H := condT hc H
   refine WpC.seq (WpC.regionL ?_)
   refine L.assign hF rfl rfl rfl (L.nil ?_)
   refine WpC.ret ?_
   cases H
   exact Leaves.ret rfl rfl rfl ⟨rfl, rfl⟩
  ·replace H := condF hc H
   refine WpC.skip (WpC.seq (WpC.regionL ?_))
   refine L.move hF rfl rfl rfl ?_
   refine L.assign hF rfl rfl rfl (L.nil ?_)
   refine WpC.ret ?_
   cases H
   exact Leaves.ret rfl rfl rfl ⟨rfl, rfl⟩
/-! ### Flaws_heldWaitS -/
def Flaws_heldWaitS.l2 : Nat → (List Timpl_Wait) → Int → Int → Option Int
 | 0, _, _, _ => none
 | k2 + 1, v94, v95, v96 => cond (decide (v96 < (v94.length : Int))) ((at? v94 v96).bind fun b106 => cond (b106.On != ((Int.tmod v95 (3 : Int)) == (0 : Int))) (some (-1 : Int)) ((at? v94 v96).bind fun b108 => cond (b108.Nonce != (IntKind.i64.wrap (v95 + (1 : Int)))) (some (-1 : Int)) ((at? v94 v96).bind fun b110 => cond (b110.Key != (IntKind.i64.wrap ((IntKind.i64.wrap (v95 + (1 : Int))) + (1 : Int)))) (some (-1 : Int)) ((at? v94 v96).bind fun b112 => cond (b112.Client != (IntKind.i64.wrap ((IntKind.i64.wrap ((IntKind.i64.wrap (v95 + (1 : Int))) + (1 : Int))) + (1 : Int)))) (some (-1 : Int)) ((Flaws_heldWaitS.l2 k2) v94 (IntKind.i64.wrap ((IntKind.i64.wrap ((IntKind.i64.wrap ((IntKind.i64.wrap (v95 + (1 : Int))) + (1 : Int))) + (1 : Int))) + (1 : Int))) (IntKind.i64.wrap (v96 + (1 : Int)))))))) (some v95)
def Flaws_heldWaitS (k : Nat) (a0 : List Timpl_Wait) (a1 : Int) : Option Int := Flaws_heldWaitS.l2 k a0 a1 (0 : Int)
theorem ent116 : MG.Enters Try.prog 116 := ⟨Try.f116, Try.func116, rfl, by decide⟩
set_option maxHeartbeats 8000000 in
set_option maxRecDepth 100000 in
theorem Flaws_heldWaitS_gives (k : Nat) (g0 : Bool) (a0 : List Timpl_Wait) (a1 : Int) (r : Int) (H : Flaws_heldWaitS k a0 a1 = some r) : Gives Try.prog 116 [V.one (Cell.sl g0 (List.map eTimpl_Wait a0)), V.one (cI a1)] [] [V.one (cI r)] [] := by
 refine Gives.intro Try.func116 rfl rfl rfl rfl ?_
 intro F hF hm
 unfold Flaws_heldWaitS at H
 obtain ⟨K, hK⟩ : ∃ K, k ≤ K := ⟨k, Nat.le_refl k⟩
 refine WpC.seq (WpC.regionL ?_)
 refine L.assign hF rfl rfl rfl (L.nil ?_)
 refine WpC.seq (WpC.seq (WpC.regionL ?_))
 refine L.assign hF rfl rfl rfl (L.nil ?_)
 refine WpC.block ?_
 refine WpC.loopL (P := Try.prog) (fun n σ => ∃ v94 : List Timpl_Wait, ∃ v95 : Int, ∃ v96 : Int, n ≤ K ∧ Flaws_heldWaitS.l2 n v94 v95 v96 = some r ∧ σ = mkSt [(0, one (Cell.sl g0 (List.map eTimpl_Wait v94))), (1, one (cI v95)), (5, one (cI v96))] [] [] 0) k ⟨_, ⟨a0, a1, (0 : Int), by omega, H, rfl⟩, Le.mk [] hm rfl (Sa2 (Sa1 trivial)) trivial trivial⟩ ?_
 clear H
 rintro k2 _ ⟨v94, v95, v96, hk2, H, rfl⟩
 cases k2 with
 | zero => cases H
 | succ k2 =>
  rw [Flaws_heldWaitS.l2] at H
  refine WpC.seq (WpC.seq (WpC.regionL ?_))
  refine L.move hF rfl rfl rfl ?_
  refine L.move hF rfl rfl rfl ?_
  refine L.lenR (xs := v94) (e := eTimpl_Wait) Try.underlying66 hF rfl rfl rfl rfl ?_
  refine L.bin hF rfl rfl rfl rfl rfl rfl (L.nil ?_)
  refine WpC.cond rfl (fun hc => ?_) (fun hc => ?_)
  ·replace H := condT hc H
   refine WpC.skip (WpC.seq (WpC.block (WpC.seq (WpC.seq (WpC.regionL ?_)))))
   refine L.move hF rfl rfl rfl ?_
   refine L.move hF rfl rfl rfl ?_
   obtain ⟨b106, hb106, H⟩ := bindS H
   refine L.idxR (xs := v94) (e := eTimpl_Wait) Try.underlying66 info172 hF rfl rfl rfl rfl rfl hb106 rfl rfl ?_
   refine L.fieldAddr Try.underlying172 rfl info4 rfl hF rfl rfl rfl rfl rfl ?_
   refine L.loadPe shape4 hF rfl rfl rfl rfl rfl ?_
   refine L.move hF rfl rfl rfl ?_
   refine L.rem hF rfl rfl rfl rfl (by decide) ?_
   refine L.bin hF rfl rfl rfl rfl rfl rfl ?_
   refine L.neL Try.underlying4 hF rfl rfl rfl rfl (L.nil ?_)
   refine WpC.cond rfl (fun hc => ?_) (fun hc => ?_)
   ·replace H := condT hc H
    refine WpC.seq (WpC.regionL ?_)
    refine L.assign hF rfl rfl rfl (L.nil ?_)
    refine WpC.ret ?_
    cases H
    exact Leaves.ret rfl rfl rfl ⟨rfl, rfl⟩
   ·replace H := condF hc H
    refine WpC.skip (WpC.seq (WpC.regionL ?_))
    refine L.move hF rfl rfl rfl ?_
    refine L.bin hF rfl rfl rfl rfl rfl rfl ?_
    refine L.assign hF rfl rfl rfl (L.nil ?_)
    refine WpC.seq (WpC.seq (WpC.regionL ?_))
    refine L.move hF rfl rfl rfl ?_
    refine L.move hF rfl rfl rfl ?_
    obtain ⟨b108, hb108, H⟩ := bindS H
    refine L.idxR (xs := v94) (e := eTimpl_Wait) Try.underlying66 info172 hF rfl rfl rfl rfl rfl hb108 rfl rfl ?_
    refine L.fieldAddr Try.underlying172 rfl info3 rfl hF rfl rfl rfl rfl rfl ?_
    refine L.loadPe shape3 hF rfl rfl rfl rfl rfl ?_
    refine L.move hF rfl rfl rfl ?_
    refine L.bin hF rfl rfl rfl rfl rfl rfl (L.nil ?_)
    refine WpC.cond rfl (fun hc => ?_) (fun hc => ?_)
    ·replace H := condT hc H
     refine WpC.seq (WpC.regionL ?_)
     refine L.assign hF rfl rfl rfl (L.nil ?_)
     refine WpC.ret ?_
     cases H
     exact Leaves.ret rfl rfl rfl ⟨rfl, rfl⟩
    ·replace H := condF hc H
     refine WpC.skip (WpC.seq (WpC.regionL ?_))
     refine L.move hF rfl rfl rfl ?_
     refine L.bin hF rfl rfl rfl rfl rfl rfl ?_
     refine L.assign hF rfl rfl rfl (L.nil ?_)
     refine WpC.seq (WpC.seq (WpC.regionL ?_))
     refine L.move hF rfl rfl rfl ?_
     refine L.move hF rfl rfl rfl ?_
     obtain ⟨b110, hb110, H⟩ := bindS H
     refine L.idxR (xs := v94) (e := eTimpl_Wait) Try.underlying66 info172 hF rfl rfl rfl rfl rfl hb110 rfl rfl ?_
     refine L.fieldAddr Try.underlying172 rfl info3 rfl hF rfl rfl rfl rfl rfl ?_
     refine L.loadPe shape3 hF rfl rfl rfl rfl rfl ?_
     refine L.move hF rfl rfl rfl ?_
     refine L.bin hF rfl rfl rfl rfl rfl rfl (L.nil ?_)
     refine WpC.cond rfl (fun hc => ?_) (fun hc => ?_)
     ·replace H := condT hc H
      refine WpC.seq (WpC.regionL ?_)
      refine L.assign hF rfl rfl rfl (L.nil ?_)
      refine WpC.ret ?_
      cases H
      exact Leaves.ret rfl rfl rfl ⟨rfl, rfl⟩
     ·replace H := condF hc H
      refine WpC.skip (WpC.seq (WpC.regionL ?_))
      refine L.move hF rfl rfl rfl ?_
      refine L.bin hF rfl rfl rfl rfl rfl rfl ?_
      refine L.assign hF rfl rfl rfl (L.nil ?_)
      refine WpC.seq (WpC.seq (WpC.regionL ?_))
      refine L.move hF rfl rfl rfl ?_
      refine L.move hF rfl rfl rfl ?_
      obtain ⟨b112, hb112, H⟩ := bindS H
      refine L.idxR (xs := v94) (e := eTimpl_Wait) Try.underlying66 info172 hF rfl rfl rfl rfl rfl hb112 rfl rfl ?_
      refine L.fieldAddr Try.underlying172 rfl info3 rfl hF rfl rfl rfl rfl rfl ?_
      refine L.loadPe shape3 hF rfl rfl rfl rfl rfl ?_
      refine L.move hF rfl rfl rfl ?_
      refine L.bin hF rfl rfl rfl rfl rfl rfl (L.nil ?_)
      refine WpC.cond rfl (fun hc => ?_) (fun hc => ?_)
      ·replace H := condT hc H
       refine WpC.seq (WpC.regionL ?_)
       refine L.assign hF rfl rfl rfl (L.nil ?_)
       refine WpC.ret ?_
       cases H
       exact Leaves.ret rfl rfl rfl ⟨rfl, rfl⟩
      ·replace H := condF hc H
       refine WpC.skip (WpC.regionL ?_)
       refine L.move hF rfl rfl rfl ?_
       refine L.bin hF rfl rfl rfl rfl rfl rfl ?_
       refine L.assign hF rfl rfl rfl (L.nil ?_)
       refine WpC.regionL ?_
       refine L.move hF rfl rfl rfl ?_
       refine L.bin hF rfl rfl rfl rfl rfl rfl ?_
       refine L.assign hF rfl rfl rfl (L.nil ?_)
       exact ⟨k2, _, by omega, ⟨v94, (IntKind.i64.wrap ((IntKind.i64.wrap ((IntKind.i64.wrap ((IntKind.i64.wrap (v95 + (1 : Int))) + (1 : Int))) + (1 : Int))) + (1 : Int))), (IntKind.i64.wrap (v96 + (1 : Int))), by omega, H, rfl⟩, Le.mk [] hm rfl (Sa2 (Sa1 trivial)) trivial trivial⟩
  ·replace H := condF hc H
   refine WpC.exit (WpC.seq (WpC.regionL ?_))
   refine L.move hF rfl rfl rfl ?_
   refine L.assign hF rfl rfl rfl (L.nil ?_)
   refine WpC.ret ?_
   cases H
   exact Leaves.ret rfl rfl rfl ⟨rfl, rfl⟩
/-! ### Flaws_heldCredS -/
def Flaws_heldCredS.l2 : Nat → (List Timpl_Cred) → Int → Int → Option Int
 | 0, _, _, _ => none
 | k2 + 1, v194, v195, v196 => cond (decide (v196 < (v194.length : Int))) ((at? v194 v196).bind fun b216 => cond (b216.Owner != v195) (some (-1 : Int)) ((at? v194 v196).bind fun b218 => cond (b218.Client != (IntKind.i64.wrap (v195 + (1 : Int)))) (some (-1 : Int)) ((at? v194 v196).bind fun b220 => cond (b220.Service != (IntKind.i64.wrap ((IntKind.i64.wrap (v195 + (1 : Int))) + (1 : Int)))) (some (-1 : Int)) ((at? v194 v196).bind fun b222 => cond (b222.Key != (IntKind.i64.wrap ((IntKind.i64.wrap ((IntKind.i64.wrap (v195 + (1 : Int))) + (1 : Int))) + (1 : Int)))) (some (-1 : Int)) ((at? v194 v196).bind fun b224 => cond (b224.Rest.Servers != (IntKind.i64.wrap ((IntKind.i64.wrap ((IntKind.i64.wrap ((IntKind.i64.wrap (v195 + (1 : Int))) + (1 : Int))) + (1 : Int))) + (1 : Int)))) (some (-1 : Int)) ((at? v194 v196).bind fun b226 => cond (b226.Rest.Ops != (IntKind.i64.wrap ((IntKind.i64.wrap ((IntKind.i64.wrap ((IntKind.i64.wrap ((IntKind.i64.wrap (v195 + (1 : Int))) + (1 : Int))) + (1 : Int))) + (1 : Int))) + (1 : Int)))) (some (-1 : Int)) ((at? v194 v196).bind fun b228 => cond (b228.Rest.End != (IntKind.i64.wrap ((IntKind.i64.wrap ((IntKind.i64.wrap ((IntKind.i64.wrap ((IntKind.i64.wrap ((IntKind.i64.wrap (v195 + (1 : Int))) + (1 : Int))) + (1 : Int))) + (1 : Int))) + (1 : Int))) + (1 : Int)))) (some (-1 : Int)) ((at? v194 v196).bind fun b231 => (Flaws_markText k2 (IntKind.i64.wrap ((IntKind.i64.wrap ((IntKind.i64.wrap ((IntKind.i64.wrap ((IntKind.i64.wrap ((IntKind.i64.wrap ((IntKind.i64.wrap (v195 + (1 : Int))) + (1 : Int))) + (1 : Int))) + (1 : Int))) + (1 : Int))) + (1 : Int))) + (1 : Int)))).bind fun r232 => cond (b231.Ticket != r232) (some (-1 : Int)) ((Flaws_heldCredS.l2 k2) v194 (IntKind.i64.wrap ((IntKind.i64.wrap ((IntKind.i64.wrap ((IntKind.i64.wrap ((IntKind.i64.wrap ((IntKind.i64.wrap ((IntKind.i64.wrap ((IntKind.i64.wrap (v195 + (1 : Int))) + (1 : Int))) + (1 : Int))) + (1 : Int))) + (1 : Int))) + (1 : Int))) + (1 : Int))) + (1 : Int))) (IntKind.i64.wrap (v196 + (1 : Int)))))))))))) (some v195)
def Flaws_heldCredS (k : Nat) (a0 : List Timpl_Cred) (a1 : Int) : Option Int := Flaws_heldCredS.l2 k a0 a1 (0 : Int)
theorem ent117 : MG.Enters Try.prog 117 := ⟨Try.f117, Try.func117, rfl, by decide⟩
set_option maxHeartbeats 8000000 in
set_option maxRecDepth 100000 in
theorem Flaws_heldCredS_gives (k : Nat) (g0 : Bool) (a0 : List Timpl_Cred) (a1 : Int) (r : Int) (H : Flaws_heldCredS k a0 a1 = some r) : Gives Try.prog 117 [V.one (Cell.sl g0 (List.map eTimpl_Cred a0)), V.one (cI a1)] [] [V.one (cI r)] [] := by
 refine Gives.intro Try.func117 rfl rfl rfl rfl ?_
 intro F hF hm
 unfold Flaws_heldCredS at H
 obtain ⟨K, hK⟩ : ∃ K, k ≤ K := ⟨k, Nat.le_refl k⟩
 refine WpC.seq (WpC.regionL ?_)
 refine L.assign hF rfl rfl rfl (L.nil ?_)
 refine WpC.seq (WpC.seq (WpC.regionL ?_))
 refine L.assign hF rfl rfl rfl (L.nil ?_)
 refine WpC.block ?_
 refine WpC.loopL (P := Try.prog) (fun n σ => ∃ v194 : List Timpl_Cred, ∃ v195 : Int, ∃ v196 : Int, n ≤ K ∧ Flaws_heldCredS.l2 n v194 v195 v196 = some r ∧ σ = mkSt [(0, one (Cell.sl g0 (List.map eTimpl_Cred v194))), (1, one (cI v195)), (5, one (cI v196))] [] [] 0) k ⟨_, ⟨a0, a1, (0 : Int), by omega, H, rfl⟩, Le.mk [] hm rfl (Sa2 (Sa1 trivial)) trivial trivial⟩ ?_
 clear H
 rintro k2 _ ⟨v194, v195, v196, hk2, H, rfl⟩
 cases k2 with
 | zero => cases H
 | succ k2 =>
  rw [Flaws_heldCredS.l2] at H
  refine WpC.seq (WpC.seq (WpC.regionL ?_))
  refine L.move hF rfl rfl rfl ?_
  refine L.move hF rfl rfl rfl ?_
  refine L.lenR (xs := v194) (e := eTimpl_Cred) Try.underlying67 hF rfl rfl rfl rfl ?_
  refine L.bin hF rfl rfl rfl rfl rfl rfl (L.nil ?_)
  refine WpC.cond rfl (fun hc => ?_) (fun hc => ?_)
  ·replace H := condT hc H
   refine WpC.skip (WpC.seq (WpC.block (WpC.seq (WpC.seq (WpC.regionL ?_)))))
   refine L.move hF rfl rfl rfl ?_
   refine L.move hF rfl rfl rfl ?_
   obtain ⟨b216, hb216, H⟩ := bindS H
   refine L.idxR (xs := v194) (e := eTimpl_Cred) Try.underlying67 info177 hF rfl rfl rfl rfl rfl hb216 rfl rfl ?_
   refine L.fieldAddr Try.underlying177 rfl info3 rfl hF rfl rfl rfl rfl rfl ?_
   refine L.loadPe shape3 hF rfl rfl rfl rfl rfl ?_
   refine L.move hF rfl rfl rfl ?_
   refine L.bin hF rfl rfl rfl rfl rfl rfl (L.nil ?_)
   refine WpC.cond rfl (fun hc => ?_) (fun hc => ?_)
   ·replace H := condT hc H
    refine WpC.seq (WpC.regionL ?_)
    refine L.assign hF rfl rfl rfl (L.nil ?_)
    refine WpC.ret ?_
    cases H
    exact Leaves.ret rfl rfl rfl ⟨rfl, rfl⟩
   ·replace H := condF hc H
    refine WpC.skip (WpC.seq (WpC.regionL ?_))
    refine L.move hF rfl rfl rfl ?_
    refine L.bin hF rfl rfl rfl rfl rfl rfl ?_
    refine L.assign hF rfl rfl rfl (L.nil ?_)
    refine WpC.seq (WpC.seq (WpC.regionL ?_))
    refine L.move hF rfl rfl rfl ?_
    refine L.move hF rfl rfl rfl ?_
    obtain ⟨b218, hb218, H⟩ := bindS H
    refine L.idxR (xs := v194) (e := eTimpl_Cred) Try.underlying67 info177 hF rfl rfl rfl rfl rfl hb218 rfl rfl ?_
    refine L.fieldAddr Try.underlying177 rfl info3 rfl hF rfl rfl rfl rfl rfl ?_
    refine L.loadPe shape3 hF rfl rfl rfl rfl rfl ?_
    refine L.move hF rfl rfl rfl ?_
    refine L.bin hF rfl rfl rfl rfl rfl rfl (L.nil ?_)
    refine WpC.cond rfl (fun hc => ?_) (fun hc => ?_)
    ·replace H := condT hc H
     refine WpC.seq (WpC.regionL ?_)
     refine L.assign hF rfl rfl rfl (L.nil ?_)
     refine WpC.ret ?_
     cases H
     exact Leaves.ret rfl rfl rfl ⟨rfl, rfl⟩
    ·replace H := condF hc H
     refine WpC.skip (WpC.seq (WpC.regionL ?_))
     refine L.move hF rfl rfl rfl ?_
     refine L.bin hF rfl rfl rfl rfl rfl rfl ?_
     refine L.assign hF rfl rfl rfl (L.nil ?_)
     refine WpC.seq (WpC.seq (WpC.regionL ?_))
     refine L.move hF rfl rfl rfl ?_
     refine L.move hF rfl rfl rfl ?_
     obtain ⟨b220, hb220, H⟩ := bindS H
     refine L.idxR (xs := v194) (e := eTimpl_Cred) Try.underlying67 info177 hF rfl rfl rfl rfl rfl hb220 rfl rfl ?_
     refine L.fieldAddr Try.underlying177 rfl info3 rfl hF rfl rfl rfl rfl rfl ?_
     refine L.loadPe shape3 hF rfl rfl rfl rfl rfl ?_
     refine L.move hF rfl rfl rfl ?_
     refine L.bin hF rfl rfl rfl rfl rfl rfl (L.nil ?_)
     refine WpC.cond rfl (fun hc => ?_) (fun hc => ?_)
     ·replace H := condT hc H
      refine WpC.seq (WpC.regionL ?_)
      refine L.assign hF rfl rfl rfl (L.nil ?_)
      refine WpC.ret ?_
      cases H
      exact Leaves.ret rfl rfl rfl ⟨rfl, rfl⟩
     ·replace H := condF hc H
      refine WpC.skip (WpC.seq (WpC.regionL ?_))
      refine L.move hF rfl rfl rfl ?_
      refine L.bin hF rfl rfl rfl rfl rfl rfl ?_
      refine L.assign hF rfl rfl rfl (L.nil ?_)
      refine WpC.seq (WpC.seq (WpC.regionL ?_))
      refine L.move hF rfl rfl rfl ?_
      refine L.move hF rfl rfl rfl ?_
      obtain ⟨b222, hb222, H⟩ := bindS H
      refine L.idxR (xs := v194) (e := eTimpl_Cred) Try.underlying67 info177 hF rfl rfl rfl rfl rfl hb222 rfl rfl ?_
      refine L.fieldAddr Try.underlying177 rfl info3 rfl hF rfl rfl rfl rfl rfl ?_
      refine L.loadPe shape3 hF rfl rfl rfl rfl rfl ?_
      refine L.move hF rfl rfl rfl ?_
      refine L.bin hF rfl rfl rfl rfl rfl rfl (L.nil ?_)
      refine WpC.cond rfl (fun hc => ?_) (fun hc => ?_)
      ·replace H := condT hc H
       refine WpC.seq (WpC.regionL ?_)
       refine L.assign hF rfl rfl rfl (L.nil ?_)
       refine WpC.ret ?_
       cases H
       exact Leaves.ret rfl rfl rfl ⟨rfl, rfl⟩
      ·replace H := condF hc H
       refine WpC.skip (WpC.seq (WpC.regionL ?_))
       refine L.move hF rfl rfl rfl ?_
       refine L.bin hF rfl rfl rfl rfl rfl rfl ?_
       refine L.assign hF rfl rfl rfl (L.nil ?_)
       refine WpC.seq (WpC.seq (WpC.regionL ?_))
       refine L.move hF rfl rfl rfl ?_
       refine L.move hF rfl rfl rfl ?_
       obtain ⟨b224, hb224, H⟩ := bindS H
       refine L.idxR (xs := v194) (e := eTimpl_Cred) Try.underlying67 info177 hF rfl rfl rfl rfl rfl hb224 rfl rfl ?_
       refine L.fieldAddr Try.underlying177 rfl info175 rfl hF rfl rfl rfl rfl rfl ?_
       refine L.fieldAddr Try.underlying175 rfl info3 rfl hF rfl rfl rfl rfl rfl ?_
       refine L.loadPe shape3 hF rfl rfl rfl rfl rfl ?_
       refine L.move hF rfl rfl rfl ?_
       refine L.bin hF rfl rfl rfl rfl rfl rfl (L.nil ?_)
       refine WpC.cond rfl (fun hc => ?_) (fun hc => ?_)
       ·replace H := condT hc H
        refine WpC.seq (WpC.regionL ?_)
        refine L.assign hF rfl rfl rfl (L.nil ?_)
        refine WpC.ret ?_
        cases H
        exact Leaves.ret rfl rfl rfl ⟨rfl, rfl⟩
       ·replace H := condF hc H
        refine WpC.skip (WpC.seq (WpC.regionL ?_))
        refine L.move hF rfl rfl rfl ?_
        refine L.bin hF rfl rfl rfl rfl rfl rfl ?_
        refine L.assign hF rfl rfl rfl (L.nil ?_)
        refine WpC.seq (WpC.seq (WpC.regionL ?_))
        refine L.move hF rfl rfl rfl ?_
        refine L.move hF rfl rfl rfl ?_
        obtain ⟨b226, hb226, H⟩ := bindS H
        refine L.idxR (xs := v194) (e := eTimpl_Cred) Try.underlying67 info177 hF rfl rfl rfl rfl rfl hb226 rfl rfl ?_
        refine L.fieldAddr Try.underlying177 rfl info175 rfl hF rfl rfl rfl rfl rfl ?_
        refine L.fieldAddr Try.underlying175 rfl info3 rfl hF rfl rfl rfl rfl rfl ?_
        refine L.loadPe shape3 hF rfl rfl rfl rfl rfl ?_
        refine L.move hF rfl rfl rfl ?_
        refine L.bin hF rfl rfl rfl rfl rfl rfl (L.nil ?_)
        refine WpC.cond rfl (fun hc => ?_) (fun hc => ?_)
        ·replace H := condT hc H
         refine WpC.seq (WpC.regionL ?_)
         refine L.assign hF rfl rfl rfl (L.nil ?_)
         refine WpC.ret ?_
         cases H
         exact Leaves.ret rfl rfl rfl ⟨rfl, rfl⟩
        ·replace H := condF hc H
         refine WpC.skip (WpC.seq (WpC.regionL ?_))
         refine L.move hF rfl rfl rfl ?_
         refine L.bin hF rfl rfl rfl rfl rfl rfl ?_
         refine L.assign hF rfl rfl rfl (L.nil ?_)
         refine WpC.seq (WpC.seq (WpC.regionL ?_))
         refine L.move hF rfl rfl rfl ?_
         refine L.move hF rfl rfl rfl ?_
         obtain ⟨b228, hb228, H⟩ := bindS H
         refine L.idxR (xs := v194) (e := eTimpl_Cred) Try.underlying67 info177 hF rfl rfl rfl rfl rfl hb228 rfl rfl ?_
         refine L.fieldAddr Try.underlying177 rfl info175 rfl hF rfl rfl rfl rfl rfl ?_
         refine L.fieldAddr Try.underlying175 rfl info3 rfl hF rfl rfl rfl rfl rfl ?_
         refine L.loadPe shape3 hF rfl rfl rfl rfl rfl ?_
         refine L.move hF rfl rfl rfl ?_
         refine L.bin hF rfl rfl rfl rfl rfl rfl (L.nil ?_)
         refine WpC.cond rfl (fun hc => ?_) (fun hc => ?_)
         ·replace H := condT hc H
          refine WpC.seq (WpC.regionL ?_)
          refine L.assign hF rfl rfl rfl (L.nil ?_)
          refine WpC.ret ?_
          cases H
          exact Leaves.ret rfl rfl rfl ⟨rfl, rfl⟩
         ·replace H := condF hc H
          refine WpC.skip (WpC.seq (WpC.regionL ?_))
          refine L.move hF rfl rfl rfl ?_
          refine L.bin hF rfl rfl rfl rfl rfl rfl ?_
          refine L.assign hF rfl rfl rfl (L.nil ?_)
          refine WpC.seq (WpC.seq ?_)
          obtain ⟨b231, hb231, H⟩ := bindS H
          obtain ⟨r232, hr232, H⟩ := bindS H
          refine A.begin mixed rfl rfl ?_
          intro W hI hO
          have n127 : W 1 #[true, true, true, true, true, true, true, false] (mkSt [(0, one (Cell.sl g0 (List.map eTimpl_Cred v194))), (1, one (cI (IntKind.i64.wrap ((IntKind.i64.wrap ((IntKind.i64.wrap ((IntKind.i64.wrap ((IntKind.i64.wrap ((IntKind.i64.wrap ((IntKind.i64.wrap (v195 + (1 : Int))) + (1 : Int))) + (1 : Int))) + (1 : Int))) + (1 : Int))) + (1 : Int))) + (1 : Int))))), (5, one (cI v196)), (82, one (cS b231.Ticket)), (84, one (cS r232))] [] [] 0) := by
           refine hI _ _ _ ?_
           refine Atk 7 rfl (Ca.bin rfl rfl (calm_str _ _ _ _ _ _)) (fun Q0 k0 => L.binS hF rfl rfl rfl rfl rfl (L.nil k0)) ?_
           refine A.le (τ := mkSt [(0, one (Cell.sl g0 (List.map eTimpl_Cred v194))), (1, one (cI (IntKind.i64.wrap ((IntKind.i64.wrap ((IntKind.i64.wrap ((IntKind.i64.wrap ((IntKind.i64.wrap ((IntKind.i64.wrap ((IntKind.i64.wrap (v195 + (1 : Int))) + (1 : Int))) + (1 : Int))) + (1 : Int))) + (1 : Int))) + (1 : Int))) + (1 : Int))))), (5, one (cI v196)), (85, one (cL (b231.Ticket != r232)))] [] [] 0) (Le.mk [] hm rfl (Sa4 trivial) trivial trivial) ?_
           refine A.done (by kernel_rfl) ?_
           refine WpC.cond rfl (fun hc => ?_) (fun hc => ?_)
           ·replace H := condT hc H
            refine WpC.seq (WpC.regionL ?_)
            refine L.assign hF rfl rfl rfl (L.nil ?_)
            refine WpC.ret ?_
            cases H
            exact Leaves.ret rfl rfl rfl ⟨rfl, rfl⟩
           ·replace H := condF hc H
            refine WpC.skip (WpC.regionL ?_)
            refine L.move hF rfl rfl rfl ?_
            refine L.bin hF rfl rfl rfl rfl rfl rfl ?_
            refine L.assign hF rfl rfl rfl (L.nil ?_)
            refine WpC.regionL ?_
            refine L.move hF rfl rfl rfl ?_
            refine L.bin hF rfl rfl rfl rfl rfl rfl ?_
            refine L.assign hF rfl rfl rfl (L.nil ?_)
            exact ⟨k2, _, by omega, ⟨v194, (IntKind.i64.wrap ((IntKind.i64.wrap ((IntKind.i64.wrap ((IntKind.i64.wrap ((IntKind.i64.wrap ((IntKind.i64.wrap ((IntKind.i64.wrap ((IntKind.i64.wrap (v195 + (1 : Int))) + (1 : Int))) + (1 : Int))) + (1 : Int))) + (1 : Int))) + (1 : Int))) + (1 : Int))) + (1 : Int))), (IntKind.i64.wrap (v196 + (1 : Int))), by omega, H, rfl⟩, Le.mk [] hm rfl (Sa2 (Sa1 trivial)) trivial trivial⟩
          refine hI _ _ _ ?_
          refine Atk 0 rfl (Ca.move) (fun Q0 k0 => L.move hF rfl rfl rfl (L.nil k0)) ?_
          refine Atk 1 rfl (Ca.move) (fun Q0 k0 => L.move hF rfl rfl rfl (L.nil k0)) ?_
          refine Atk 2 rfl (Ca.indexAddr) (fun Q0 k0 => L.idxR (xs := v194) (e := eTimpl_Cred) Try.underlying67 info177 hF rfl rfl rfl rfl rfl hb231 rfl rfl (L.nil k0)) ?_
          refine Atk 3 rfl (Ca.fieldAddr Try.underlying177 rfl info9 rfl) (fun Q0 k0 => L.fieldAddr Try.underlying177 rfl info9 rfl hF rfl rfl rfl rfl rfl (L.nil k0)) ?_
          refine Atk 5 rfl (Ca.move) (fun Q0 k0 => L.move hF rfl rfl rfl (L.nil k0)) ?_
          refine A.all [4, 6] (by kernel_rfl) rfl ⟨⟨_, rfl, ?_⟩, ⟨_, rfl, ?_⟩, trivial⟩
          ·refine L.loadPe shape9 hF rfl rfl rfl rfl rfl (L.nil ?_)
           refine A.all [6] (by kernel_rfl) rfl ⟨⟨_, rfl, ?_⟩, trivial⟩
           refine L.call [false] [] [] 0 hF rfl rfl rfl ent54 rfl rfl rfl rfl rfl (Flaws_markText_gives k2  (IntKind.i64.wrap ((IntKind.i64.wrap ((IntKind.i64.wrap ((IntKind.i64.wrap ((IntKind.i64.wrap ((IntKind.i64.wrap ((IntKind.i64.wrap (v195 + (1 : Int))) + (1 : Int))) + (1 : Int))) + (1 : Int))) + (1 : Int))) + (1 : Int))) + (1 : Int))) r232 hr232) rfl (L.nil ?_)
           exact A.on (hO _ _ _ n127) (Le.mk [] hm rfl (Sa4 (Sa1 trivial)) trivial trivial)
          ·refine L.call [false] [] [] 0 hF rfl rfl rfl ent54 rfl rfl rfl rfl rfl (Flaws_markText_gives k2  (IntKind.i64.wrap ((IntKind.i64.wrap ((IntKind.i64.wrap ((IntKind.i64.wrap ((IntKind.i64.wrap ((IntKind.i64.wrap ((IntKind.i64.wrap (v195 + (1 : Int))) + (1 : Int))) + (1 : Int))) + (1 : Int))) + (1 : Int))) + (1 : Int))) + (1 : Int))) r232 hr232) rfl (L.nil ?_)
           refine A.all [4] (by kernel_rfl) rfl ⟨⟨_, rfl, ?_⟩, trivial⟩
           refine L.loadPe shape9 hF rfl rfl rfl rfl rfl (L.nil ?_)
           exact A.on (hO _ _ _ n127) (Le.mk [] hm rfl (Sa4 (Sa1 trivial)) trivial trivial)
  ·replace H := condF hc H
   refine WpC.exit (WpC.seq (WpC.regionL ?_))
   refine L.move hF rfl rfl rfl ?_
   refine L.assign hF rfl rfl rfl (L.nil ?_)
   refine WpC.ret ?_
   cases H
   exact Leaves.ret rfl rfl rfl ⟨rfl, rfl⟩
/-! ### Flaws_heldAuthS -/
def Flaws_heldAuthS.l2 : Nat → (List Timpl_Auth) → Int → Int → Option Int
 | 0, _, _, _ => none
 | k2 + 1, v74, v75, v76 => cond (decide (v76 < (v74.length : Int))) ((at? v74 v76).bind fun b84 => cond (b84.Client != v75) (some (-1 : Int)) ((at? v74 v76).bind fun b86 => cond (b86.Time != (IntKind.i64.wrap (v75 + (1 : Int)))) (some (-1 : Int)) ((at? v74 v76).bind fun b88 => cond (b88.Seq != (IntKind.i64.wrap ((IntKind.i64.wrap (v75 + (1 : Int))) + (1 : Int)))) (some (-1 : Int)) ((Flaws_heldAuthS.l2 k2) v74 (IntKind.i64.wrap ((IntKind.i64.wrap ((IntKind.i64.wrap (v75 + (1 : Int))) + (1 : Int))) + (1 : Int))) (IntKind.i64.wrap (v76 + (1 : Int))))))) (some v75)
def Flaws_heldAuthS (k : Nat) (a0 : List Timpl_Auth) (a1 : Int) : Option Int := Flaws_heldAuthS.l2 k a0 a1 (0 : Int)
theorem ent151 : MG.Enters Try.prog 151 := ⟨Try.f151, Try.func151, rfl, by decide⟩
set_option maxHeartbeats 8000000 in
set_option maxRecDepth 100000 in
theorem Flaws_heldAuthS_gives (k : Nat) (g0 : Bool) (a0 : List Timpl_Auth) (a1 : Int) (r : Int) (H : Flaws_heldAuthS k a0 a1 = some r) : Gives Try.prog 151 [V.one (Cell.sl g0 (List.map eTimpl_Auth a0)), V.one (cI a1)] [] [V.one (cI r)] [] := by
 refine Gives.intro Try.func151 rfl rfl rfl rfl ?_
 intro F hF hm
 unfold Flaws_heldAuthS at H
 obtain ⟨K, hK⟩ : ∃ K, k ≤ K := ⟨k, Nat.le_refl k⟩
 refine WpC.seq (WpC.regionL ?_)
 refine L.assign hF rfl rfl rfl (L.nil ?_)
 refine WpC.seq (WpC.seq (WpC.regionL ?_))
 refine L.assign hF rfl rfl rfl (L.nil ?_)
 refine WpC.block ?_
 refine WpC.loopL (P := Try.prog) (fun n σ => ∃ v74 : List Timpl_Auth, ∃ v75 : Int, ∃ v76 : Int, n ≤ K ∧ Flaws_heldAuthS.l2 n v74 v75 v76 = some r ∧ σ = mkSt [(0, one (Cell.sl g0 (List.map eTimpl_Auth v74))), (1, one (cI v75)), (5, one (cI v76))] [] [] 0) k ⟨_, ⟨a0, a1, (0 : Int), by omega, H, rfl⟩, Le.mk [] hm rfl (Sa2 (Sa1 trivial)) trivial trivial⟩ ?_
 clear H
 rintro k2 _ ⟨v74, v75, v76, hk2, H, rfl⟩
 cases k2 with
 | zero => cases H
 | succ k2 =>
  rw [Flaws_heldAuthS.l2] at H
  refine WpC.seq (WpC.seq (WpC.regionL ?_))
  refine L.move hF rfl rfl rfl ?_
  refine L.move hF rfl rfl rfl ?_
  refine L.lenR (xs := v74) (e := eTimpl_Auth) Try.underlying128 hF rfl rfl rfl rfl ?_
  refine L.bin hF rfl rfl rfl rfl rfl rfl (L.nil ?_)
  refine WpC.cond rfl (fun hc => ?_) (fun hc => ?_)
  ·replace H := condT hc H
   refine WpC.skip (WpC.seq (WpC.block (WpC.seq (WpC.seq (WpC.regionL ?_)))))
   refine L.move hF rfl rfl rfl ?_
   refine L.move hF rfl rfl rfl ?_
   obtain ⟨b84, hb84, H⟩ := bindS H
   refine L.idxR (xs := v74) (e := eTimpl_Auth) Try.underlying128 info184 hF rfl rfl rfl rfl rfl hb84 rfl rfl ?_
   refine L.fieldAddr Try.underlying184 rfl info3 rfl hF rfl rfl rfl rfl rfl ?_
   refine L.loadPe shape3 hF rfl rfl rfl rfl rfl ?_
   refine L.move hF rfl rfl rfl ?_
   refine L.bin hF rfl rfl rfl rfl rfl rfl (L.nil ?_)
   refine WpC.cond rfl (fun hc => ?_) (fun hc => ?_)
   ·replace H := condT hc H
    refine WpC.seq (WpC.regionL ?_)
    refine L.assign hF rfl rfl rfl (L.nil ?_)
    refine WpC.ret ?_
    cases H
    exact Leaves.ret rfl rfl rfl ⟨rfl, rfl⟩
   ·replace H := condF hc H
    refine WpC.skip (WpC.seq (WpC.regionL ?_))
    refine L.move hF rfl rfl rfl ?_
    refine L.bin hF rfl rfl rfl rfl rfl rfl ?_
    refine L.assign hF rfl rfl rfl (L.nil ?_)
    refine WpC.seq (WpC.seq (WpC.regionL ?_))
    refine L.move hF rfl rfl rfl ?_
    refine L.move hF rfl rfl rfl ?_
    obtain ⟨b86, hb86, H⟩ := bindS H
    refine L.idxR (xs := v74) (e := eTimpl_Auth) Try.underlying128 info184 hF rfl rfl rfl rfl rfl hb86 rfl rfl ?_
    refine L.fieldAddr Try.underlying184 rfl info3 rfl hF rfl rfl rfl rfl rfl ?_
    refine L.loadPe shape3 hF rfl rfl rfl rfl rfl ?_
    refine L.move hF rfl rfl rfl ?_
    refine L.bin hF rfl rfl rfl rfl rfl rfl (L.nil ?_)
    refine WpC.cond rfl (fun hc => ?_) (fun hc => ?_)
    ·replace H := condT hc H
     refine WpC.seq (WpC.regionL ?_)
     refine L.assign hF rfl rfl rfl (L.nil ?_)
     refine WpC.ret ?_
     cases H
     exact Leaves.ret rfl rfl rfl ⟨rfl, rfl⟩
    ·replace H := condF hc H
     refine WpC.skip (WpC.seq (WpC.regionL ?_))
     refine L.move hF rfl rfl rfl ?_
     refine L.bin hF rfl rfl rfl rfl rfl rfl ?_
     refine L.assign hF rfl rfl rfl (L.nil ?_)
     refine WpC.seq (WpC.seq (WpC.regionL ?_))
     refine L.move hF rfl rfl rfl ?_
     refine L.move hF rfl rfl rfl ?_
     obtain ⟨b88, hb88, H⟩ := bindS H
     refine L.idxR (xs := v74) (e := eTimpl_Auth) Try.underlying128 info184 hF rfl rfl rfl rfl rfl hb88 rfl rfl ?_
     refine L.fieldAddr Try.underlying184 rfl info3 rfl hF rfl rfl rfl rfl rfl ?_
     refine L.loadPe shape3 hF rfl rfl rfl rfl rfl ?_
     refine L.move hF rfl rfl rfl ?_
     refine L.bin hF rfl rfl rfl rfl rfl rfl (L.nil ?_)
     refine WpC.cond rfl (fun hc => ?_) (fun hc => ?_)
     ·replace H := condT hc H
      refine WpC.seq (WpC.regionL ?_)
      refine L.assign hF rfl rfl rfl (L.nil ?_)
      refine WpC.ret ?_
      cases H
      exact Leaves.ret rfl rfl rfl ⟨rfl, rfl⟩
     ·replace H := condF hc H
      refine WpC.skip (WpC.regionL ?_)
      refine L.move hF rfl rfl rfl ?_
      refine L.bin hF rfl rfl rfl rfl rfl rfl ?_
      refine L.assign hF rfl rfl rfl (L.nil ?_)
      refine WpC.regionL ?_
      refine L.move hF rfl rfl rfl ?_
      refine L.bin hF rfl rfl rfl rfl rfl rfl ?_
      refine L.assign hF rfl rfl rfl (L.nil ?_)
      exact ⟨k2, _, by omega, ⟨v74, (IntKind.i64.wrap ((IntKind.i64.wrap ((IntKind.i64.wrap (v75 + (1 : Int))) + (1 : Int))) + (1 : Int))), (IntKind.i64.wrap (v76 + (1 : Int))), by omega, H, rfl⟩, Le.mk [] hm rfl (Sa2 (Sa1 trivial)) trivial trivial⟩
  ·replace H := condF hc H
   refine WpC.exit (WpC.seq (WpC.regionL ?_))
   refine L.move hF rfl rfl rfl ?_
   refine L.assign hF rfl rfl rfl (L.nil ?_)
   refine WpC.ret ?_
   cases H
   exact Leaves.ret rfl rfl rfl ⟨rfl, rfl⟩
/-! ### Flaws_heldCacheS -/
def Flaws_heldCacheS.l2 : Nat → (List Timpl_Cache) → Int → Int → Option Int
 | 0, _, _, _ => none
 | k2 + 1, v54, v55, v56 => cond (decide (v56 < (v54.length : Int))) ((at? v54 v56).bind fun b62 => cond (b62.Quiet != v55) (some (-1 : Int)) ((at? v54 v56).bind fun b63 => (Flaws_heldAuthS k2 b63.Seen (IntKind.i64.wrap (v55 + (1 : Int)))).bind fun r64 => cond (decide (r64 < (0 : Int))) (some (-1 : Int)) ((Flaws_heldCacheS.l2 k2) v54 r64 (IntKind.i64.wrap (v56 + (1 : Int)))))) (some v55)
def Flaws_heldCacheS (k : Nat) (a0 : List Timpl_Cache) (a1 : Int) : Option Int := Flaws_heldCacheS.l2 k a0 a1 (0 : Int)
theorem ent118 : MG.Enters Try.prog 118 := ⟨Try.f118, Try.func118, rfl, by decide⟩
set_option maxHeartbeats 8000000 in
set_option maxRecDepth 100000 in
theorem Flaws_heldCacheS_gives (k : Nat) (g0 : Bool) (a0 : List Timpl_Cache) (a1 : Int) (r : Int) (H : Flaws_heldCacheS k a0 a1 = some r) : Gives Try.prog 118 [V.one (Cell.sl g0 (List.map eTimpl_Cache a0)), V.one (cI a1)] [] [V.one (cI r)] [] := by
 refine Gives.intro Try.func118 rfl rfl rfl rfl ?_
 intro F hF hm
 unfold Flaws_heldCacheS at H
 obtain ⟨K, hK⟩ : ∃ K, k ≤ K := ⟨k, Nat.le_refl k⟩
 refine WpC.seq (WpC.regionL ?_)
 refine L.assign hF rfl rfl rfl (L.nil ?_)
 refine WpC.seq (WpC.seq (WpC.regionL ?_))
 refine L.assign hF rfl rfl rfl (L.nil ?_)
 refine WpC.block ?_
 refine WpC.loopL (P := Try.prog) (fun n σ => ∃ v54 : List Timpl_Cache, ∃ v55 : Int, ∃ v56 : Int, n ≤ K ∧ Flaws_heldCacheS.l2 n v54 v55 v56 = some r ∧ σ = mkSt [(0, one (Cell.sl g0 (List.map eTimpl_Cache v54))), (1, one (cI v55)), (5, one (cI v56))] [] [] 0) k ⟨_, ⟨a0, a1, (0 : Int), by omega, H, rfl⟩, Le.mk [] hm rfl (Sa2 (Sa1 trivial)) trivial trivial⟩ ?_
 clear H
 rintro k2 _ ⟨v54, v55, v56, hk2, H, rfl⟩
 cases k2 with
 | zero => cases H
 | succ k2 =>
  rw [Flaws_heldCacheS.l2] at H
  refine WpC.seq (WpC.seq (WpC.regionL ?_))
  refine L.move hF rfl rfl rfl ?_
  refine L.move hF rfl rfl rfl ?_
  refine L.lenR (xs := v54) (e := eTimpl_Cache) Try.underlying68 hF rfl rfl rfl rfl ?_
  refine L.bin hF rfl rfl rfl rfl rfl rfl (L.nil ?_)
  refine WpC.cond rfl (fun hc => ?_) (fun hc => ?_)
  ·replace H := condT hc H
   refine WpC.skip (WpC.seq (WpC.block (WpC.seq (WpC.seq (WpC.regionL ?_)))))
   refine L.move hF rfl rfl rfl ?_
   refine L.move hF rfl rfl rfl ?_
   obtain ⟨b62, hb62, H⟩ := bindS H
   refine L.idxR (xs := v54) (e := eTimpl_Cache) Try.underlying68 info130 hF rfl rfl rfl rfl rfl hb62 rfl rfl ?_
   refine L.fieldAddr Try.underlying130 rfl info3 rfl hF rfl rfl rfl rfl rfl ?_
   refine L.loadPe shape3 hF rfl rfl rfl rfl rfl ?_
   refine L.move hF rfl rfl rfl ?_
   refine L.bin hF rfl rfl rfl rfl rfl rfl (L.nil ?_)
   refine WpC.cond rfl (fun hc => ?_) (fun hc => ?_)
   ·replace H := condT hc H
    refine WpC.seq (WpC.regionL ?_)
    refine L.assign hF rfl rfl rfl (L.nil ?_)
    refine WpC.ret ?_
    cases H
    exact Leaves.ret rfl rfl rfl ⟨rfl, rfl⟩
   ·replace H := condF hc H
    refine WpC.skip (WpC.seq (WpC.regionL ?_))
    refine L.move hF rfl rfl rfl ?_
    refine L.bin hF rfl rfl rfl rfl rfl rfl ?_
    refine L.assign hF rfl rfl rfl (L.nil ?_)
    refine WpC.seq (WpC.regionL ?_)
    refine L.move hF rfl rfl rfl ?_
    refine L.move hF rfl rfl rfl ?_
    obtain ⟨b63, hb63, H⟩ := bindS H
    refine L.idxR (xs := v54) (e := eTimpl_Cache) Try.underlying68 info130 hF rfl rfl rfl rfl rfl hb63 rfl rfl ?_
    refine L.fieldAddr Try.underlying130 rfl info128 rfl hF rfl rfl rfl rfl rfl ?_
    refine L.loadPe shape128 hF rfl rfl rfl rfl rfl ?_
    refine L.move hF rfl rfl rfl ?_
    obtain ⟨r64, hr64, H⟩ := bindS H
    refine L.call [false, false] [] [] 0 hF rfl rfl rfl ent151 rfl rfl rfl rfl rfl (Flaws_heldAuthS_gives k2 g0 b63.Seen (IntKind.i64.wrap (v55 + (1 : Int))) r64 hr64) rfl ?_
    refine L.assign hF rfl rfl rfl (L.nil ?_)
    refine WpC.seq (WpC.regionL ?_)
    refine L.move hF rfl rfl rfl ?_
    refine L.bin hF rfl rfl rfl rfl rfl rfl (L.nil ?_)
    refine WpC.cond rfl (fun hc => ?_) (fun hc => ?_)
    ·replace H := condT hc H
     refine WpC.seq (WpC.regionL ?_)
     refine L.assign hF rfl rfl rfl (L.nil ?_)
     refine WpC.ret ?_
     cases H
     exact Leaves.ret rfl rfl rfl ⟨rfl, rfl⟩
    ·replace H := condF hc H
     refine WpC.skip (WpC.regionL ?_)
     refine L.move hF rfl rfl rfl ?_
     refine L.bin hF rfl rfl rfl rfl rfl rfl ?_
     refine L.assign hF rfl rfl rfl (L.nil ?_)
     exact ⟨k2, _, by omega, ⟨v54, r64, (IntKind.i64.wrap (v56 + (1 : Int))), by omega, H, rfl⟩, Le.mk [] hm rfl (Sa2 (Sa1 trivial)) trivial trivial⟩
  ·replace H := condF hc H
   refine WpC.exit (WpC.seq (WpC.regionL ?_))
   refine L.move hF rfl rfl rfl ?_
   refine L.assign hF rfl rfl rfl (L.nil ?_)
   refine WpC.ret ?_
   cases H
   exact Leaves.ret rfl rfl rfl ⟨rfl, rfl⟩
/-! ### Flaws_heldEventS -/
def Flaws_heldEventS.l2 : Nat → (List Timpl_Event) → Int → Int → Option Int
 | 0, _, _, _ => none
 | k2 + 1, v234, v235, v236 => cond (decide (v236 < (v234.length : Int))) ((at? v234 v236).bind fun b260 => cond (b260.Kind != v235) (some (-1 : Int)) ((at? v234 v236).bind fun b262 => cond (b262.Realm != (IntKind.i64.wrap (v235 + (1 : Int)))) (some (-1 : Int)) ((at? v234 v236).bind fun b264 => cond (b264.By != (IntKind.i64.wrap ((IntKind.i64.wrap (v235 + (1 : Int))) + (1 : Int)))) (some (-1 : Int)) ((at? v234 v236).bind fun b266 => cond (b266.Client != (IntKind.i64.wrap ((IntKind.i64.wrap ((IntKind.i64.wrap (v235 + (1 : Int))) + (1 : Int))) + (1 : Int)))) (some (-1 : Int)) ((at? v234 v236).bind fun b268 => cond (b268.Service != (IntKind.i64.wrap ((IntKind.i64.wrap ((IntKind.i64.wrap ((IntKind.i64.wrap (v235 + (1 : Int))) + (1 : Int))) + (1 : Int))) + (1 : Int)))) (some (-1 : Int)) ((at? v234 v236).bind fun b270 => cond (b270.Key != (IntKind.i64.wrap ((IntKind.i64.wrap ((IntKind.i64.wrap ((IntKind.i64.wrap ((IntKind.i64.wrap (v235 + (1 : Int))) + (1 : Int))) + (1 : Int))) + (1 : Int))) + (1 : Int)))) (some (-1 : Int)) ((at? v234 v236).bind fun b272 => cond (b272.Parent != (IntKind.i64.wrap ((IntKind.i64.wrap ((IntKind.i64.wrap ((IntKind.i64.wrap ((IntKind.i64.wrap ((IntKind.i64.wrap (v235 + (1 : Int))) + (1 : Int))) + (1 : Int))) + (1 : Int))) + (1 : Int))) + (1 : Int)))) (some (-1 : Int)) ((at? v234 v236).bind fun b274 => cond (b274.Evid != (IntKind.i64.wrap ((IntKind.i64.wrap ((IntKind.i64.wrap ((IntKind.i64.wrap ((IntKind.i64.wrap ((IntKind.i64.wrap ((IntKind.i64.wrap (v235 + (1 : Int))) + (1 : Int))) + (1 : Int))) + (1 : Int))) + (1 : Int))) + (1 : Int))) + (1 : Int)))) (some (-1 : Int)) ((at? v234 v236).bind fun b276 => cond (b276.Rest.Servers != (IntKind.i64.wrap ((IntKind.i64.wrap ((IntKind.i64.wrap ((IntKind.i64.wrap ((IntKind.i64.wrap ((IntKind.i64.wrap ((IntKind.i64.wrap ((IntKind.i64.wrap (v235 + (1 : Int))) + (1 : Int))) + (1 : Int))) + (1 : Int))) + (1 : Int))) + (1 : Int))) + (1 : Int))) + (1 : Int)))) (some (-1 : Int)) ((at? v234 v236).bind fun b278 => cond (b278.Rest.Ops != (IntKind.i64.wrap ((IntKind.i64.wrap ((IntKind.i64.wrap ((IntKind.i64.wrap ((IntKind.i64.wrap ((IntKind.i64.wrap ((IntKind.i64.wrap ((IntKind.i64.wrap ((IntKind.i64.wrap (v235 + (1 : Int))) + (1 : Int))) + (1 : Int))) + (1 : Int))) + (1 : Int))) + (1 : Int))) + (1 : Int))) + (1 : Int))) + (1 : Int)))) (some (-1 : Int)) ((at? v234 v236).bind fun b280 => cond (b280.Rest.End != (IntKind.i64.wrap ((IntKind.i64.wrap ((IntKind.i64.wrap ((IntKind.i64.wrap ((IntKind.i64.wrap ((IntKind.i64.wrap ((IntKind.i64.wrap ((IntKind.i64.wrap ((IntKind.i64.wrap ((IntKind.i64.wrap (v235 + (1 : Int))) + (1 : Int))) + (1 : Int))) + (1 : Int))) + (1 : Int))) + (1 : Int))) + (1 : Int))) + (1 : Int))) + (1 : Int))) + (1 : Int)))) (some (-1 : Int)) ((Flaws_heldEventS.l2 k2) v234 (IntKind.i64.wrap ((IntKind.i64.wrap ((IntKind.i64.wrap ((IntKind.i64.wrap ((IntKind.i64.wrap ((IntKind.i64.wrap ((IntKind.i64.wrap ((IntKind.i64.wrap ((IntKind.i64.wrap ((IntKind.i64.wrap ((IntKind.i64.wrap (v235 + (1 : Int))) + (1 : Int))) + (1 : Int))) + (1 : Int))) + (1 : Int))) + (1 : Int))) + (1 : Int))) + (1 : Int))) + (1 : Int))) + (1 : Int))) + (1 : Int))) (IntKind.i64.wrap (v236 + (1 : Int))))))))))))))) (some v235)
def Flaws_heldEventS (k : Nat) (a0 : List Timpl_Event) (a1 : Int) : Option Int := Flaws_heldEventS.l2 k a0 a1 (0 : Int)
theorem ent119 : MG.Enters Try.prog 119 := ⟨Try.f119, Try.func119, rfl, by decide⟩
set_option maxHeartbeats 8000000 in
set_option maxRecDepth 100000 in
theorem Flaws_heldEventS_gives (k : Nat) (g0 : Bool) (a0 : List Timpl_Event) (a1 : Int) (r : Int) (H : Flaws_heldEventS k a0 a1 = some r) : Gives Try.prog 119 [V.one (Cell.sl g0 (List.map eTimpl_Event a0)), V.one (cI a1)] [] [V.one (cI r)] [] := by
 refine Gives.intro Try.func119 rfl rfl rfl rfl ?_
 intro F hF hm
 unfold Flaws_heldEventS at H
 obtain ⟨K, hK⟩ : ∃ K, k ≤ K := ⟨k, Nat.le_refl k⟩
 refine WpC.seq (WpC.regionL ?_)
 refine L.assign hF rfl rfl rfl (L.nil ?_)
 refine WpC.seq (WpC.seq (WpC.regionL ?_))
 refine L.assign hF rfl rfl rfl (L.nil ?_)
 refine WpC.block ?_
 refine WpC.loopL (P := Try.prog) (fun n σ => ∃ v234 : List Timpl_Event, ∃ v235 : Int, ∃ v236 : Int, n ≤ K ∧ Flaws_heldEventS.l2 n v234 v235 v236 = some r ∧ σ = mkSt [(0, one (Cell.sl g0 (List.map eTimpl_Event v234))), (1, one (cI v235)), (5, one (cI v236))] [] [] 0) k ⟨_, ⟨a0, a1, (0 : Int), by omega, H, rfl⟩, Le.mk [] hm rfl (Sa2 (Sa1 trivial)) trivial trivial⟩ ?_
 clear H
 rintro k2 _ ⟨v234, v235, v236, hk2, H, rfl⟩
 cases k2 with
 | zero => cases H
 | succ k2 =>
  rw [Flaws_heldEventS.l2] at H
  refine WpC.seq (WpC.seq (WpC.regionL ?_))
  refine L.move hF rfl rfl rfl ?_
  refine L.move hF rfl rfl rfl ?_
  refine L.lenR (xs := v234) (e := eTimpl_Event) Try.underlying69 hF rfl rfl rfl rfl ?_
  refine L.bin hF rfl rfl rfl rfl rfl rfl (L.nil ?_)
  refine WpC.cond rfl (fun hc => ?_) (fun hc => ?_)
  ·replace H := condT hc H
   refine WpC.skip (WpC.seq (WpC.block (WpC.seq (WpC.seq (WpC.regionL ?_)))))
   refine L.move hF rfl rfl rfl ?_
   refine L.move hF rfl rfl rfl ?_
   obtain ⟨b260, hb260, H⟩ := bindS H
   refine L.idxR (xs := v234) (e := eTimpl_Event) Try.underlying69 info181 hF rfl rfl rfl rfl rfl hb260 rfl rfl ?_
   refine L.fieldAddr Try.underlying181 rfl info3 rfl hF rfl rfl rfl rfl rfl ?_
   refine L.loadPe shape3 hF rfl rfl rfl rfl rfl ?_
   refine L.move hF rfl rfl rfl ?_
   refine L.bin hF rfl rfl rfl rfl rfl rfl (L.nil ?_)
   refine WpC.cond rfl (fun hc => ?_) (fun hc => ?_)
   ·replace H := condT hc H
    refine WpC.seq (WpC.regionL ?_)
    refine L.assign hF rfl rfl rfl (L.nil ?_)
    refine WpC.ret ?_
    cases H
    exact Leaves.ret rfl rfl rfl ⟨rfl, rfl⟩
   ·replace H := condF hc H
    refine WpC.skip (WpC.seq (WpC.regionL ?_))
    refine L.move hF rfl rfl rfl ?_
    refine L.bin hF rfl rfl rfl rfl rfl rfl ?_
    refine L.assign hF rfl rfl rfl (L.nil ?_)
    refine WpC.seq (WpC.seq (WpC.regionL ?_))
    refine L.move hF rfl rfl rfl ?_
    refine L.move hF rfl rfl rfl ?_
    obtain ⟨b262, hb262, H⟩ := bindS H
    refine L.idxR (xs := v234) (e := eTimpl_Event) Try.underlying69 info181 hF rfl rfl rfl rfl rfl hb262 rfl rfl ?_
    refine L.fieldAddr Try.underlying181 rfl info3 rfl hF rfl rfl rfl rfl rfl ?_
    refine L.loadPe shape3 hF rfl rfl rfl rfl rfl ?_
    refine L.move hF rfl rfl rfl ?_
    refine L.bin hF rfl rfl rfl rfl rfl rfl (L.nil ?_)
    refine WpC.cond rfl (fun hc => ?_) (fun hc => ?_)
    ·replace H := condT hc H
     refine WpC.seq (WpC.regionL ?_)
     refine L.assign hF rfl rfl rfl (L.nil ?_)
     refine WpC.ret ?_
     cases H
     exact Leaves.ret rfl rfl rfl ⟨rfl, rfl⟩
    ·replace H := condF hc H
     refine WpC.skip (WpC.seq (WpC.regionL ?_))
     refine L.move hF rfl rfl rfl ?_
     refine L.bin hF rfl rfl rfl rfl rfl rfl ?_
     refine L.assign hF rfl rfl rfl (L.nil ?_)
     refine WpC.seq (WpC.seq (WpC.regionL ?_))
     refine L.move hF rfl rfl rfl ?_
     refine L.move hF rfl rfl rfl ?_
     obtain ⟨b264, hb264, H⟩ := bindS H
     refine L.idxR (xs := v234) (e := eTimpl_Event) Try.underlying69 info181 hF rfl rfl rfl rfl rfl hb264 rfl rfl ?_
     refine L.fieldAddr Try.underlying181 rfl info3 rfl hF rfl rfl rfl rfl rfl ?_
     refine L.loadPe shape3 hF rfl rfl rfl rfl rfl ?_
     refine L.move hF rfl rfl rfl ?_
     refine L.bin hF rfl rfl rfl rfl rfl rfl (L.nil ?_)
     refine WpC.cond rfl (fun hc => ?_) (fun hc => ?_)
     ·replace H := condT hc H
      refine WpC.seq (WpC.regionL ?_)
      refine L.assign hF rfl rfl rfl (L.nil ?_)
      refine WpC.ret ?_
      cases H
      exact Leaves.ret rfl rfl rfl ⟨rfl, rfl⟩
     ·replace H := condF hc H
      refine WpC.skip (WpC.seq (WpC.regionL ?_))
      refine L.move hF rfl rfl rfl ?_
      refine L.bin hF rfl rfl rfl rfl rfl rfl ?_
      refine L.assign hF rfl rfl rfl (L.nil ?_)
      refine WpC.seq (WpC.seq (WpC.regionL ?_))
      refine L.move hF rfl rfl rfl ?_
      refine L.move hF rfl rfl rfl ?_
      obtain ⟨b266, hb266, H⟩ := bindS H
      refine L.idxR (xs := v234) (e := eTimpl_Event) Try.underlying69 info181 hF rfl rfl rfl rfl rfl hb266 rfl rfl ?_
      refine L.fieldAddr Try.underlying181 rfl info3 rfl hF rfl rfl rfl rfl rfl ?_
      refine L.loadPe shape3 hF rfl rfl rfl rfl rfl ?_
      refine L.move hF rfl rfl rfl ?_
      refine L.bin hF rfl rfl rfl rfl rfl rfl (L.nil ?_)
      refine WpC.cond rfl (fun hc => ?_) (fun hc => ?_)
      ·replace H := condT hc H
       refine WpC.seq (WpC.regionL ?_)
       refine L.assign hF rfl rfl rfl (L.nil ?_)
       refine WpC.ret ?_
       cases H
       exact Leaves.ret rfl rfl rfl ⟨rfl, rfl⟩
      ·replace H := condF hc H
       refine WpC.skip (WpC.seq (WpC.regionL ?_))
       refine L.move hF rfl rfl rfl ?_
       refine L.bin hF rfl rfl rfl rfl rfl rfl ?_
       refine L.assign hF rfl rfl rfl (L.nil ?_)
       refine WpC.seq (WpC.seq (WpC.regionL ?_))
       refine L.move hF rfl rfl rfl ?_
       refine L.move hF rfl rfl rfl ?_
       obtain ⟨b268, hb268, H⟩ := bindS H
       refine L.idxR (xs := v234) (e := eTimpl_Event) Try.underlying69 info181 hF rfl rfl rfl rfl rfl hb268 rfl rfl ?_
       refine L.fieldAddr Try.underlying181 rfl info3 rfl hF rfl rfl rfl rfl rfl ?_
       refine L.loadPe shape3 hF rfl rfl rfl rfl rfl ?_
       refine L.move hF rfl rfl rfl ?_
       refine L.bin hF rfl rfl rfl rfl rfl rfl (L.nil ?_)
       refine WpC.cond rfl (fun hc => ?_) (fun hc => ?_)
       ·replace H := condT hc H
        refine WpC.seq (WpC.regionL ?_)
        refine L.assign hF rfl rfl rfl (L.nil ?_)
        refine WpC.ret ?_
        cases H
        exact Leaves.ret rfl rfl rfl ⟨rfl, rfl⟩
       ·replace H := condF hc H
        refine WpC.skip (WpC.seq (WpC.regionL ?_))
        refine L.move hF rfl rfl rfl ?_
        refine L.bin hF rfl rfl rfl rfl rfl rfl ?_
        refine L.assign hF rfl rfl rfl (L.nil ?_)
        refine WpC.seq (WpC.seq (WpC.regionL ?_))
        refine L.move hF rfl rfl rfl ?_
        refine L.move hF rfl rfl rfl ?_
        obtain ⟨b270, hb270, H⟩ := bindS H
        refine L.idxR (xs := v234) (e := eTimpl_Event) Try.underlying69 info181 hF rfl rfl rfl rfl rfl hb270 rfl rfl ?_
        refine L.fieldAddr Try.underlying181 rfl info3 rfl hF rfl rfl rfl rfl rfl ?_
        refine L.loadPe shape3 hF rfl rfl rfl rfl rfl ?_
        refine L.move hF rfl rfl rfl ?_
        refine L.bin hF rfl rfl rfl rfl rfl rfl (L.nil ?_)
        refine WpC.cond rfl (fun hc => ?_) (fun hc => ?_)
        ·replace H := condT hc H
         refine WpC.seq (WpC.regionL ?_)
         refine L.assign hF rfl rfl rfl (L.nil ?_)
         refine WpC.ret ?_
         cases H
         exact Leaves.ret rfl rfl rfl ⟨rfl, rfl⟩
        ·replace H := condF hc H
         refine WpC.skip (WpC.seq (WpC.regionL ?_))
         refine L.move hF rfl rfl rfl ?_
         refine L.bin hF rfl rfl rfl rfl rfl rfl ?_
         refine L.assign hF rfl rfl rfl (L.nil ?_)
         refine WpC.seq (WpC.seq (WpC.regionL ?_))
         refine L.move hF rfl rfl rfl ?_
         refine L.move hF rfl rfl rfl ?_
         obtain ⟨b272, hb272, H⟩ := bindS H
         refine L.idxR (xs := v234) (e := eTimpl_Event) Try.underlying69 info181 hF rfl rfl rfl rfl rfl hb272 rfl rfl ?_
         refine L.fieldAddr Try.underlying181 rfl info3 rfl hF rfl rfl rfl rfl rfl ?_
         refine L.loadPe shape3 hF rfl rfl rfl rfl rfl ?_
         refine L.move hF rfl rfl rfl ?_
         refine L.bin hF rfl rfl rfl rfl rfl rfl (L.nil ?_)
         refine WpC.cond rfl (fun hc => ?_) (fun hc => ?_)
         ·replace H := condT hc H
          refine WpC.seq (WpC.regionL ?_)
          refine L.assign hF rfl rfl rfl (L.nil ?_)
          refine WpC.ret ?_
          cases H
          exact Leaves.ret rfl rfl rfl ⟨rfl, rfl⟩
         ·replace H := condF hc H
          refine WpC.skip (WpC.seq (WpC.regionL ?_))
          refine L.move hF rfl rfl rfl ?_
          refine L.bin hF rfl rfl rfl rfl rfl rfl ?_
          refine L.assign hF rfl rfl rfl (L.nil ?_)
          refine WpC.seq (WpC.seq (WpC.regionL ?_))
          refine L.move hF rfl rfl rfl ?_
          refine L.move hF rfl rfl rfl ?_
          obtain ⟨b274, hb274, H⟩ := bindS H
          refine L.idxR (xs := v234) (e := eTimpl_Event) Try.underlying69 info181 hF rfl rfl rfl rfl rfl hb274 rfl rfl ?_
          refine L.fieldAddr Try.underlying181 rfl info3 rfl hF rfl rfl rfl rfl rfl ?_
          refine L.loadPe shape3 hF rfl rfl rfl rfl rfl ?_
          refine L.move hF rfl rfl rfl ?_
          refine L.bin hF rfl rfl rfl rfl rfl rfl (L.nil ?_)
          refine WpC.cond rfl (fun hc => ?_) (fun hc => ?_)
          ·replace H := condT hc H
           refine WpC.seq (WpC.regionL ?_)
           refine L.assign hF rfl rfl rfl (L.nil ?_)
           refine WpC.ret ?_
           cases H
           exact Leaves.ret rfl rfl rfl ⟨rfl, rfl⟩
          ·replace H := condF hc H
           refine WpC.skip (WpC.seq (WpC.regionL ?_))
           refine L.move hF rfl rfl rfl ?_
           refine L.bin hF rfl rfl rfl rfl rfl rfl ?_
           refine L.assign hF rfl rfl rfl (L.nil ?_)
           refine WpC.seq (WpC.seq (WpC.regionL ?_))
           refine L.move hF rfl rfl rfl ?_
           refine L.move hF rfl rfl rfl ?_
           obtain ⟨b276, hb276, H⟩ := bindS H
           refine L.idxR (xs := v234) (e := eTimpl_Event) Try.underlying69 info181 hF rfl rfl rfl rfl rfl hb276 rfl rfl ?_
           refine L.fieldAddr Try.underlying181 rfl info175 rfl hF rfl rfl rfl rfl rfl ?_
           refine L.fieldAddr Try.underlying175 rfl info3 rfl hF rfl rfl rfl rfl rfl ?_
           refine L.loadPe shape3 hF rfl rfl rfl rfl rfl ?_
           refine L.move hF rfl rfl rfl ?_
           refine L.bin hF rfl rfl rfl rfl rfl rfl (L.nil ?_)
           refine WpC.cond rfl (fun hc => ?_) (fun hc => ?_)
           ·replace H := condT hc H
            refine WpC.seq (WpC.regionL ?_)
            refine L.assign hF rfl rfl rfl (L.nil ?_)
            refine WpC.ret ?_
            cases H
            exact Leaves.ret rfl rfl rfl ⟨rfl, rfl⟩
           ·replace H := condF hc H
            refine WpC.skip (WpC.seq (WpC.regionL ?_))
            refine L.move hF rfl rfl rfl ?_
            refine L.bin hF rfl rfl rfl rfl rfl rfl ?_
            refine L.assign hF rfl rfl rfl (L.nil ?_)
            refine WpC.seq (WpC.seq (WpC.regionL ?_))
            refine L.move hF rfl rfl rfl ?_
            refine L.move hF rfl rfl rfl ?_
            obtain ⟨b278, hb278, H⟩ := bindS H
            refine L.idxR (xs := v234) (e := eTimpl_Event) Try.underlying69 info181 hF rfl rfl rfl rfl rfl hb278 rfl rfl ?_
            refine L.fieldAddr Try.underlying181 rfl info175 rfl hF rfl rfl rfl rfl rfl ?_
            refine L.fieldAddr Try.underlying175 rfl info3 rfl hF rfl rfl rfl rfl rfl ?_
            refine L.loadPe shape3 hF rfl rfl rfl rfl rfl ?_
            refine L.move hF rfl rfl rfl ?_
            refine L.bin hF rfl rfl rfl rfl rfl rfl (L.nil ?_)
            refine WpC.cond rfl (fun hc => ?_) (fun hc => ?_)
            ·replace H := condT hc H
             refine WpC.seq (WpC.regionL ?_)
             refine L.assign hF rfl rfl rfl (L.nil ?_)
             refine WpC.ret ?_
             cases H
             exact Leaves.ret rfl rfl rfl ⟨rfl, rfl⟩
            ·replace H := condF hc H
             refine WpC.skip (WpC.seq (WpC.regionL ?_))
             refine L.move hF rfl rfl rfl ?_
             refine L.bin hF rfl rfl rfl rfl rfl rfl ?_
             refine L.assign hF rfl rfl rfl (L.nil ?_)
             refine WpC.seq (WpC.seq (WpC.regionL ?_))
             refine L.move hF rfl rfl rfl ?_
             refine L.move hF rfl rfl rfl ?_
             obtain ⟨b280, hb280, H⟩ := bindS H
             refine L.idxR (xs := v234) (e := eTimpl_Event) Try.underlying69 info181 hF rfl rfl rfl rfl rfl hb280 rfl rfl ?_
             refine L.fieldAddr Try.underlying181 rfl info175 rfl hF rfl rfl rfl rfl rfl ?_
             refine L.fieldAddr Try.underlying175 rfl info3 rfl hF rfl rfl rfl rfl rfl ?_
             refine L.loadPe shape3 hF rfl rfl rfl rfl rfl ?_
             refine L.move hF rfl rfl rfl ?_
             refine L.bin hF rfl rfl rfl rfl rfl rfl (L.nil ?_)
             refine WpC.cond rfl (fun hc => ?_) (fun hc => ?_)
             ·replace H := condT hc H
              refine WpC.seq (WpC.regionL ?_)
              refine L.assign hF rfl rfl rfl (L.nil ?_)
              refine WpC.ret ?_
              cases H
              exact Leaves.ret rfl rfl rfl ⟨rfl, rfl⟩
             ·replace H := condF hc H
              refine WpC.skip (WpC.regionL ?_)
              refine L.move hF rfl rfl rfl ?_
              refine L.bin hF rfl rfl rfl rfl rfl rfl ?_
              refine L.assign hF rfl rfl rfl (L.nil ?_)
              refine WpC.regionL ?_
              refine L.move hF rfl rfl rfl ?_
              refine L.bin hF rfl rfl rfl rfl rfl rfl ?_
              refine L.assign hF rfl rfl rfl (L.nil ?_)
              exact ⟨k2, _, by omega, ⟨v234, (IntKind.i64.wrap ((IntKind.i64.wrap ((IntKind.i64.wrap ((IntKind.i64.wrap ((IntKind.i64.wrap ((IntKind.i64.wrap ((IntKind.i64.wrap ((IntKind.i64.wrap ((IntKind.i64.wrap ((IntKind.i64.wrap ((IntKind.i64.wrap (v235 + (1 : Int))) + (1 : Int))) + (1 : Int))) + (1 : Int))) + (1 : Int))) + (1 : Int))) + (1 : Int))) + (1 : Int))) + (1 : Int))) + (1 : Int))) + (1 : Int))), (IntKind.i64.wrap (v236 + (1 : Int))), by omega, H, rfl⟩, Le.mk [] hm rfl (Sa2 (Sa1 trivial)) trivial trivial⟩
  ·replace H := condF hc H
   refine WpC.exit (WpC.seq (WpC.regionL ?_))
   refine L.move hF rfl rfl rfl ?_
   refine L.assign hF rfl rfl rfl (L.nil ?_)
   refine WpC.ret ?_
   cases H
   exact Leaves.ret rfl rfl rfl ⟨rfl, rfl⟩
/-! ### Flaws_heldAcceptS -/
def Flaws_heldAcceptS.l2 : Nat → (List Timpl_Accept) → Int → Int → Option Int
 | 0, _, _, _ => none
 | k2 + 1, v334, v335, v336 => cond (decide (v336 < (v334.length : Int))) ((at? v334 v336).bind fun b370 => cond (b370.Server != v335) (some (-1 : Int)) ((at? v334 v336).bind fun b372 => cond (b372.Client != (IntKind.i64.wrap (v335 + (1 : Int)))) (some (-1 : Int)) ((at? v334 v336).bind fun b374 => cond (b374.Key != (IntKind.i64.wrap ((IntKind.i64.wrap (v335 + (1 : Int))) + (1 : Int)))) (some (-1 : Int)) ((at? v334 v336).bind fun b376 => cond (b376.Op != (IntKind.i64.wrap ((IntKind.i64.wrap ((IntKind.i64.wrap (v335 + (1 : Int))) + (1 : Int))) + (1 : Int)))) (some (-1 : Int)) ((at? v334 v336).bind fun b378 => cond (b378.Now != (IntKind.i64.wrap ((IntKind.i64.wrap ((IntKind.i64.wrap ((IntKind.i64.wrap (v335 + (1 : Int))) + (1 : Int))) + (1 : Int))) + (1 : Int)))) (some (-1 : Int)) ((at? v334 v336).bind fun b380 => cond (b380.Auth.Client != (IntKind.i64.wrap ((IntKind.i64.wrap ((IntKind.i64.wrap ((IntKind.i64.wrap ((IntKind.i64.wrap (v335 + (1 : Int))) + (1 : Int))) + (1 : Int))) + (1 : Int))) + (1 : Int)))) (some (-1 : Int)) ((at? v334 v336).bind fun b382 => cond (b382.Auth.Time != (IntKind.i64.wrap ((IntKind.i64.wrap ((IntKind.i64.wrap ((IntKind.i64.wrap ((IntKind.i64.wrap ((IntKind.i64.wrap (v335 + (1 : Int))) + (1 : Int))) + (1 : Int))) + (1 : Int))) + (1 : Int))) + (1 : Int)))) (some (-1 : Int)) ((at? v334 v336).bind fun b384 => cond (b384.Auth.Seq != (IntKind.i64.wrap ((IntKind.i64.wrap ((IntKind.i64.wrap ((IntKind.i64.wrap ((IntKind.i64.wrap ((IntKind.i64.wrap ((IntKind.i64.wrap (v335 + (1 : Int))) + (1 : Int))) + (1 : Int))) + (1 : Int))) + (1 : Int))) + (1 : Int))) + (1 : Int)))) (some (-1 : Int)) ((at? v334 v336).bind fun b386 => cond (b386.Rest.Servers != (IntKind.i64.wrap ((IntKind.i64.wrap ((IntKind.i64.wrap ((IntKind.i64.wrap ((IntKind.i64.wrap ((IntKind.i64.wrap ((IntKind.i64.wrap ((IntKind.i64.wrap (v335 + (1 : Int))) + (1 : Int))) + (1 : Int))) + (1 : Int))) + (1 : Int))) + (1 : Int))) + (1 : Int))) + (1 : Int)))) (some (-1 : Int)) ((at? v334 v336).bind fun b388 => cond (b388.Rest.Ops != (IntKind.i64.wrap ((IntKind.i64.wrap ((IntKind.i64.wrap ((IntKind.i64.wrap ((IntKind.i64.wrap ((IntKind.i64.wrap ((IntKind.i64.wrap ((IntKind.i64.wrap ((IntKind.i64.wrap (v335 + (1 : Int))) + (1 : Int))) + (1 : Int))) + (1 : Int))) + (1 : Int))) + (1 : Int))) + (1 : Int))) + (1 : Int))) + (1 : Int)))) (some (-1 : Int)) ((at? v334 v336).bind fun b390 => cond (b390.Rest.End != (IntKind.i64.wrap ((IntKind.i64.wrap ((IntKind.i64.wrap ((IntKind.i64.wrap ((IntKind.i64.wrap ((IntKind.i64.wrap ((IntKind.i64.wrap ((IntKind.i64.wrap ((IntKind.i64.wrap ((IntKind.i64.wrap (v335 + (1 : Int))) + (1 : Int))) + (1 : Int))) + (1 : Int))) + (1 : Int))) + (1 : Int))) + (1 : Int))) + (1 : Int))) + (1 : Int))) + (1 : Int)))) (some (-1 : Int)) ((at? v334 v336).bind fun b391 => (Flaws_heldIntS k2 b391.Path (IntKind.i64.wrap ((IntKind.i64.wrap ((IntKind.i64.wrap ((IntKind.i64.wrap ((IntKind.i64.wrap ((IntKind.i64.wrap ((IntKind.i64.wrap ((IntKind.i64.wrap ((IntKind.i64.wrap ((IntKind.i64.wrap ((IntKind.i64.wrap (v335 + (1 : Int))) + (1 : Int))) + (1 : Int))) + (1 : Int))) + (1 : Int))) + (1 : Int))) + (1 : Int))) + (1 : Int))) + (1 : Int))) + (1 : Int))) + (1 : Int)))).bind fun r392 => cond (decide (r392 < (0 : Int))) (some (-1 : Int)) ((at? v334 v336).bind fun b393 => (Flaws_heldIntS k2 b393.Via r392).bind fun r394 => cond (decide (r394 < (0 : Int))) (some (-1 : Int)) ((at? v334 v336).bind fun b396 => cond (b396.Leaks != r394) (some (-1 : Int)) ((at? v334 v336).bind fun b399 => (Flaws_markText k2 (IntKind.i64.wrap (r394 + (1 : Int)))).bind fun r400 => cond (b399.Ticket != r400) (some (-1 : Int)) ((Flaws_heldAcceptS.l2 k2) v334 (IntKind.i64.wrap ((IntKind.i64.wrap (r394 + (1 : Int))) + (1 : Int))) (IntKind.i64.wrap (v336 + (1 : Int))))))))))))))))))) (some v335)
def Flaws_heldAcceptS (k : Nat) (a0 : List Timpl_Accept) (a1 : Int) : Option Int := Flaws_heldAcceptS.l2 k a0 a1 (0 : Int)
theorem ent120 : MG.Enters Try.prog 120 := ⟨Try.f120, Try.func120, rfl, by decide⟩
set_option maxHeartbeats 8000000 in
set_option maxRecDepth 100000 in
theorem Flaws_heldAcceptS_gives (k : Nat) (g0 : Bool) (a0 : List Timpl_Accept) (a1 : Int) (r : Int) (H : Flaws_heldAcceptS k a0 a1 = some r) : Gives Try.prog 120 [V.one (Cell.sl g0 (List.map eTimpl_Accept a0)), V.one (cI a1)] [] [V.one (cI r)] [] := by
 refine Gives.intro Try.func120 rfl rfl rfl rfl ?_
 intro F hF hm
 unfold Flaws_heldAcceptS at H
 obtain ⟨K, hK⟩ : ∃ K, k ≤ K := ⟨k, Nat.le_refl k⟩
 refine WpC.seq (WpC.regionL ?_)
 refine L.assign hF rfl rfl rfl (L.nil ?_)
 refine WpC.seq (WpC.seq (WpC.regionL ?_))
 refine L.assign hF rfl rfl rfl (L.nil ?_)
 refine WpC.block ?_
 refine WpC.loopL (P := Try.prog) (fun n σ => ∃ v334 : List Timpl_Accept, ∃ v335 : Int, ∃ v336 : Int, n ≤ K ∧ Flaws_heldAcceptS.l2 n v334 v335 v336 = some r ∧ σ = mkSt [(0, one (Cell.sl g0 (List.map eTimpl_Accept v334))), (1, one (cI v335)), (5, one (cI v336))] [] [] 0) k ⟨_, ⟨a0, a1, (0 : Int), by omega, H, rfl⟩, Le.mk [] hm rfl (Sa2 (Sa1 trivial)) trivial trivial⟩ ?_
 clear H
 rintro k2 _ ⟨v334, v335, v336, hk2, H, rfl⟩
 cases k2 with
 | zero => cases H
 | succ k2 =>
  rw [Flaws_heldAcceptS.l2] at H
  refine WpC.seq (WpC.seq (WpC.regionL ?_))
  refine L.move hF rfl rfl rfl ?_
  refine L.move hF rfl rfl rfl ?_
  refine L.lenR (xs := v334) (e := eTimpl_Accept) Try.underlying70 hF rfl rfl rfl rfl ?_
  refine L.bin hF rfl rfl rfl rfl rfl rfl (L.nil ?_)
  refine WpC.cond rfl (fun hc => ?_) (fun hc => ?_)
  ·replace H := condT hc H
   refine WpC.skip (WpC.seq (WpC.block (WpC.seq (WpC.seq (WpC.regionL ?_)))))
   refine L.move hF rfl rfl rfl ?_
   refine L.move hF rfl rfl rfl ?_
   obtain ⟨b370, hb370, H⟩ := bindS H
   refine L.idxR (xs := v334) (e := eTimpl_Accept) Try.underlying70 info186 hF rfl rfl rfl rfl rfl hb370 rfl rfl ?_
   refine L.fieldAddr Try.underlying186 rfl info3 rfl hF rfl rfl rfl rfl rfl ?_
   refine L.loadPe shape3 hF rfl rfl rfl rfl rfl ?_
   refine L.move hF rfl rfl rfl ?_
   refine L.bin hF rfl rfl rfl rfl rfl rfl (L.nil ?_)
   refine WpC.cond rfl (fun hc => ?_) (fun hc => ?_)
   ·replace H := condT hc H
    refine WpC.seq (WpC.regionL ?_)
    refine L.assign hF rfl rfl rfl (L.nil ?_)
    refine WpC.ret ?_
    cases H
    exact Leaves.ret rfl rfl rfl ⟨rfl, rfl⟩
   ·replace H := condF hc H
    refine WpC.skip (WpC.seq (WpC.regionL ?_))
    refine L.move hF rfl rfl rfl ?_
    refine L.bin hF rfl rfl rfl rfl rfl rfl ?_
    refine L.assign hF rfl rfl rfl (L.nil ?_)
    refine WpC.seq (WpC.seq (WpC.regionL ?_))
    refine L.move hF rfl rfl rfl ?_
    refine L.move hF rfl rfl rfl ?_
    obtain ⟨b372, hb372, H⟩ := bindS H
    refine L.idxR (xs := v334) (e := eTimpl_Accept) Try.underlying70 info186 hF rfl rfl rfl rfl rfl hb372 rfl rfl ?_
    refine L.fieldAddr Try.underlying186 rfl info3 rfl hF rfl rfl rfl rfl rfl ?_
    refine L.loadPe shape3 hF rfl rfl rfl rfl rfl ?_
    refine L.move hF rfl rfl rfl ?_
    refine L.bin hF rfl rfl rfl rfl rfl rfl (L.nil ?_)
    refine WpC.cond rfl (fun hc => ?_) (fun hc => ?_)
    ·replace H := condT hc H
     refine WpC.seq (WpC.regionL ?_)
     refine L.assign hF rfl rfl rfl (L.nil ?_)
     refine WpC.ret ?_
     cases H
     exact Leaves.ret rfl rfl rfl ⟨rfl, rfl⟩
    ·replace H := condF hc H
     refine WpC.skip (WpC.seq (WpC.regionL ?_))
     refine L.move hF rfl rfl rfl ?_
     refine L.bin hF rfl rfl rfl rfl rfl rfl ?_
     refine L.assign hF rfl rfl rfl (L.nil ?_)
     refine WpC.seq (WpC.seq (WpC.regionL ?_))
     refine L.move hF rfl rfl rfl ?_
     refine L.move hF rfl rfl rfl ?_
     obtain ⟨b374, hb374, H⟩ := bindS H
     refine L.idxR (xs := v334) (e := eTimpl_Accept) Try.underlying70 info186 hF rfl rfl rfl rfl rfl hb374 rfl rfl ?_
     refine L.fieldAddr Try.underlying186 rfl info3 rfl hF rfl rfl rfl rfl rfl ?_
     refine L.loadPe shape3 hF rfl rfl rfl rfl rfl ?_
     refine L.move hF rfl rfl rfl ?_
     refine L.bin hF rfl rfl rfl rfl rfl rfl (L.nil ?_)
     refine WpC.cond rfl (fun hc => ?_) (fun hc => ?_)
     ·replace H := condT hc H
      refine WpC.seq (WpC.regionL ?_)
      refine L.assign hF rfl rfl rfl (L.nil ?_)
      refine WpC.ret ?_
      cases H
      exact Leaves.ret rfl rfl rfl ⟨rfl, rfl⟩
     ·replace H := condF hc H
      refine WpC.skip (WpC.seq (WpC.regionL ?_))
      refine L.move hF rfl rfl rfl ?_
      refine L.bin hF rfl rfl rfl rfl rfl rfl ?_
      refine L.assign hF rfl rfl rfl (L.nil ?_)
      refine WpC.seq (WpC.seq (WpC.regionL ?_))
      refine L.move hF rfl rfl rfl ?_
      refine L.move hF rfl rfl rfl ?_
      obtain ⟨b376, hb376, H⟩ := bindS H
      refine L.idxR (xs := v334) (e := eTimpl_Accept) Try.underlying70 info186 hF rfl rfl rfl rfl rfl hb376 rfl rfl ?_
      refine L.fieldAddr Try.underlying186 rfl info3 rfl hF rfl rfl rfl rfl rfl ?_
      refine L.loadPe shape3 hF rfl rfl rfl rfl rfl ?_
      refine L.move hF rfl rfl rfl ?_
      refine L.bin hF rfl rfl rfl rfl rfl rfl (L.nil ?_)
      refine WpC.cond rfl (fun hc => ?_) (fun hc => ?_)
      ·replace H := condT hc H
       refine WpC.seq (WpC.regionL ?_)
       refine L.assign hF rfl rfl rfl (L.nil ?_)
       refine WpC.ret ?_
       cases H
       exact Leaves.ret rfl rfl rfl ⟨rfl, rfl⟩
      ·replace H := condF hc H
       refine WpC.skip (WpC.seq (WpC.regionL ?_))
       refine L.move hF rfl rfl rfl ?_
       refine L.bin hF rfl rfl rfl rfl rfl rfl ?_
       refine L.assign hF rfl rfl rfl (L.nil ?_)
       refine WpC.seq (WpC.seq (WpC.regionL ?_))
       refine L.move hF rfl rfl rfl ?_
       refine L.move hF rfl rfl rfl ?_
       obtain ⟨b378, hb378, H⟩ := bindS H
       refine L.idxR (xs := v334) (e := eTimpl_Accept) Try.underlying70 info186 hF rfl rfl rfl rfl rfl hb378 rfl rfl ?_
       refine L.fieldAddr Try.underlying186 rfl info3 rfl hF rfl rfl rfl rfl rfl ?_
       refine L.loadPe shape3 hF rfl rfl rfl rfl rfl ?_
       refine L.move hF rfl rfl rfl ?_
       refine L.bin hF rfl rfl rfl rfl rfl rfl (L.nil ?_)
       refine WpC.cond rfl (fun hc => ?_) (fun hc => ?_)
       ·replace H := condT hc H
        refine WpC.seq (WpC.regionL ?_)
        refine L.assign hF rfl rfl rfl (L.nil ?_)
        refine WpC.ret ?_
        cases H
        exact Leaves.ret rfl rfl rfl ⟨rfl, rfl⟩
       ·replace H := condF hc H
        refine WpC.skip (WpC.seq (WpC.regionL ?_))
        refine L.move hF rfl rfl rfl ?_
        refine L.bin hF rfl rfl rfl rfl rfl rfl ?_
        refine L.assign hF rfl rfl rfl (L.nil ?_)
        refine WpC.seq (WpC.seq (WpC.regionL ?_))
        refine L.move hF rfl rfl rfl ?_
        refine L.move hF rfl rfl rfl ?_
        obtain ⟨b380, hb380, H⟩ := bindS H
        refine L.idxR (xs := v334) (e := eTimpl_Accept) Try.underlying70 info186 hF rfl rfl rfl rfl rfl hb380 rfl rfl ?_
        refine L.fieldAddr Try.underlying186 rfl info184 rfl hF rfl rfl rfl rfl rfl ?_
        refine L.fieldAddr Try.underlying184 rfl info3 rfl hF rfl rfl rfl rfl rfl ?_
        refine L.loadPe shape3 hF rfl rfl rfl rfl rfl ?_
        refine L.move hF rfl rfl rfl ?_
        refine L.bin hF rfl rfl rfl rfl rfl rfl (L.nil ?_)
        refine WpC.cond rfl (fun hc => ?_) (fun hc => ?_)
        ·replace H := condT hc H
         refine WpC.seq (WpC.regionL ?_)
         refine L.assign hF rfl rfl rfl (L.nil ?_)
         refine WpC.ret ?_
         cases H
         exact Leaves.ret rfl rfl rfl ⟨rfl, rfl⟩
        ·replace H := condF hc H
         refine WpC.skip (WpC.seq (WpC.regionL ?_))
         refine L.move hF rfl rfl rfl ?_
         refine L.bin hF rfl rfl rfl rfl rfl rfl ?_
         refine L.assign hF rfl rfl rfl (L.nil ?_)
         refine WpC.seq (WpC.seq (WpC.regionL ?_))
         refine L.move hF rfl rfl rfl ?_
         refine L.move hF rfl rfl rfl ?_
         obtain ⟨b382, hb382, H⟩ := bindS H
         refine L.idxR (xs := v334) (e := eTimpl_Accept) Try.underlying70 info186 hF rfl rfl rfl rfl rfl hb382 rfl rfl ?_
         refine L.fieldAddr Try.underlying186 rfl info184 rfl hF rfl rfl rfl rfl rfl ?_
         refine L.fieldAddr Try.underlying184 rfl info3 rfl hF rfl rfl rfl rfl rfl ?_
         refine L.loadPe shape3 hF rfl rfl rfl rfl rfl ?_
         refine L.move hF rfl rfl rfl ?_
         refine L.bin hF rfl rfl rfl rfl rfl rfl (L.nil ?_)
         refine WpC.cond rfl (fun hc => ?_) (fun hc => ?_)
         ·replace H := condT hc H
          refine WpC.seq (WpC.regionL ?_)
          refine L.assign hF rfl rfl rfl (L.nil ?_)
          refine WpC.ret ?_
          cases H
          exact Leaves.ret rfl rfl rfl ⟨rfl, rfl⟩
         ·replace H := condF hc H
          refine WpC.skip (WpC.seq (WpC.regionL ?_))
          refine L.move hF rfl rfl rfl ?_
          refine L.bin hF rfl rfl rfl rfl rfl rfl ?_
          refine L.assign hF rfl rfl rfl (L.nil ?_)
          refine WpC.seq (WpC.seq (WpC.regionL ?_))
          refine L.move hF rfl rfl rfl ?_
          refine L.move hF rfl rfl rfl ?_
          obtain ⟨b384, hb384, H⟩ := bindS H
          refine L.idxR (xs := v334) (e := eTimpl_Accept) Try.underlying70 info186 hF rfl rfl rfl rfl rfl hb384 rfl rfl ?_
          refine L.fieldAddr Try.underlying186 rfl info184 rfl hF rfl rfl rfl rfl rfl ?_
          refine L.fieldAddr Try.underlying184 rfl info3 rfl hF rfl rfl rfl rfl rfl ?_
          refine L.loadPe shape3 hF rfl rfl rfl rfl rfl ?_
          refine L.move hF rfl rfl rfl ?_
          refine L.bin hF rfl rfl rfl rfl rfl rfl (L.nil ?_)
          refine WpC.cond rfl (fun hc => ?_) (fun hc => ?_)
          ·replace H := condT hc H
           refine WpC.seq (WpC.regionL ?_)
           refine L.assign hF rfl rfl rfl (L.nil ?_)
           refine WpC.ret ?_
           cases H
           exact Leaves.ret rfl rfl rfl ⟨rfl, rfl⟩
          ·replace H := condF hc H
           refine WpC.skip (WpC.seq (WpC.regionL ?_))
           refine L.move hF rfl rfl rfl ?_
           refine L.bin hF rfl rfl rfl rfl rfl rfl ?_
           refine L.assign hF rfl rfl rfl (L.nil ?_)
           refine WpC.seq (WpC.seq (WpC.regionL ?_))
           refine L.move hF rfl rfl rfl ?_
           refine L.move hF rfl rfl rfl ?_
           obtain ⟨b386, hb386, H⟩ := bindS H
           refine L.idxR (xs := v334) (e := eTimpl_Accept) Try.underlying70 info186 hF rfl rfl rfl rfl rfl hb386 rfl rfl ?_
           refine L.fieldAddr Try.underlying186 rfl info175 rfl hF rfl rfl rfl rfl rfl ?_
           refine L.fieldAddr Try.underlying175 rfl info3 rfl hF rfl rfl rfl rfl rfl ?_
           refine L.loadPe shape3 hF rfl rfl rfl rfl rfl ?_
           refine L.move hF rfl rfl rfl ?_
           refine L.bin hF rfl rfl rfl rfl rfl rfl (L.nil ?_)
           refine WpC.cond rfl (fun hc => ?_) (fun hc => ?_)
           ·replace H := condT hc H
            refine WpC.seq (WpC.regionL ?_)
            refine L.assign hF rfl rfl rfl (L.nil ?_)
            refine WpC.ret ?_
            cases H
            exact Leaves.ret rfl rfl rfl ⟨rfl, rfl⟩
           ·replace H := condF hc H
            refine WpC.skip (WpC.seq (WpC.regionL ?_))
            refine L.move hF rfl rfl rfl ?_
            refine L.bin hF rfl rfl rfl rfl rfl rfl ?_
            refine L.assign hF rfl rfl rfl (L.nil ?_)
            refine WpC.seq (WpC.seq (WpC.regionL ?_))
            refine L.move hF rfl rfl rfl ?_
            refine L.move hF rfl rfl rfl ?_
            obtain ⟨b388, hb388, H⟩ := bindS H
            refine L.idxR (xs := v334) (e := eTimpl_Accept) Try.underlying70 info186 hF rfl rfl rfl rfl rfl hb388 rfl rfl ?_
            refine L.fieldAddr Try.underlying186 rfl info175 rfl hF rfl rfl rfl rfl rfl ?_
            refine L.fieldAddr Try.underlying175 rfl info3 rfl hF rfl rfl rfl rfl rfl ?_
            refine L.loadPe shape3 hF rfl rfl rfl rfl rfl ?_
            refine L.move hF rfl rfl rfl ?_
            refine L.bin hF rfl rfl rfl rfl rfl rfl (L.nil ?_)
            refine WpC.cond rfl (fun hc => ?_) (fun hc => ?_)
            ·replace H := condT hc H
             refine WpC.seq (WpC.regionL ?_)
             refine L.assign hF rfl rfl rfl (L.nil ?_)
             refine WpC.ret ?_
             cases H
             exact Leaves.ret rfl rfl rfl ⟨rfl, rfl⟩
            ·replace H := condF hc H
             refine WpC.skip (WpC.seq (WpC.regionL ?_))
             refine L.move hF rfl rfl rfl ?_
             refine L.bin hF rfl rfl rfl rfl rfl rfl ?_
             refine L.assign hF rfl rfl rfl (L.nil ?_)
             refine WpC.seq (WpC.seq (WpC.regionL ?_))
             refine L.move hF rfl rfl rfl ?_
             refine L.move hF rfl rfl rfl ?_
             obtain ⟨b390, hb390, H⟩ := bindS H
             refine L.idxR (xs := v334) (e := eTimpl_Accept) Try.underlying70 info186 hF rfl rfl rfl rfl rfl hb390 rfl rfl ?_
             refine L.fieldAddr Try.underlying186 rfl info175 rfl hF rfl rfl rfl rfl rfl ?_
             refine L.fieldAddr Try.underlying175 rfl info3 rfl hF rfl rfl rfl rfl rfl ?_
             refine L.loadPe shape3 hF rfl rfl rfl rfl rfl ?_
             refine L.move hF rfl rfl rfl ?_
             refine L.bin hF rfl rfl rfl rfl rfl rfl (L.nil ?_)
             refine WpC.cond rfl (fun hc => ?_) (fun hc => ?_)
             ·replace H := condT hc H
              refine WpC.seq (WpC.regionL ?_)
              refine L.assign hF rfl rfl rfl (L.nil ?_)
              refine WpC.ret ?_
              cases H
              exact Leaves.ret rfl rfl rfl ⟨rfl, rfl⟩
             ·replace H := condF hc H
              refine WpC.skip (WpC.seq (WpC.regionL ?_))
              refine L.move hF rfl rfl rfl ?_
              refine L.bin hF rfl rfl rfl rfl rfl rfl ?_
              refine L.assign hF rfl rfl rfl (L.nil ?_)
              refine WpC.seq (WpC.regionL ?_)
              refine L.move hF rfl rfl rfl ?_
              refine L.move hF rfl rfl rfl ?_
              obtain ⟨b391, hb391, H⟩ := bindS H
              refine L.idxR (xs := v334) (e := eTimpl_Accept) Try.underlying70 info186 hF rfl rfl rfl rfl rfl hb391 rfl rfl ?_
              refine L.fieldAddr Try.underlying186 rfl info39 rfl hF rfl rfl rfl rfl rfl ?_
              refine L.loadPe shape39 hF rfl rfl rfl rfl rfl ?_
              refine L.move hF rfl rfl rfl ?_
              obtain ⟨r392, hr392, H⟩ := bindS H
              refine L.call [false, false] [] [] 0 hF rfl rfl rfl ent56 rfl rfl rfl rfl rfl (Flaws_heldIntS_gives k2 g0 b391.Path (IntKind.i64.wrap ((IntKind.i64.wrap ((IntKind.i64.wrap ((IntKind.i64.wrap ((IntKind.i64.wrap ((IntKind.i64.wrap ((IntKind.i64.wrap ((IntKind.i64.wrap ((IntKind.i64.wrap ((IntKind.i64.wrap ((IntKind.i64.wrap (v335 + (1 : Int))) + (1 : Int))) + (1 : Int))) + (1 : Int))) + (1 : Int))) + (1 : Int))) + (1 : Int))) + (1 : Int))) + (1 : Int))) + (1 : Int))) + (1 : Int))) r392 hr392) rfl ?_
              refine L.assign hF rfl rfl rfl (L.nil ?_)
              refine WpC.seq (WpC.seq (WpC.regionL ?_))
              refine L.move hF rfl rfl rfl ?_
              refine L.bin hF rfl rfl rfl rfl rfl rfl (L.nil ?_)
              refine WpC.cond rfl (fun hc => ?_) (fun hc => ?_)
              ·replace H := condT hc H
               refine WpC.seq (WpC.regionL ?_)
               refine L.assign hF rfl rfl rfl (L.nil ?_)
               refine WpC.ret ?_
               cases H
               exact Leaves.ret rfl rfl rfl ⟨rfl, rfl⟩
              ·replace H := condF hc H
               refine WpC.skip (WpC.seq (WpC.regionL ?_))
               refine L.move hF rfl rfl rfl ?_
               refine L.move hF rfl rfl rfl ?_
               obtain ⟨b393, hb393, H⟩ := bindS H
               refine L.idxR (xs := v334) (e := eTimpl_Accept) Try.underlying70 info186 hF rfl rfl rfl rfl rfl hb393 rfl rfl ?_
               refine L.fieldAddr Try.underlying186 rfl info39 rfl hF rfl rfl rfl rfl rfl ?_
               refine L.loadPe shape39 hF rfl rfl rfl rfl rfl ?_
               refine L.move hF rfl rfl rfl ?_
               obtain ⟨r394, hr394, H⟩ := bindS H
               refine L.call [false, false] [] [] 1 hF rfl rfl rfl ent56 rfl rfl rfl rfl rfl (Flaws_heldIntS_gives k2 g0 b393.Via r392 r394 hr394) rfl ?_
               refine L.assign hF rfl rfl rfl (L.nil ?_)
               refine WpC.seq (WpC.seq (WpC.regionL ?_))
               refine L.move hF rfl rfl rfl ?_
               refine L.bin hF rfl rfl rfl rfl rfl rfl (L.nil ?_)
               refine WpC.cond rfl (fun hc => ?_) (fun hc => ?_)
               ·replace H := condT hc H
                refine WpC.seq (WpC.regionL ?_)
                refine L.assign hF rfl rfl rfl (L.nil ?_)
                refine WpC.ret ?_
                cases H
                exact Leaves.ret rfl rfl rfl ⟨rfl, rfl⟩
               ·replace H := condF hc H
                refine WpC.skip (WpC.seq (WpC.seq (WpC.regionL ?_)))
                refine L.move hF rfl rfl rfl ?_
                refine L.move hF rfl rfl rfl ?_
                obtain ⟨b396, hb396, H⟩ := bindS H
                refine L.idxR (xs := v334) (e := eTimpl_Accept) Try.underlying70 info186 hF rfl rfl rfl rfl rfl hb396 rfl rfl ?_
                refine L.fieldAddr Try.underlying186 rfl info3 rfl hF rfl rfl rfl rfl rfl ?_
                refine L.loadPe shape3 hF rfl rfl rfl rfl rfl ?_
                refine L.move hF rfl rfl rfl ?_
                refine L.bin hF rfl rfl rfl rfl rfl rfl (L.nil ?_)
                refine WpC.cond rfl (fun hc => ?_) (fun hc => ?_)
                ·replace H := condT hc H
                 refine WpC.seq (WpC.regionL ?_)
                 refine L.assign hF rfl rfl rfl (L.nil ?_)
                 refine WpC.ret ?_
                 cases H
                 exact Leaves.ret rfl rfl rfl ⟨rfl, rfl⟩
                ·replace H := condF hc H
                 refine WpC.skip (WpC.seq (WpC.regionL ?_))
                 refine L.move hF rfl rfl rfl ?_
                 refine L.bin hF rfl rfl rfl rfl rfl rfl ?_
                 refine L.assign hF rfl rfl rfl (L.nil ?_)
                 refine WpC.seq (WpC.seq ?_)
                 obtain ⟨b399, hb399, H⟩ := bindS H
                 obtain ⟨r400, hr400, H⟩ := bindS H
                 refine A.begin mixed rfl rfl ?_
                 intro W hI hO
                 have n127 : W 1 #[true, true, true, true, true, true, true, false] (mkSt [(0, one (Cell.sl g0 (List.map eTimpl_Accept v334))), (1, one (cI (IntKind.i64.wrap (r394 + (1 : Int))))), (5, one (cI v336)), (148, one (cS b399.Ticket)), (150, one (cS r400))] [] [] 0) := by
                  refine hI _ _ _ ?_
                  refine Atk 7 rfl (Ca.bin rfl rfl (calm_str _ _ _ _ _ _)) (fun Q0 k0 => L.binS hF rfl rfl rfl rfl rfl (L.nil k0)) ?_
                  refine A.le (τ := mkSt [(0, one (Cell.sl g0 (List.map eTimpl_Accept v334))), (1, one (cI (IntKind.i64.wrap (r394 + (1 : Int))))), (5, one (cI v336)), (151, one (cL (b399.Ticket != r400)))] [] [] 0) (Le.mk [] hm rfl (Sa4 trivial) trivial trivial) ?_
                  refine A.done (by kernel_rfl) ?_
                  refine WpC.cond rfl (fun hc => ?_) (fun hc => ?_)
                  ·replace H := condT hc H
                   refine WpC.seq (WpC.regionL ?_)
                   refine L.assign hF rfl rfl rfl (L.nil ?_)
                   refine WpC.ret ?_
                   cases H
                   exact Leaves.ret rfl rfl rfl ⟨rfl, rfl⟩
                  ·replace H := condF hc H
                   refine WpC.skip (WpC.regionL ?_)
                   refine L.move hF rfl rfl rfl ?_
                   refine L.bin hF rfl rfl rfl rfl rfl rfl ?_
                   refine L.assign hF rfl rfl rfl (L.nil ?_)
                   refine WpC.regionL ?_
                   refine L.move hF rfl rfl rfl ?_
                   refine L.bin hF rfl rfl rfl rfl rfl rfl ?_
                   refine L.assign hF rfl rfl rfl (L.nil ?_)
                   exact ⟨k2, _, by omega, ⟨v334, (IntKind.i64.wrap ((IntKind.i64.wrap (r394 + (1 : Int))) + (1 : Int))), (IntKind.i64.wrap (v336 + (1 : Int))), by omega, H, rfl⟩, Le.mk [] hm rfl (Sa2 (Sa1 trivial)) trivial trivial⟩
                 refine hI _ _ _ ?_
                 refine Atk 0 rfl (Ca.move) (fun Q0 k0 => L.move hF rfl rfl rfl (L.nil k0)) ?_
                 refine Atk 1 rfl (Ca.move) (fun Q0 k0 => L.move hF rfl rfl rfl (L.nil k0)) ?_
                 refine Atk 2 rfl (Ca.indexAddr) (fun Q0 k0 => L.idxR (xs := v334) (e := eTimpl_Accept) Try.underlying70 info186 hF rfl rfl rfl rfl rfl hb399 rfl rfl (L.nil k0)) ?_
                 refine Atk 3 rfl (Ca.fieldAddr Try.underlying186 rfl info9 rfl) (fun Q0 k0 => L.fieldAddr Try.underlying186 rfl info9 rfl hF rfl rfl rfl rfl rfl (L.nil k0)) ?_
                 refine Atk 5 rfl (Ca.move) (fun Q0 k0 => L.move hF rfl rfl rfl (L.nil k0)) ?_
                 refine A.all [4, 6] (by kernel_rfl) rfl ⟨⟨_, rfl, ?_⟩, ⟨_, rfl, ?_⟩, trivial⟩
                 ·refine L.loadPe shape9 hF rfl rfl rfl rfl rfl (L.nil ?_)
                  refine A.all [6] (by kernel_rfl) rfl ⟨⟨_, rfl, ?_⟩, trivial⟩
                  refine L.call [false] [] [] 2 hF rfl rfl rfl ent54 rfl rfl rfl rfl rfl (Flaws_markText_gives k2  (IntKind.i64.wrap (r394 + (1 : Int))) r400 hr400) rfl (L.nil ?_)
                  exact A.on (hO _ _ _ n127) (Le.mk [] hm rfl (Sa4 (Sa1 trivial)) trivial trivial)
                 ·refine L.call [false] [] [] 2 hF rfl rfl rfl ent54 rfl rfl rfl rfl rfl (Flaws_markText_gives k2  (IntKind.i64.wrap (r394 + (1 : Int))) r400 hr400) rfl (L.nil ?_)
                  refine A.all [4] (by kernel_rfl) rfl ⟨⟨_, rfl, ?_⟩, trivial⟩
                  refine L.loadPe shape9 hF rfl rfl rfl rfl rfl (L.nil ?_)
                  exact A.on (hO _ _ _ n127) (Le.mk [] hm rfl (Sa4 (Sa1 trivial)) trivial trivial)
  ·replace H := condF hc H
   refine WpC.exit (WpC.seq (WpC.regionL ?_))
   refine L.move hF rfl rfl rfl ?_
   refine L.assign hF rfl rfl rfl (L.nil ?_)
   refine WpC.ret ?_
   cases H
   exact Leaves.ret rfl rfl rfl ⟨rfl, rfl⟩
/-! ### Flaws_heldWorld -/
def Flaws_heldWorld (k : Nat) (a0 : Timpl_World) (a1 : Int) : Option Int := (Flaws_heldConfig k (⟨a0.Config.UserRealm, a0.Config.ServiceRealm, a0.Config.Links, a0.Config.Proxy, a0.Config.Skew⟩ : Timpl_Config) a1).bind fun r1 => cond (decide (r1 < (0 : Int))) (some (-1 : Int)) ((Flaws_heldStringS k a0.Net r1).bind fun r2 => cond (decide (r2 < (0 : Int))) (some (-1 : Int)) ((Flaws_heldKnown k (⟨a0.Known.Terms, a0.Known.Keys⟩ : Timpl_Known) r2).bind fun r3 => cond (decide (r3 < (0 : Int))) (some (-1 : Int)) ((Flaws_heldWaitS k a0.Waits r3).bind fun r4 => cond (decide (r4 < (0 : Int))) (some (-1 : Int)) ((Flaws_heldCredS k a0.Creds r4).bind fun r5 => cond (decide (r5 < (0 : Int))) (some (-1 : Int)) ((Flaws_heldCacheS k a0.Caches r5).bind fun r6 => cond (decide (r6 < (0 : Int))) (some (-1 : Int)) ((Flaws_heldEventS k a0.Log r6).bind fun r7 => cond (decide (r7 < (0 : Int))) (some (-1 : Int)) ((Flaws_heldAcceptS k a0.Accepts r7).bind fun r8 => cond (decide (r8 < (0 : Int))) (some (-1 : Int)) ((Flaws_heldIntS k a0.Leaked r8).bind fun r9 => cond (decide (r9 < (0 : Int))) (some (-1 : Int)) (some r9)))))))))
theorem ent50 : MG.Enters Try.prog 50 := ⟨Try.f50, Try.func50, rfl, by decide⟩
set_option maxHeartbeats 8000000 in
set_option maxRecDepth 100000 in
theorem Flaws_heldWorld_gives (k : Nat) (g0 : Bool) (g1 : Bool) (g2 : Bool) (g3 : Bool) (g4 : Bool) (g5 : Bool) (g6 : Bool) (g7 : Bool) (g8 : Bool) (g9 : Bool) (g10 : Bool) (g11 : Bool) (g12 : Bool) (a0 : Timpl_World) (a1 : Int) (r : Int) (H : Flaws_heldWorld k a0 a1 = some r) : Gives Try.prog 50 [V.agg [Cell.sl g0 (List.map eI a0.Config.UserRealm), Cell.sl g1 (List.map eI a0.Config.ServiceRealm), Cell.sl g2 (List.map eTimpl_Pair a0.Config.Links), Cell.sl g3 (List.map eTimpl_Pair a0.Config.Proxy), cI a0.Config.Skew, cI a0.Now, cI a0.Fresh, Cell.sl g4 (List.map eS a0.Net), Cell.sl g5 (List.map eS a0.Known.Terms), Cell.sl g6 (List.map eI a0.Known.Keys), Cell.sl g7 (List.map eTimpl_Wait a0.Waits), Cell.sl g8 (List.map eTimpl_Cred a0.Creds), Cell.sl g9 (List.map eTimpl_Cache a0.Caches), Cell.sl g10 (List.map eTimpl_Event a0.Log), Cell.sl g11 (List.map eTimpl_Accept a0.Accepts), Cell.sl g12 (List.map eI a0.Leaked)], V.one (cI a1)] [] [V.one (cI r)] [] := by
 refine Gives.intro Try.func50 rfl rfl rfl rfl ?_
 intro F hF hm
 unfold Flaws_heldWorld at H
 obtain ⟨K, hK⟩ : ∃ K, k ≤ K := ⟨k, Nat.le_refl k⟩
 refine WpC.seq (WpC.regionL ?_)
 refine L.box 17 hF rfl rfl rfl rfl ?_
 refine L.assign hF rfl rfl rfl (L.nil ?_)
 refine WpC.seq (WpC.regionL ?_)
 refine L.fieldAddr Try.underlying72 rfl info62 rfl hF rfl rfl rfl rfl rfl ?_
 refine L.loadPtr shape62 hF rfl rfl rfl rfl rfl rfl ?_
 refine L.move hF rfl rfl rfl ?_
 obtain ⟨r1, hr1, H⟩ := bindS H
 refine L.call [false, false] [] [] 18 hF rfl rfl rfl ent113 rfl rfl rfl rfl rfl (Flaws_heldConfig_gives k g0 g1 g2 g3 (⟨a0.Config.UserRealm, a0.Config.ServiceRealm, a0.Config.Links, a0.Config.Proxy, a0.Config.Skew⟩ : Timpl_Config) a1 r1 hr1) rfl ?_
 refine L.assign hF rfl rfl rfl (L.nil ?_)
 refine WpC.seq (WpC.seq (WpC.regionL ?_))
 refine L.move hF rfl rfl rfl ?_
 refine L.bin hF rfl rfl rfl rfl rfl rfl (L.nil ?_)
 refine WpC.cond rfl (fun hc => ?_) (fun hc => ?_)
 ·replace H := condT hc H
  refine WpC.seq (WpC.regionL ?_)
  refine L.assign hF rfl rfl rfl (L.nil ?_)
  refine WpC.ret ?_
  cases H
  exact Leaves.ret rfl rfl rfl ⟨rfl, rfl⟩
 ·replace H := condF hc H
  refine WpC.skip (WpC.seq (WpC.regionL ?_))
  refine L.fieldAddr Try.underlying72 rfl info63 rfl hF rfl rfl rfl rfl rfl ?_
  refine L.loadPtr shape63 hF rfl rfl rfl rfl rfl rfl ?_
  refine L.move hF rfl rfl rfl ?_
  obtain ⟨r2, hr2, H⟩ := bindS H
  refine L.call [false, false] [] [] 19 hF rfl rfl rfl ent114 rfl rfl rfl rfl rfl (Flaws_heldStringS_gives k g4 a0.Net r1 r2 hr2) rfl ?_
  refine L.assign hF rfl rfl rfl (L.nil ?_)
  refine WpC.seq (WpC.seq (WpC.regionL ?_))
  refine L.move hF rfl rfl rfl ?_
  refine L.bin hF rfl rfl rfl rfl rfl rfl (L.nil ?_)
  refine WpC.cond rfl (fun hc => ?_) (fun hc => ?_)
  ·replace H := condT hc H
   refine WpC.seq (WpC.regionL ?_)
   refine L.assign hF rfl rfl rfl (L.nil ?_)
   refine WpC.ret ?_
   cases H
   exact Leaves.ret rfl rfl rfl ⟨rfl, rfl⟩
  ·replace H := condF hc H
   refine WpC.skip (WpC.seq (WpC.regionL ?_))
   refine L.fieldAddr Try.underlying72 rfl info65 rfl hF rfl rfl rfl rfl rfl ?_
   refine L.loadPtr shape65 hF rfl rfl rfl rfl rfl rfl ?_
   refine L.move hF rfl rfl rfl ?_
   obtain ⟨r3, hr3, H⟩ := bindS H
   refine L.call [false, false] [] [] 20 hF rfl rfl rfl ent115 rfl rfl rfl rfl rfl (Flaws_heldKnown_gives k g5 g6 (⟨a0.Known.Terms, a0.Known.Keys⟩ : Timpl_Known) r2 r3 hr3) rfl ?_
   refine L.assign hF rfl rfl rfl (L.nil ?_)
   refine WpC.seq (WpC.seq (WpC.regionL ?_))
   refine L.move hF rfl rfl rfl ?_
   refine L.bin hF rfl rfl rfl rfl rfl rfl (L.nil ?_)
   refine WpC.cond rfl (fun hc => ?_) (fun hc => ?_)
   ·replace H := condT hc H
    refine WpC.seq (WpC.regionL ?_)
    refine L.assign hF rfl rfl rfl (L.nil ?_)
    refine WpC.ret ?_
    cases H
    exact Leaves.ret rfl rfl rfl ⟨rfl, rfl⟩
   ·replace H := condF hc H
    refine WpC.skip (WpC.seq (WpC.regionL ?_))
    refine L.fieldAddr Try.underlying72 rfl info66 rfl hF rfl rfl rfl rfl rfl ?_
    refine L.loadPtr shape66 hF rfl rfl rfl rfl rfl rfl ?_
    refine L.move hF rfl rfl rfl ?_
    obtain ⟨r4, hr4, H⟩ := bindS H
    refine L.call [false, false] [] [] 21 hF rfl rfl rfl ent116 rfl rfl rfl rfl rfl (Flaws_heldWaitS_gives k g7 a0.Waits r3 r4 hr4) rfl ?_
    refine L.assign hF rfl rfl rfl (L.nil ?_)
    refine WpC.seq (WpC.seq (WpC.regionL ?_))
    refine L.move hF rfl rfl rfl ?_
    refine L.bin hF rfl rfl rfl rfl rfl rfl (L.nil ?_)
    refine WpC.cond rfl (fun hc => ?_) (fun hc => ?_)
    ·replace H := condT hc H
     refine WpC.seq (WpC.regionL ?_)
     refine L.assign hF rfl rfl rfl (L.nil ?_)
     refine WpC.ret ?_
     cases H
     exact Leaves.ret rfl rfl rfl ⟨rfl, rfl⟩
    ·replace H := condF hc H
     refine WpC.skip (WpC.seq (WpC.regionL ?_))
     refine L.fieldAddr Try.underlying72 rfl info67 rfl hF rfl rfl rfl rfl rfl ?_
     refine L.loadPtr shape67 hF rfl rfl rfl rfl rfl rfl ?_
     refine L.move hF rfl rfl rfl ?_
     obtain ⟨r5, hr5, H⟩ := bindS H
     refine L.call [false, false] [] [] 22 hF rfl rfl rfl ent117 rfl rfl rfl rfl rfl (Flaws_heldCredS_gives k g8 a0.Creds r4 r5 hr5) rfl ?_
     refine L.assign hF rfl rfl rfl (L.nil ?_)
     refine WpC.seq (WpC.seq (WpC.regionL ?_))
     refine L.move hF rfl rfl rfl ?_
     refine L.bin hF rfl rfl rfl rfl rfl rfl (L.nil ?_)
     refine WpC.cond rfl (fun hc => ?_) (fun hc => ?_)
     ·replace H := condT hc H
      refine WpC.seq (WpC.regionL ?_)
      refine L.assign hF rfl rfl rfl (L.nil ?_)
      refine WpC.ret ?_
      cases H
      exact Leaves.ret rfl rfl rfl ⟨rfl, rfl⟩
     ·replace H := condF hc H
      refine WpC.skip (WpC.seq (WpC.regionL ?_))
      refine L.fieldAddr Try.underlying72 rfl info68 rfl hF rfl rfl rfl rfl rfl ?_
      refine L.loadPtr shape68 hF rfl rfl rfl rfl rfl rfl ?_
      refine L.move hF rfl rfl rfl ?_
      obtain ⟨r6, hr6, H⟩ := bindS H
      refine L.call [false, false] [] [] 23 hF rfl rfl rfl ent118 rfl rfl rfl rfl rfl (Flaws_heldCacheS_gives k g9 a0.Caches r5 r6 hr6) rfl ?_
      refine L.assign hF rfl rfl rfl (L.nil ?_)
      refine WpC.seq (WpC.seq (WpC.regionL ?_))
      refine L.move hF rfl rfl rfl ?_
      refine L.bin hF rfl rfl rfl rfl rfl rfl (L.nil ?_)
      refine WpC.cond rfl (fun hc => ?_) (fun hc => ?_)
      ·replace H := condT hc H
       refine WpC.seq (WpC.regionL ?_)
       refine L.assign hF rfl rfl rfl (L.nil ?_)
       refine WpC.ret ?_
       cases H
       exact Leaves.ret rfl rfl rfl ⟨rfl, rfl⟩
      ·replace H := condF hc H
       refine WpC.skip (WpC.seq (WpC.regionL ?_))
       refine L.fieldAddr Try.underlying72 rfl info69 rfl hF rfl rfl rfl rfl rfl ?_
       refine L.loadPtr shape69 hF rfl rfl rfl rfl rfl rfl ?_
       refine L.move hF rfl rfl rfl ?_
       obtain ⟨r7, hr7, H⟩ := bindS H
       refine L.call [false, false] [] [] 24 hF rfl rfl rfl ent119 rfl rfl rfl rfl rfl (Flaws_heldEventS_gives k g10 a0.Log r6 r7 hr7) rfl ?_
       refine L.assign hF rfl rfl rfl (L.nil ?_)
       refine WpC.seq (WpC.seq (WpC.regionL ?_))
       refine L.move hF rfl rfl rfl ?_
       refine L.bin hF rfl rfl rfl rfl rfl rfl (L.nil ?_)
       refine WpC.cond rfl (fun hc => ?_) (fun hc => ?_)
       ·replace H := condT hc H
        refine WpC.seq (WpC.regionL ?_)
        refine L.assign hF rfl rfl rfl (L.nil ?_)
        refine WpC.ret ?_
        cases H
        exact Leaves.ret rfl rfl rfl ⟨rfl, rfl⟩
       ·replace H := condF hc H
        refine WpC.skip (WpC.seq (WpC.regionL ?_))
        refine L.fieldAddr Try.underlying72 rfl info70 rfl hF rfl rfl rfl rfl rfl ?_
        refine L.loadPtr shape70 hF rfl rfl rfl rfl rfl rfl ?_
        refine L.move hF rfl rfl rfl ?_
        obtain ⟨r8, hr8, H⟩ := bindS H
        refine L.call [false, false] [] [] 25 hF rfl rfl rfl ent120 rfl rfl rfl rfl rfl (Flaws_heldAcceptS_gives k g11 a0.Accepts r7 r8 hr8) rfl ?_
        refine L.assign hF rfl rfl rfl (L.nil ?_)
        refine WpC.seq (WpC.seq (WpC.regionL ?_))
        refine L.move hF rfl rfl rfl ?_
        refine L.bin hF rfl rfl rfl rfl rfl rfl (L.nil ?_)
        refine WpC.cond rfl (fun hc => ?_) (fun hc => ?_)
        ·replace H := condT hc H
         refine WpC.seq (WpC.regionL ?_)
         refine L.assign hF rfl rfl rfl (L.nil ?_)
         refine WpC.ret ?_
         cases H
         exact Leaves.ret rfl rfl rfl ⟨rfl, rfl⟩
        ·replace H := condF hc H
         refine WpC.skip (WpC.seq (WpC.regionL ?_))
         refine L.fieldAddr Try.underlying72 rfl info39 rfl hF rfl rfl rfl rfl rfl ?_
         refine L.loadPtr shape39 hF rfl rfl rfl rfl rfl rfl ?_
         refine L.move hF rfl rfl rfl ?_
         obtain ⟨r9, hr9, H⟩ := bindS H
         refine L.call [false, false] [] [] 26 hF rfl rfl rfl ent56 rfl rfl rfl rfl rfl (Flaws_heldIntS_gives k g12 a0.Leaked r8 r9 hr9) rfl ?_
         refine L.assign hF rfl rfl rfl (L.nil ?_)
         refine WpC.seq (WpC.seq (WpC.regionL ?_))
         refine L.move hF rfl rfl rfl ?_
         refine L.bin hF rfl rfl rfl rfl rfl rfl (L.nil ?_)
         refine WpC.cond rfl (fun hc => ?_) (fun hc => ?_)
         ·replace H := condT hc H
          refine WpC.seq (WpC.regionL ?_)
          refine L.assign hF rfl rfl rfl (L.nil ?_)
          refine WpC.ret ?_
          cases H
          exact Leaves.ret rfl rfl rfl ⟨rfl, rfl⟩
         ·replace H := condF hc H
          refine WpC.skip (WpC.seq (WpC.regionL ?_))
          refine L.move hF rfl rfl rfl ?_
          refine L.assign hF rfl rfl rfl (L.nil ?_)
          refine WpC.ret ?_
          cases H
          exact Leaves.ret rfl rfl rfl ⟨rfl, rfl⟩
/-! ### Flaws_FnExactNewWorld -/
def Flaws_FnExactNewWorld (k : Nat) (a0 : Tlaws_Config) : Option Bool := (Flaws_szConfig k a0 (1048576 : Int)).bind fun r1 => cond (decide (r1 < (0 : Int))) (some true) ((Flaws_toConfig k a0).bind fun r2 => (Fspec_NewWorld k r2).bind fun r3 => (Flaws_toConfig k a0).bind fun r4 => (Fimpl_NewWorld k r4).bind fun r5 => (Flaws_eqWorld k r5.1 r3.1).bind fun r9 => cond (!r9) (some false) (cond (r5.2 != r3.2) (some false) ((Flaws_toConfig k a0).bind fun r12 => (Flaws_eqConfig k r4 r12).bind fun r13 => cond (!r13) (some false) ((Flaws_markConfig k r4 (1 : Int)).bind fun r14 => cond (decide (r14.1 < (0 : Int))) (some false) ((Flaws_eqWorld k r5.1 r3.1).bind fun r18 => cond (!r18) (some false) (cond (r5.2 != r3.2) (some false) ((Flaws_markWorld k r5.1 (1 : Int)).bind fun r19 => (Flaws_heldWorld k (⟨(⟨r19.2.1, r19.2.2.1, r19.2.2.2.1, r19.2.2.2.2.1, r5.1.Config.Skew⟩ : Timpl_Config), r5.1.Now, r5.1.Fresh, r19.2.2.2.2.2.1, (⟨r19.2.2.2.2.2.2.1, r19.2.2.2.2.2.2.2.1⟩ : Timpl_Known), r19.2.2.2.2.2.2.2.2.1, r19.2.2.2.2.2.2.2.2.2.1, r19.2.2.2.2.2.2.2.2.2.2.1, r19.2.2.2.2.2.2.2.2.2.2.2.1, r19.2.2.2.2.2.2.2.2.2.2.2.2.1, r19.2.2.2.2.2.2.2.2.2.2.2.2.2⟩ : Timpl_World) (1 : Int)).bind fun r20 => cond (decide (r20 < (0 : Int))) (some false) (cond (r20 != r19.1) (some false) ((Flaws_toConfig k a0).bind fun r21 => (Fimpl_NewWorld k r21).bind fun r22 => (Flaws_eqWorld k r22.1 r3.1).bind fun r26 => cond (!r26) (some false) (cond (r22.2 != r3.2) (some false) ((Flaws_heldWorld k (⟨(⟨r19.2.1, r19.2.2.1, r19.2.2.2.1, r19.2.2.2.2.1, r5.1.Config.Skew⟩ : Timpl_Config), r5.1.Now, r5.1.Fresh, r19.2.2.2.2.2.1, (⟨r19.2.2.2.2.2.2.1, r19.2.2.2.2.2.2.2.1⟩ : Timpl_Known), r19.2.2.2.2.2.2.2.2.1, r19.2.2.2.2.2.2.2.2.2.1, r19.2.2.2.2.2.2.2.2.2.2.1, r19.2.2.2.2.2.2.2.2.2.2.2.1, r19.2.2.2.2.2.2.2.2.2.2.2.2.1, r19.2.2.2.2.2.2.2.2.2.2.2.2.2⟩ : Timpl_World) (1 : Int)).bind fun r27 => cond (decide (r27 < (0 : Int))) (some false) (cond (r27 != r19.1) (some false) (some true)))))))))))))
theorem ent10 : MG.Enters Try.prog 10 := ⟨Try.f10, Try.func10, rfl, by decide⟩
set_option maxHeartbeats 8000000 in
set_option maxRecDepth 100000 in
theorem Flaws_FnExactNewWorld_gives (k : Nat) (g0 : Bool) (g1 : Bool) (g2 : Bool) (g3 : Bool) (a0 : Tlaws_Config) (r : Bool) (H : Flaws_FnExactNewWorld k a0 = some r) : Gives Try.prog 10 [V.agg [Cell.sl g0 (List.map eI a0.UserRealm), Cell.sl g1 (List.map eI a0.ServiceRealm), Cell.sl g2 (List.map eTlaws_Pair a0.Links), Cell.sl g3 (List.map eTlaws_Pair a0.Proxy), cI a0.Skew]] [] [V.one (cL r)] [] := by
 refine Gives.intro Try.func10 rfl rfl rfl rfl ?_
 intro F hF hm
 unfold Flaws_FnExactNewWorld at H
 obtain ⟨K, hK⟩ : ∃ K, k ≤ K := ⟨k, Nat.le_refl k⟩
 refine WpC.seq (WpC.regionL ?_)
 refine L.box 5 hF rfl rfl rfl rfl ?_
 refine L.assign hF rfl rfl rfl ?_
 refine L.le (τ := mkSt [(1, one (Cell.ptr 0 0))] [] [(0, (bTlaws_Config g0 g1 g2 g3 a0))] 1) (Le.mk [(0, 5)] hm rfl (Sa1 trivial) trivial (Ba1 trivial)) (L.nil ?_)
 refine WpC.seq (WpC.regionL ?_)
 refine L.assign hF rfl rfl rfl ?_
 refine L.le (τ := mkSt [(1, one (Cell.ptr 0 0)), (3, one (cI (1048576 : Int)))] [] [(0, (bTlaws_Config g0 g1 g2 g3 a0))] 1) (Le.mk [(0, 0)] hm rfl (Sa2 trivial) trivial (Ba1 trivial)) (L.nil ?_)
 refine WpC.seq (WpC.regionL ?_)
 refine L.loadPtr shape58 hF rfl rfl rfl rfl rfl rfl ?_
 refine L.move hF rfl rfl rfl ?_
 obtain ⟨r1, hr1, H⟩ := bindS H
 refine L.call [false, false] [] [] 1 hF rfl rfl rfl ent42 rfl rfl rfl rfl rfl (Flaws_szConfig_gives k g0 g1 g2 g3 a0 (1048576 : Int) r1 hr1) rfl ?_
 refine L.assign hF rfl rfl rfl ?_
 refine L.le (τ := mkSt [(1, one (Cell.ptr 0 0)), (3, one (cI r1))] [] [(0, (bTlaws_Config g0 g1 g2 g3 a0))] 1) (Le.mk [(0, 0)] hm rfl (Sa2 trivial) trivial (Ba1 trivial)) (L.nil ?_)
 refine WpC.seq (WpC.seq (WpC.regionL ?_))
 refine L.move hF rfl rfl rfl ?_
 refine L.bin hF rfl rfl rfl rfl rfl rfl ?_
 refine L.le (τ := mkSt [(1, one (Cell.ptr 0 0)), (18, one (cL (decide (r1 < (0 : Int)))))] [] [(0, (bTlaws_Config g0 g1 g2 g3 a0))] 1) (Le.mk [(0, 0)] hm rfl (Sa2 trivial) trivial (Ba1 trivial)) (L.nil ?_)
 refine WpC.cond rfl (fun hc => ?_) (fun hc => ?_)
 ·replace H := condT hc H
  refine WpC.seq (WpC.regionL ?_)
  refine L.assign hF rfl rfl rfl ?_
  refine L.le (τ := mkSt [(2, one (cL true))] [] [] 0) (Le.mk [] hm rfl (Sa1 trivial) trivial trivial) (L.nil ?_)
  refine WpC.ret ?_
  cases H
  exact Leaves.ret rfl rfl rfl ⟨rfl, rfl⟩
 ·replace H := condF hc H
  refine WpC.skip (WpC.seq (WpC.regionL ?_))
  refine L.loadPtr shape58 hF rfl rfl rfl rfl rfl rfl ?_
  obtain ⟨r2, hr2, H⟩ := bindS H
  refine L.call [false] [] [] 1 hF rfl rfl rfl ent44 rfl rfl rfl rfl rfl (Flaws_toConfig_gives k g0 g1 g2 g3 a0 r2 hr2) rfl ?_
  obtain ⟨r3, hr3, H⟩ := bindS H
  refine L.call [false] [1, 2, 3, 4] [] 6 hF rfl rfl rfl ent43 rfl rfl rfl rfl rfl (Fspec_NewWorld_gives k false false false false r2 r3 hr3) rfl ?_
  refine L.move hF rfl rfl rfl ?_
  refine L.extract hF rfl rfl rfl rfl ?_
  refine L.extract hF rfl rfl rfl rfl ?_
  refine L.alloc 23 info72 rfl hF rfl rfl rfl rfl ?_
  refine L.storePtr shape72 hF rfl rfl rfl rfl rfl rfl rfl ?_
  refine L.assign hF rfl rfl rfl ?_
  refine L.le (τ := mkSt [(1, one (Cell.ptr 0 0)), (4, one (Cell.ptr 1 0)), (5, one (cL r3.2))] [(2, ⟨1, List.map eI r3.1.Config.UserRealm⟩), (3, ⟨1, List.map eI r3.1.Config.ServiceRealm⟩), (4, ⟨2, List.map eTimpl_Pair r3.1.Config.Links⟩), (5, ⟨2, List.map eTimpl_Pair r3.1.Config.Proxy⟩), (6, ⟨1, List.map eS r3.1.Net⟩), (7, ⟨1, List.map eS r3.1.Known.Terms⟩), (8, ⟨1, List.map eI r3.1.Known.Keys⟩), (9, ⟨4, List.map eTimpl_Wait r3.1.Waits⟩), (10, ⟨8, List.map eTimpl_Cred r3.1.Creds⟩), (11, ⟨2, List.map eTimpl_Cache r3.1.Caches⟩), (12, ⟨11, List.map eTimpl_Event r3.1.Log⟩), (13, ⟨15, List.map eTimpl_Accept r3.1.Accepts⟩), (14, ⟨1, List.map eI r3.1.Leaked⟩)] [(0, (bTlaws_Config g0 g1 g2 g3 a0)), (1, [Cell.own 2, Cell.own 3, Cell.own 4, Cell.own 5, cI r3.1.Config.Skew, cI r3.1.Now, cI r3.1.Fresh, Cell.own 6, Cell.own 7, Cell.own 8, Cell.own 9, Cell.own 10, Cell.own 11, Cell.own 12, Cell.own 13, Cell.own 14])] 15) (Le.mk [(0, 0), (1, 23), (2, 6), (3, 7), (4, 8), (5, 9), (6, 13), (7, 14), (8, 15), (9, 16), (10, 17), (11, 18), (12, 19), (13, 20), (14, 21)] hm rfl (Sa2 (Sa1 trivial)) (Ra8 (Ra4 (Ra1 trivial))) (Ba2 trivial)) (L.nil ?_)
  refine WpC.seq (WpC.regionL ?_)
  refine L.loadPtr shape58 hF rfl rfl rfl rfl rfl rfl ?_
  obtain ⟨r4, hr4, H⟩ := bindS H
  refine L.call [false] [] [] 15 hF rfl rfl rfl ent44 rfl rfl rfl rfl rfl (Flaws_toConfig_gives k g0 g1 g2 g3 a0 r4 hr4) rfl ?_
  refine L.alloc 20 info62 rfl hF rfl rfl rfl rfl ?_
  refine L.storePtr shape62 hF rfl rfl rfl rfl rfl rfl rfl ?_
  refine L.le (τ := mkSt [(1, one (Cell.ptr 0 0)), (4, one (Cell.ptr 1 0)), (5, one (cL r3.2)), (6, one (Cell.ptr 2 0))] [(3, ⟨1, List.map eI r3.1.Config.UserRealm⟩), (4, ⟨1, List.map eI r3.1.Config.ServiceRealm⟩), (5, ⟨2, List.map eTimpl_Pair r3.1.Config.Links⟩), (6, ⟨2, List.map eTimpl_Pair r3.1.Config.Proxy⟩), (7, ⟨1, List.map eS r3.1.Net⟩), (8, ⟨1, List.map eS r3.1.Known.Terms⟩), (9, ⟨1, List.map eI r3.1.Known.Keys⟩), (10, ⟨4, List.map eTimpl_Wait r3.1.Waits⟩), (11, ⟨8, List.map eTimpl_Cred r3.1.Creds⟩), (12, ⟨2, List.map eTimpl_Cache r3.1.Caches⟩), (13, ⟨11, List.map eTimpl_Event r3.1.Log⟩), (14, ⟨15, List.map eTimpl_Accept r3.1.Accepts⟩), (15, ⟨1, List.map eI r3.1.Leaked⟩), (16, ⟨1, List.map eI r4.UserRealm⟩), (17, ⟨1, List.map eI r4.ServiceRealm⟩), (18, ⟨2, List.map eTimpl_Pair r4.Links⟩), (19, ⟨2, List.map eTimpl_Pair r4.Proxy⟩)] [(0, (bTlaws_Config g0 g1 g2 g3 a0)), (1, [Cell.own 3, Cell.own 4, Cell.own 5, Cell.own 6, cI r3.1.Config.Skew, cI r3.1.Now, cI r3.1.Fresh, Cell.own 7, Cell.own 8, Cell.own 9, Cell.own 10, Cell.own 11, Cell.own 12, Cell.own 13, Cell.own 14, Cell.own 15]), (2, [Cell.own 16, Cell.own 17, Cell.own 18, Cell.own 19, cI r4.Skew])] 20) (Le.mk [(0, 0), (1, 1), (2, 20), (3, 2), (4, 3), (5, 4), (6, 5), (7, 6), (8, 7), (9, 8), (10, 9), (11, 10), (12, 11), (13, 12), (14, 13), (15, 14), (16, 15), (17, 16), (18, 17), (19, 18)] hm rfl (Sa4 trivial) (Ra8 (Ra8 (Ra1 trivial))) (Ba2 (Ba1 trivial))) (L.nil ?_)
  refine WpC.seq (WpC.regionL ?_)
  refine L.loadPtr shape62 hF rfl rfl rfl rfl rfl rfl ?_
  obtain ⟨r5, hr5, H⟩ := bindS H
  refine L.call [false] [16, 17, 18, 19] [] 20 hF rfl rfl rfl ent45 rfl rfl rfl rfl rfl (Fimpl_NewWorld_gives k false false false false r4 r5 hr5) rfl ?_
  refine L.move hF rfl rfl rfl ?_
  refine L.extract hF rfl rfl rfl rfl ?_
  refine L.extract hF rfl rfl rfl rfl ?_
  refine L.alloc 37 info72 rfl hF rfl rfl rfl rfl ?_
  refine L.storePtr shape72 hF rfl rfl rfl rfl rfl rfl rfl ?_
  refine L.assign hF rfl rfl rfl ?_
  refine L.le (τ := mkSt [(1, one (Cell.ptr 0 0)), (4, one (Cell.ptr 1 0)), (5, one (cL r3.2)), (6, one (Cell.ptr 2 0)), (7, one (Cell.ptr 3 0)), (8, one (cL r5.2))] [(4, ⟨1, List.map eI r3.1.Config.UserRealm⟩), (5, ⟨1, List.map eI r3.1.Config.ServiceRealm⟩), (6, ⟨2, List.map eTimpl_Pair r3.1.Config.Links⟩), (7, ⟨2, List.map eTimpl_Pair r3.1.Config.Proxy⟩), (8, ⟨1, List.map eS r3.1.Net⟩), (9, ⟨1, List.map eS r3.1.Known.Terms⟩), (10, ⟨1, List.map eI r3.1.Known.Keys⟩), (11, ⟨4, List.map eTimpl_Wait r3.1.Waits⟩), (12, ⟨8, List.map eTimpl_Cred r3.1.Creds⟩), (13, ⟨2, List.map eTimpl_Cache r3.1.Caches⟩), (14, ⟨11, List.map eTimpl_Event r3.1.Log⟩), (15, ⟨15, List.map eTimpl_Accept r3.1.Accepts⟩), (16, ⟨1, List.map eI r3.1.Leaked⟩), (17, ⟨1, List.map eI r4.UserRealm⟩), (18, ⟨1, List.map eI r4.ServiceRealm⟩), (19, ⟨2, List.map eTimpl_Pair r4.Links⟩), (20, ⟨2, List.map eTimpl_Pair r4.Proxy⟩), (21, ⟨1, List.map eI r5.1.Config.UserRealm⟩), (22, ⟨1, List.map eI r5.1.Config.ServiceRealm⟩), (23, ⟨2, List.map eTimpl_Pair r5.1.Config.Links⟩), (24, ⟨2, List.map eTimpl_Pair r5.1.Config.Proxy⟩), (25, ⟨1, List.map eS r5.1.Net⟩), (26, ⟨1, List.map eS r5.1.Known.Terms⟩), (27, ⟨1, List.map eI r5.1.Known.Keys⟩), (28, ⟨4, List.map eTimpl_Wait r5.1.Waits⟩), (29, ⟨8, List.map eTimpl_Cred r5.1.Creds⟩), (30, ⟨2, List.map eTimpl_Cache r5.1.Caches⟩), (31, ⟨11, List.map eTimpl_Event r5.1.Log⟩), (32, ⟨15, List.map eTimpl_Accept r5.1.Accepts⟩), (33, ⟨1, List.map eI r5.1.Leaked⟩)] [(0, (bTlaws_Config g0 g1 g2 g3 a0)), (1, [Cell.own 4, Cell.own 5, Cell.own 6, Cell.own 7, cI r3.1.Config.Skew, cI r3.1.Now, cI r3.1.Fresh, Cell.own 8, Cell.own 9, Cell.own 10, Cell.own 11, Cell.own 12, Cell.own 13, Cell.own 14, Cell.own 15, Cell.own 16]), (2, [Cell.own 17, Cell.own 18, Cell.own 19, Cell.own 20, cI r4.Skew]), (3, [Cell.own 21, Cell.own 22, Cell.own 23, Cell.own 24, cI r5.1.Config.Skew, cI r5.1.Now, cI r5.1.Fresh, Cell.own 25, Cell.own 26, Cell.own 27, Cell.own 28, Cell.own 29, Cell.own 30, Cell.own 31, Cell.own 32, Cell.own 33])] 34) (Le.mk [(0, 0), (1, 1), (2, 2), (3, 37), (4, 3), (5, 4), (6, 5), (7, 6), (8, 7), (9, 8), (10, 9), (11, 10), (12, 11), (13, 12), (14, 13), (15, 14), (16, 15), (17, 16), (18, 17), (19, 18), (20, 19), (21, 20), (22, 21), (23, 22), (24, 23), (25, 27), (26, 28), (27, 29), (28, 30), (29, 31), (30, 32), (31, 33), (32, 34), (33, 35)] hm rfl (Sa4 (Sa2 trivial)) (Ra8 (Ra8 (Ra8 (Ra4 (Ra2 trivial))))) (Ba4 trivial)) (L.nil ?_)
  refine WpC.seq (WpC.seq (WpC.regionL ?_))
  refine L.loadPtr shape72 hF rfl rfl rfl rfl rfl rfl ?_
  refine L.loadPtr shape72 hF rfl rfl rfl rfl rfl rfl ?_
  obtain ⟨r9, hr9, H⟩ := bindS H
  refine L.call [false, false] [21, 22, 23, 24, 25, 26, 27, 28, 29, 30, 31, 32, 33, 4, 5, 6, 7, 8, 9, 10, 11, 12, 13, 14, 15, 16] [] 34 hF rfl rfl rfl ent46 rfl rfl rfl rfl rfl (Flaws_eqWorld_gives k false false false false false false false false false false false false false false false false false false false false false false false false false false r5.1 r3.1 r9 hr9) rfl ?_
  refine L.not hF rfl rfl rfl ?_
  refine L.move hF rfl rfl rfl ?_
  refine L.split (fun hc => ?_) (fun hc => ?_)
  ·replace H := condT hc H
   refine L.off hF rfl rfl ?_
   refine L.off hF rfl rfl ?_
   refine L.off hF rfl rfl ?_
   refine L.pick hF rfl rfl rfl rfl ?_
   refine L.le (τ := mkSt [(1, one (Cell.ptr 0 0)), (4, one (Cell.ptr 1 0)), (5, one (cL r3.2)), (6, one (Cell.ptr 2 0)), (7, one (Cell.ptr 3 0)), (8, one (cL r5.2)), (40, one (cL true))] [(4, ⟨1, List.map eI r3.1.Config.UserRealm⟩), (5, ⟨1, List.map eI r3.1.Config.ServiceRealm⟩), (6, ⟨2, List.map eTimpl_Pair r3.1.Config.Links⟩), (7, ⟨2, List.map eTimpl_Pair r3.1.Config.Proxy⟩), (8, ⟨1, List.map eS r3.1.Net⟩), (9, ⟨1, List.map eS r3.1.Known.Terms⟩), (10, ⟨1, List.map eI r3.1.Known.Keys⟩), (11, ⟨4, List.map eTimpl_Wait r3.1.Waits⟩), (12, ⟨8, List.map eTimpl_Cred r3.1.Creds⟩), (13, ⟨2, List.map eTimpl_Cache r3.1.Caches⟩), (14, ⟨11, List.map eTimpl_Event r3.1.Log⟩), (15, ⟨15, List.map eTimpl_Accept r3.1.Accepts⟩), (16, ⟨1, List.map eI r3.1.Leaked⟩), (17, ⟨1, List.map eI r4.UserRealm⟩), (18, ⟨1, List.map eI r4.ServiceRealm⟩), (19, ⟨2, List.map eTimpl_Pair r4.Links⟩), (20, ⟨2, List.map eTimpl_Pair r4.Proxy⟩), (21, ⟨1, List.map eI r5.1.Config.UserRealm⟩), (22, ⟨1, List.map eI r5.1.Config.ServiceRealm⟩), (23, ⟨2, List.map eTimpl_Pair r5.1.Config.Links⟩), (24, ⟨2, List.map eTimpl_Pair r5.1.Config.Proxy⟩), (25, ⟨1, List.map eS r5.1.Net⟩), (26, ⟨1, List.map eS r5.1.Known.Terms⟩), (27, ⟨1, List.map eI r5.1.Known.Keys⟩), (28, ⟨4, List.map eTimpl_Wait r5.1.Waits⟩), (29, ⟨8, List.map eTimpl_Cred r5.1.Creds⟩), (30, ⟨2, List.map eTimpl_Cache r5.1.Caches⟩), (31, ⟨11, List.map eTimpl_Event r5.1.Log⟩), (32, ⟨15, List.map eTimpl_Accept r5.1.Accepts⟩), (33, ⟨1, List.map eI r5.1.Leaked⟩)] [(0, (bTlaws_Config g0 g1 g2 g3 a0)), (1, [Cell.own 4, Cell.own 5, Cell.own 6, Cell.own 7, cI r3.1.Config.Skew, cI r3.1.Now, cI r3.1.Fresh, Cell.own 8, Cell.own 9, Cell.own 10, Cell.own 11, Cell.own 12, Cell.own 13, Cell.own 14, Cell.own 15, Cell.own 16]), (2, [Cell.own 17, Cell.own 18, Cell.own 19, Cell.own 20, cI r4.Skew]), (3, [Cell.own 21, Cell.own 22, Cell.own 23, Cell.own 24, cI r5.1.Config.Skew, cI r5.1.Now, cI r5.1.Fresh, Cell.own 25, Cell.own 26, Cell.own 27, Cell.own 28, Cell.own 29, Cell.own 30, Cell.own 31, Cell.own 32, Cell.own 33])] 34) (Le.mk [(0, 0), (1, 1), (2, 2), (3, 3), (4, 4), (5, 5), (6, 6), (7, 7), (8, 8), (9, 9), (10, 10), (11, 11), (12, 12), (13, 13), (14, 14), (15, 15), (16, 16), (17, 17), (18, 18), (19, 19), (20, 20), (21, 21), (22, 22), (23, 23), (24, 24), (25, 25), (26, 26), (27, 27), (28, 28), (29, 29), (30, 30), (31, 31), (32, 32), (33, 33)] hm rfl (Sa4 (Sa2 (Sa1 trivial))) (Ra8 (Ra8 (Ra8 (Ra4 (Ra2 trivial))))) (Ba4 trivial)) (L.nil ?_)
   refine WpC.cond rfl (fun _ => ?_) (fun hc => by cases hc)
   refine WpC.seq (WpC.regionL ?_)
   refine L.assign hF rfl rfl rfl ?_
   refine L.le (τ := mkSt [(2, one (cL false))] [] [] 0) (Le.mk [] hm rfl (Sa1 trivial) trivial trivial) (L.nil ?_)
   refine WpC.ret ?_
   cases H
   exact Leaves.ret rfl rfl rfl ⟨rfl, rfl⟩
  ·replace H := condF hc H
   refine L.move hF rfl rfl rfl ?_
   refine L.move hF rfl rfl rfl ?_
   refine L.neL Try.underlying4 hF rfl rfl rfl rfl ?_
   refine L.pick hF rfl rfl rfl rfl ?_
   refine L.le (τ := mkSt [(1, one (Cell.ptr 0 0)), (4, one (Cell.ptr 1 0)), (5, one (cL r3.2)), (6, one (Cell.ptr 2 0)), (7, one (Cell.ptr 3 0)), (8, one (cL r5.2)), (40, one (cL (r5.2 != r3.2)))] [(4, ⟨1, List.map eI r3.1.Config.UserRealm⟩), (5, ⟨1, List.map eI r3.1.Config.ServiceRealm⟩), (6, ⟨2, List.map eTimpl_Pair r3.1.Config.Links⟩), (7, ⟨2, List.map eTimpl_Pair r3.1.Config.Proxy⟩), (8, ⟨1, List.map eS r3.1.Net⟩), (9, ⟨1, List.map eS r3.1.Known.Terms⟩), (10, ⟨1, List.map eI r3.1.Known.Keys⟩), (11, ⟨4, List.map eTimpl_Wait r3.1.Waits⟩), (12, ⟨8, List.map eTimpl_Cred r3.1.Creds⟩), (13, ⟨2, List.map eTimpl_Cache r3.1.Caches⟩), (14, ⟨11, List.map eTimpl_Event r3.1.Log⟩), (15, ⟨15, List.map eTimpl_Accept r3.1.Accepts⟩), (16, ⟨1, List.map eI r3.1.Leaked⟩), (17, ⟨1, List.map eI r4.UserRealm⟩), (18, ⟨1, List.map eI r4.ServiceRealm⟩), (19, ⟨2, List.map eTimpl_Pair r4.Links⟩), (20, ⟨2, List.map eTimpl_Pair r4.Proxy⟩), (21, ⟨1, List.map eI r5.1.Config.UserRealm⟩), (22, ⟨1, List.map eI r5.1.Config.ServiceRealm⟩), (23, ⟨2, List.map eTimpl_Pair r5.1.Config.Links⟩), (24, ⟨2, List.map eTimpl_Pair r5.1.Config.Proxy⟩), (25, ⟨1, List.map eS r5.1.Net⟩), (26, ⟨1, List.map eS r5.1.Known.Terms⟩), (27, ⟨1, List.map eI r5.1.Known.Keys⟩), (28, ⟨4, List.map eTimpl_Wait r5.1.Waits⟩), (29, ⟨8, List.map eTimpl_Cred r5.1.Creds⟩), (30, ⟨2, List.map eTimpl_Cache r5.1.Caches⟩), (31, ⟨11, List.map eTimpl_Event r5.1.Log⟩), (32, ⟨15, List.map eTimpl_Accept r5.1.Accepts⟩), (33, ⟨1, List.map eI r5.1.Leaked⟩)] [(0, (bTlaws_Config g0 g1 g2 g3 a0)), (1, [Cell.own 4, Cell.own 5, Cell.own 6, Cell.own 7, cI r3.1.Config.Skew, cI r3.1.Now, cI r3.1.Fresh, Cell.own 8, Cell.own 9, Cell.own 10, Cell.own 11, Cell.own 12, Cell.own 13, Cell.own 14, Cell.own 15, Cell.own 16]), (2, [Cell.own 17, Cell.own 18, Cell.own 19, Cell.own 20, cI r4.Skew]), (3, [Cell.own 21, Cell.own 22, Cell.own 23, Cell.own 24, cI r5.1.Config.Skew, cI r5.1.Now, cI r5.1.Fresh, Cell.own 25, Cell.own 26, Cell.own 27, Cell.own 28, Cell.own 29, Cell.own 30, Cell.own 31, Cell.own 32, Cell.own 33])] 34) (Le.mk [(0, 0), (1, 1), (2, 2), (3, 3), (4, 4), (5, 5), (6, 6), (7, 7), (8, 8), (9, 9), (10, 10), (11, 11), (12, 12), (13, 13), (14, 14), (15, 15), (16, 16), (17, 17), (18, 18), (19, 19), (20, 20), (21, 21), (22, 22), (23, 23), (24, 24), (25, 25), (26, 26), (27, 27), (28, 28), (29, 29), (30, 30), (31, 31), (32, 32), (33, 33)] hm rfl (Sa4 (Sa2 (Sa1 trivial))) (Ra8 (Ra8 (Ra8 (Ra4 (Ra2 trivial))))) (Ba4 trivial)) (L.nil ?_)
   refine WpC.cond rfl (fun hc => ?_) (fun hc => ?_)
   ·replace H := condT hc H
    refine WpC.seq (WpC.regionL ?_)
    refine L.assign hF rfl rfl rfl ?_
    refine L.le (τ := mkSt [(2, one (cL false))] [] [] 0) (Le.mk [] hm rfl (Sa1 trivial) trivial trivial) (L.nil ?_)
    refine WpC.ret ?_
    cases H
    exact Leaves.ret rfl rfl rfl ⟨rfl, rfl⟩
   ·replace H := condF hc H
    refine WpC.skip (WpC.seq (WpC.seq ?_))
    obtain ⟨r12, hr12, H⟩ := bindS H
    obtain ⟨r13, hr13, H⟩ := bindS H
    refine A.lin (fun β => mkStL [(1, ai (one (Cell.ptr 0 0))), (4, ai (one (Cell.ptr 1 0))), (5, ai (one (cL r3.2))), (6, ai (one (Cell.ptr 2 0))), (7, ai (one (Cell.ptr 3 0))), (8, ai (one (cL r5.2))), (41, al (β 0) (agg [Cell.own 17, Cell.own 18, Cell.own 19, Cell.own 20, cI r4.Skew])), (42, al (β 1) (agg (bTlaws_Config g0 g1 g2 g3 a0))), (43, al (β 2) (agg [Cell.own 34, Cell.own 35, Cell.own 36, Cell.own 37, cI r12.Skew])), (44, al (β 3) (one (cL r13))), (45, al (β 4) (one (cL (!r13))))] [(4, ai (⟨1, List.map eI r3.1.Config.UserRealm⟩)), (5, ai (⟨1, List.map eI r3.1.Config.ServiceRealm⟩)), (6, ai (⟨2, List.map eTimpl_Pair r3.1.Config.Links⟩)), (7, ai (⟨2, List.map eTimpl_Pair r3.1.Config.Proxy⟩)), (8, ai (⟨1, List.map eS r3.1.Net⟩)), (9, ai (⟨1, List.map eS r3.1.Known.Terms⟩)), (10, ai (⟨1, List.map eI r3.1.Known.Keys⟩)), (11, ai (⟨4, List.map eTimpl_Wait r3.1.Waits⟩)), (12, ai (⟨8, List.map eTimpl_Cred r3.1.Creds⟩)), (13, ai (⟨2, List.map eTimpl_Cache r3.1.Caches⟩)), (14, ai (⟨11, List.map eTimpl_Event r3.1.Log⟩)), (15, ai (⟨15, List.map eTimpl_Accept r3.1.Accepts⟩)), (16, ai (⟨1, List.map eI r3.1.Leaked⟩)), (17, ai (⟨1, List.map eI r4.UserRealm⟩)), (18, ai (⟨1, List.map eI r4.ServiceRealm⟩)), (19, ai (⟨2, List.map eTimpl_Pair r4.Links⟩)), (20, ai (⟨2, List.map eTimpl_Pair r4.Proxy⟩)), (21, ai (⟨1, List.map eI r5.1.Config.UserRealm⟩)), (22, ai (⟨1, List.map eI r5.1.Config.ServiceRealm⟩)), (23, ai (⟨2, List.map eTimpl_Pair r5.1.Config.Links⟩)), (24, ai (⟨2, List.map eTimpl_Pair r5.1.Config.Proxy⟩)), (25, ai (⟨1, List.map eS r5.1.Net⟩)), (26, ai (⟨1, List.map eS r5.1.Known.Terms⟩)), (27, ai (⟨1, List.map eI r5.1.Known.Keys⟩)), (28, ai (⟨4, List.map eTimpl_Wait r5.1.Waits⟩)), (29, ai (⟨8, List.map eTimpl_Cred r5.1.Creds⟩)), (30, ai (⟨2, List.map eTimpl_Cache r5.1.Caches⟩)), (31, ai (⟨11, List.map eTimpl_Event r5.1.Log⟩)), (32, ai (⟨15, List.map eTimpl_Accept r5.1.Accepts⟩)), (33, ai (⟨1, List.map eI r5.1.Leaked⟩)), (34, al (β 2) (⟨1, List.map eI r12.UserRealm⟩)), (35, al (β 2) (⟨1, List.map eI r12.ServiceRealm⟩)), (36, al (β 2) (⟨2, List.map eTimpl_Pair r12.Links⟩)), (37, al (β 2) (⟨2, List.map eTimpl_Pair r12.Proxy⟩))] [(0, ai ((bTlaws_Config g0 g1 g2 g3 a0))), (1, ai ([Cell.own 4, Cell.own 5, Cell.own 6, Cell.own 7, cI r3.1.Config.Skew, cI r3.1.Now, cI r3.1.Fresh, Cell.own 8, Cell.own 9, Cell.own 10, Cell.own 11, Cell.own 12, Cell.own 13, Cell.own 14, Cell.own 15, Cell.own 16])), (2, ai ([Cell.own 17, Cell.own 18, Cell.own 19, Cell.own 20, cI r4.Skew])), (3, ai ([Cell.own 21, Cell.own 22, Cell.own 23, Cell.own 24, cI r5.1.Config.Skew, cI r5.1.Now, cI r5.1.Fresh, Cell.own 25, Cell.own 26, Cell.own 27, Cell.own 28, Cell.own 29, Cell.own 30, Cell.own 31, Cell.own 32, Cell.own 33]))] 40) [([], [3, 4]), ([], [2, 3, 4]), ([1], [3, 4]), ([0, 1, 2], [4]), ([0, 1, 2, 3], [])] 5 mixed rfl (by kernel_rfl) ?_ ?_ ?_
    ·exact Le.lin [] hm rfl (sa (sa (sa (sa (sa (sa (kn (kn (kn (kn (kn kz))))))))))) (ra (ra (ra (ra (ra (ra (ra (ra (ra (ra (ra (ra (ra (ra (ra (ra (ra (ra (ra (ra (ra (ra (ra (ra (ra (ra (ra (ra (ra (ra (kn (kn (kn (kn kz)))))))))))))))))))))))))))))))))) (ba (ba (ba (ba kz))))
    ·refine ⟨⟨_, rfl, fun β => ?_⟩, ⟨_, rfl, fun β => ?_⟩, ⟨_, rfl, fun β => ?_⟩, ⟨_, rfl, fun β => ?_⟩, ⟨_, rfl, fun β => ?_⟩, trivial⟩
     ·refine L.loadPtr shape62 hF rfl rfl rfl rfl rfl rfl ?_
      exact L.nil (Le.lin [] hm rfl (sa (sa (sa (sa (sa (sa (sa (su (su (kn (kn kz))))))))))) (ra (ra (ra (ra (ra (ra (ra (ra (ra (ra (ra (ra (ra (ra (ra (ra (ra (ra (ra (ra (ra (ra (ra (ra (ra (ra (ra (ra (ra (ra (ru (ru (ru (ru kz)))))))))))))))))))))))))))))))))) (ba (ba (ba (ba kz)))))
     ·refine L.loadPtr shape58 hF rfl rfl rfl rfl rfl rfl ?_
      exact L.nil (Le.lin [] hm rfl (sa (sa (sa (sa (sa (sa (su (sa (kn (kn (kn kz))))))))))) (ra (ra (ra (ra (ra (ra (ra (ra (ra (ra (ra (ra (ra (ra (ra (ra (ra (ra (ra (ra (ra (ra (ra (ra (ra (ra (ra (ra (ra (ra (kn (kn (kn (kn kz)))))))))))))))))))))))))))))))))) (ba (ba (ba (ba kz)))))
     ·refine L.call [false] [] [] 40 hF rfl rfl rfl ent44 rfl rfl rfl rfl rfl (Flaws_toConfig_gives k g0 g1 g2 g3 a0 r12 hr12) rfl ?_
      exact L.nil (Le.lin [(34, 40), (35, 41), (36, 42), (37, 43), (38, 44)] hm rfl (sa (sa (sa (sa (sa (sa (su (sa (sa (kn (kn kz))))))))))) (ra (ra (ra (ra (ra (ra (ra (ra (ra (ra (ra (ra (ra (ra (ra (ra (ra (ra (ra (ra (ra (ra (ra (ra (ra (ra (ra (ra (ra (ra (ra (ra (ra (ra kz)))))))))))))))))))))))))))))))))) (ba (ba (ba (ba kz)))))
     ·refine L.call [false, false] [17, 18, 19, 20, 34, 35, 36, 37] [] 40 hF rfl rfl rfl ent47 rfl rfl rfl rfl rfl (Flaws_eqConfig_gives k false false false false false false false false r4 r12 r13 hr13) rfl ?_
      exact L.nil (Le.lin [(39, 40)] hm rfl (sa (sa (sa (sa (sa (sa (sa (sa (sa (sa (kn kz))))))))))) (ra (ra (ra (ra (ra (ra (ra (ra (ra (ra (ra (ra (ra (ra (ra (ra (ra (ra (ra (ra (ra (ra (ra (ra (ra (ra (ra (ra (ra (ra (ra (ra (ra (ra kz)))))))))))))))))))))))))))))))))) (ba (ba (ba (ba kz)))))
     ·refine L.not hF rfl rfl rfl ?_
      exact L.nil (Le.lin [] hm rfl (sa (sa (sa (sa (sa (sa (sa (sa (sa (sa (sa kz))))))))))) (ra (ra (ra (ra (ra (ra (ra (ra (ra (ra (ra (ra (ra (ra (ra (ra (ra (ra (ra (ra (ra (ra (ra (ra (ra (ra (ra (ra (ra (ra (ra (ra (ra (ra kz)))))))))))))))))))))))))))))))))) (ba (ba (ba (ba kz)))))
    refine ⟨_, (Le.mk [(0, 0), (1, 1), (2, 2), (3, 3), (4, 4), (5, 5), (6, 6), (7, 7), (8, 8), (9, 9), (10, 10), (11, 11), (12, 12), (13, 13), (14, 14), (15, 15), (16, 16), (17, 17), (18, 18), (19, 19), (20, 20), (21, 21), (22, 22), (23, 23), (24, 24), (25, 25), (26, 26), (27, 27), (28, 28), (29, 29), (30, 30), (31, 31), (32, 32), (33, 33)] hm rfl (Sa4 (Sa2 (Sa1 trivial))) (Ra8 (Ra8 (Ra8 (Ra4 (Ra2 trivial))))) (Ba4 trivial) : Le _ _ (mkSt [(1, one (Cell.ptr 0 0)), (4, one (Cell.ptr 1 0)), (5, one (cL r3.2)), (6, one (Cell.ptr 2 0)), (7, one (Cell.ptr 3 0)), (8, one (cL r5.2)), (45, one (cL (!r13)))] [(4, ⟨1, List.map eI r3.1.Config.UserRealm⟩), (5, ⟨1, List.map eI r3.1.Config.ServiceRealm⟩), (6, ⟨2, List.map eTimpl_Pair r3.1.Config.Links⟩), (7, ⟨2, List.map eTimpl_Pair r3.1.Config.Proxy⟩), (8, ⟨1, List.map eS r3.1.Net⟩), (9, ⟨1, List.map eS r3.1.Known.Terms⟩), (10, ⟨1, List.map eI r3.1.Known.Keys⟩), (11, ⟨4, List.map eTimpl_Wait r3.1.Waits⟩), (12, ⟨8, List.map eTimpl_Cred r3.1.Creds⟩), (13, ⟨2, List.map eTimpl_Cache r3.1.Caches⟩), (14, ⟨11, List.map eTimpl_Event r3.1.Log⟩), (15, ⟨15, List.map eTimpl_Accept r3.1.Accepts⟩), (16, ⟨1, List.map eI r3.1.Leaked⟩), (17, ⟨1, List.map eI r4.UserRealm⟩), (18, ⟨1, List.map eI r4.ServiceRealm⟩), (19, ⟨2, List.map eTimpl_Pair r4.Links⟩), (20, ⟨2, List.map eTimpl_Pair r4.Proxy⟩), (21, ⟨1, List.map eI r5.1.Config.UserRealm⟩), (22, ⟨1, List.map eI r5.1.Config.ServiceRealm⟩), (23, ⟨2, List.map eTimpl_Pair r5.1.Config.Links⟩), (24, ⟨2, List.map eTimpl_Pair r5.1.Config.Proxy⟩), (25, ⟨1, List.map eS r5.1.Net⟩), (26, ⟨1, List.map eS r5.1.Known.Terms⟩), (27, ⟨1, List.map eI r5.1.Known.Keys⟩), (28, ⟨4, List.map eTimpl_Wait r5.1.Waits⟩), (29, ⟨8, List.map eTimpl_Cred r5.1.Creds⟩), (30, ⟨2, List.map eTimpl_Cache r5.1.Caches⟩), (31, ⟨11, List.map eTimpl_Event r5.1.Log⟩), (32, ⟨15, List.map eTimpl_Accept r5.1.Accepts⟩), (33, ⟨1, List.map eI r5.1.Leaked⟩)] [(0, (bTlaws_Config g0 g1 g2 g3 a0)), (1, [Cell.own 4, Cell.own 5, Cell.own 6, Cell.own 7, cI r3.1.Config.Skew, cI r3.1.Now, cI r3.1.Fresh, Cell.own 8, Cell.own 9, Cell.own 10, Cell.own 11, Cell.own 12, Cell.own 13, Cell.own 14, Cell.own 15, Cell.own 16]), (2, [Cell.own 17, Cell.own 18, Cell.own 19, Cell.own 20, cI r4.Skew]), (3, [Cell.own 21, Cell.own 22, Cell.own 23, Cell.own 24, cI r5.1.Config.Skew, cI r5.1.Now, cI r5.1.Fresh, Cell.own 25, Cell.own 26, Cell.own 27, Cell.own 28, Cell.own 29, Cell.own 30, Cell.own 31, Cell.own 32, Cell.own 33])] 34)), ?_⟩
    refine WpC.cond rfl (fun hc => ?_) (fun hc => ?_)
    ·replace H := condT hc H
     refine WpC.seq (WpC.regionL ?_)
     refine L.assign hF rfl rfl rfl ?_
     refine L.le (τ := mkSt [(2, one (cL false))] [] [] 0) (Le.mk [] hm rfl (Sa1 trivial) trivial trivial) (L.nil ?_)
     refine WpC.ret ?_
     cases H
     exact Leaves.ret rfl rfl rfl ⟨rfl, rfl⟩
    ·replace H := condF hc H
     refine WpC.skip (WpC.seq (WpC.regionL ?_))
     refine L.assign hF rfl rfl rfl ?_
     refine L.le (τ := mkSt [(1, one (Cell.ptr 0 0)), (4, one (Cell.ptr 1 0)), (5, one (cL r3.2)), (6, one (Cell.ptr 2 0)), (7, one (Cell.ptr 3 0)), (8, one (cL r5.2)), (9, one (cI (1 : Int)))] [(4, ⟨1, List.map eI r3.1.Config.UserRealm⟩), (5, ⟨1, List.map eI r3.1.Config.ServiceRealm⟩), (6, ⟨2, List.map eTimpl_Pair r3.1.Config.Links⟩), (7, ⟨2, List.map eTimpl_Pair r3.1.Config.Proxy⟩), (8, ⟨1, List.map eS r3.1.Net⟩), (9, ⟨1, List.map eS r3.1.Known.Terms⟩), (10, ⟨1, List.map eI r3.1.Known.Keys⟩), (11, ⟨4, List.map eTimpl_Wait r3.1.Waits⟩), (12, ⟨8, List.map eTimpl_Cred r3.1.Creds⟩), (13, ⟨2, List.map eTimpl_Cache r3.1.Caches⟩), (14, ⟨11, List.map eTimpl_Event r3.1.Log⟩), (15, ⟨15, List.map eTimpl_Accept r3.1.Accepts⟩), (16, ⟨1, List.map eI r3.1.Leaked⟩), (17, ⟨1, List.map eI r4.UserRealm⟩), (18, ⟨1, List.map eI r4.ServiceRealm⟩), (19, ⟨2, List.map eTimpl_Pair r4.Links⟩), (20, ⟨2, List.map eTimpl_Pair r4.Proxy⟩), (21, ⟨1, List.map eI r5.1.Config.UserRealm⟩), (22, ⟨1, List.map eI r5.1.Config.ServiceRealm⟩), (23, ⟨2, List.map eTimpl_Pair r5.1.Config.Links⟩), (24, ⟨2, List.map eTimpl_Pair r5.1.Config.Proxy⟩), (25, ⟨1, List.map eS r5.1.Net⟩), (26, ⟨1, List.map eS r5.1.Known.Terms⟩), (27, ⟨1, List.map eI r5.1.Known.Keys⟩), (28, ⟨4, List.map eTimpl_Wait r5.1.Waits⟩), (29, ⟨8, List.map eTimpl_Cred r5.1.Creds⟩), (30, ⟨2, List.map eTimpl_Cache r5.1.Caches⟩), (31, ⟨11, List.map eTimpl_Event r5.1.Log⟩), (32, ⟨15, List.map eTimpl_Accept r5.1.Accepts⟩), (33, ⟨1, List.map eI r5.1.Leaked⟩)] [(0, (bTlaws_Config g0 g1 g2 g3 a0)), (1, [Cell.own 4, Cell.own 5, Cell.own 6, Cell.own 7, cI r3.1.Config.Skew, cI r3.1.Now, cI r3.1.Fresh, Cell.own 8, Cell.own 9, Cell.own 10, Cell.own 11, Cell.own 12, Cell.own 13, Cell.own 14, Cell.own 15, Cell.own 16]), (2, [Cell.own 17, Cell.own 18, Cell.own 19, Cell.own 20, cI r4.Skew]), (3, [Cell.own 21, Cell.own 22, Cell.own 23, Cell.own 24, cI r5.1.Config.Skew, cI r5.1.Now, cI r5.1.Fresh, Cell.own 25, Cell.own 26, Cell.own 27, Cell.own 28, Cell.own 29, Cell.own 30, Cell.own 31, Cell.own 32, Cell.own 33])] 34) (Le.mk [(0, 0), (1, 1), (2, 2), (3, 3), (4, 4), (5, 5), (6, 6), (7, 7), (8, 8), (9, 9), (10, 10), (11, 11), (12, 12), (13, 13), (14, 14), (15, 15), (16, 16), (17, 17), (18, 18), (19, 19), (20, 20), (21, 21), (22, 22), (23, 23), (24, 24), (25, 25), (26, 26), (27, 27), (28, 28), (29, 29), (30, 30), (31, 31), (32, 32), (33, 33)] hm rfl (Sa4 (Sa2 (Sa1 trivial))) (Ra8 (Ra8 (Ra8 (Ra4 (Ra2 trivial))))) (Ba4 trivial)) (L.nil ?_)
     refine WpC.seq (WpC.regionL ?_)
     refine L.loadPtr shape62 hF rfl rfl rfl rfl rfl rfl ?_
     refine L.move hF rfl rfl rfl ?_
     obtain ⟨r14, hr14, H⟩ := bindS H
     refine L.callB [true, false] [] [] 34 [0] hF rfl rfl rfl ent48 rfl rfl rfl rfl rfl (Flaws_markConfig_gives k  r4 (1 : Int) r14 hr14) rfl rfl rfl ?_
     refine L.assign hF rfl rfl rfl ?_
     refine L.le (τ := mkSt [(1, one (Cell.ptr 0 0)), (4, one (Cell.ptr 1 0)), (5, one (cL r3.2)), (7, one (Cell.ptr 2 0)), (8, one (cL r5.2)), (9, one (cI r14.1))] [(3, ⟨1, List.map eI r3.1.Config.UserRealm⟩), (4, ⟨1, List.map eI r3.1.Config.ServiceRealm⟩), (5, ⟨2, List.map eTimpl_Pair r3.1.Config.Links⟩), (6, ⟨2, List.map eTimpl_Pair r3.1.Config.Proxy⟩), (7, ⟨1, List.map eS r3.1.Net⟩), (8, ⟨1, List.map eS r3.1.Known.Terms⟩), (9, ⟨1, List.map eI r3.1.Known.Keys⟩), (10, ⟨4, List.map eTimpl_Wait r3.1.Waits⟩), (11, ⟨8, List.map eTimpl_Cred r3.1.Creds⟩), (12, ⟨2, List.map eTimpl_Cache r3.1.Caches⟩), (13, ⟨11, List.map eTimpl_Event r3.1.Log⟩), (14, ⟨15, List.map eTimpl_Accept r3.1.Accepts⟩), (15, ⟨1, List.map eI r3.1.Leaked⟩), (16, ⟨1, List.map eI r5.1.Config.UserRealm⟩), (17, ⟨1, List.map eI r5.1.Config.ServiceRealm⟩), (18, ⟨2, List.map eTimpl_Pair r5.1.Config.Links⟩), (19, ⟨2, List.map eTimpl_Pair r5.1.Config.Proxy⟩), (20, ⟨1, List.map eS r5.1.Net⟩), (21, ⟨1, List.map eS r5.1.Known.Terms⟩), (22, ⟨1, List.map eI r5.1.Known.Keys⟩), (23, ⟨4, List.map eTimpl_Wait r5.1.Waits⟩), (24, ⟨8, List.map eTimpl_Cred r5.1.Creds⟩), (25, ⟨2, List.map eTimpl_Cache r5.1.Caches⟩), (26, ⟨11, List.map eTimpl_Event r5.1.Log⟩), (27, ⟨15, List.map eTimpl_Accept r5.1.Accepts⟩), (28, ⟨1, List.map eI r5.1.Leaked⟩)] [(0, (bTlaws_Config g0 g1 g2 g3 a0)), (1, [Cell.own 3, Cell.own 4, Cell.own 5, Cell.own 6, cI r3.1.Config.Skew, cI r3.1.Now, cI r3.1.Fresh, Cell.own 7, Cell.own 8, Cell.own 9, Cell.own 10, Cell.own 11, Cell.own 12, Cell.own 13, Cell.own 14, Cell.own 15]), (2, [Cell.own 16, Cell.own 17, Cell.own 18, Cell.own 19, cI r5.1.Config.Skew, cI r5.1.Now, cI r5.1.Fresh, Cell.own 20, Cell.own 21, Cell.own 22, Cell.own 23, Cell.own 24, Cell.own 25, Cell.own 26, Cell.own 27, Cell.own 28])] 29) (Le.mk [(0, 0), (1, 1), (2, 3), (3, 4), (4, 5), (5, 6), (6, 7), (7, 8), (8, 9), (9, 10), (10, 11), (11, 12), (12, 13), (13, 14), (14, 15), (15, 16), (16, 21), (17, 22), (18, 23), (19, 24), (20, 25), (21, 26), (22, 27), (23, 28), (24, 29), (25, 30), (26, 31), (27, 32), (28, 33)] hm rfl (Sa4 (Sa2 trivial)) (Ra8 (Ra8 (Ra8 (Ra2 trivial)))) (Ba2 (Ba1 trivial))) (L.nil ?_)
     refine WpC.seq (WpC.seq (WpC.regionL ?_))
     refine L.move hF rfl rfl rfl ?_
     refine L.bin hF rfl rfl rfl rfl rfl rfl ?_
     refine L.move hF rfl rfl rfl ?_
     refine L.split (fun hc => ?_) (fun hc => ?_)
     ·replace H := condT hc H
      refine L.off hF rfl rfl ?_
      refine L.off hF rfl rfl ?_
      refine L.off hF rfl rfl ?_
      refine L.off hF rfl rfl ?_
      refine L.pick hF rfl rfl rfl rfl ?_
      refine L.move hF rfl rfl rfl ?_
      refine L.off hF rfl rfl ?_
      refine L.off hF rfl rfl ?_
      refine L.off hF rfl rfl ?_
      refine L.pick hF rfl rfl rfl rfl ?_
      refine L.le (τ := mkSt [(1, one (Cell.ptr 0 0)), (4, one (Cell.ptr 1 0)), (5, one (cL r3.2)), (7, one (Cell.ptr 2 0)), (61, one (cL true))] [(3, ⟨1, List.map eI r3.1.Config.UserRealm⟩), (4, ⟨1, List.map eI r3.1.Config.ServiceRealm⟩), (5, ⟨2, List.map eTimpl_Pair r3.1.Config.Links⟩), (6, ⟨2, List.map eTimpl_Pair r3.1.Config.Proxy⟩), (7, ⟨1, List.map eS r3.1.Net⟩), (8, ⟨1, List.map eS r3.1.Known.Terms⟩), (9, ⟨1, List.map eI r3.1.Known.Keys⟩), (10, ⟨4, List.map eTimpl_Wait r3.1.Waits⟩), (11, ⟨8, List.map eTimpl_Cred r3.1.Creds⟩), (12, ⟨2, List.map eTimpl_Cache r3.1.Caches⟩), (13, ⟨11, List.map eTimpl_Event r3.1.Log⟩), (14, ⟨15, List.map eTimpl_Accept r3.1.Accepts⟩), (15, ⟨1, List.map eI r3.1.Leaked⟩), (16, ⟨1, List.map eI r5.1.Config.UserRealm⟩), (17, ⟨1, List.map eI r5.1.Config.ServiceRealm⟩), (18, ⟨2, List.map eTimpl_Pair r5.1.Config.Links⟩), (19, ⟨2, List.map eTimpl_Pair r5.1.Config.Proxy⟩), (20, ⟨1, List.map eS r5.1.Net⟩), (21, ⟨1, List.map eS r5.1.Known.Terms⟩), (22, ⟨1, List.map eI r5.1.Known.Keys⟩), (23, ⟨4, List.map eTimpl_Wait r5.1.Waits⟩), (24, ⟨8, List.map eTimpl_Cred r5.1.Creds⟩), (25, ⟨2, List.map eTimpl_Cache r5.1.Caches⟩), (26, ⟨11, List.map eTimpl_Event r5.1.Log⟩), (27, ⟨15, List.map eTimpl_Accept r5.1.Accepts⟩), (28, ⟨1, List.map eI r5.1.Leaked⟩)] [(0, (bTlaws_Config g0 g1 g2 g3 a0)), (1, [Cell.own 3, Cell.own 4, Cell.own 5, Cell.own 6, cI r3.1.Config.Skew, cI r3.1.Now, cI r3.1.Fresh, Cell.own 7, Cell.own 8, Cell.own 9, Cell.own 10, Cell.own 11, Cell.own 12, Cell.own 13, Cell.own 14, Cell.own 15]), (2, [Cell.own 16, Cell.own 17, Cell.own 18, Cell.own 19, cI r5.1.Config.Skew, cI r5.1.Now, cI r5.1.Fresh, Cell.own 20, Cell.own 21, Cell.own 22, Cell.own 23, Cell.own 24, Cell.own 25, Cell.own 26, Cell.own 27, Cell.own 28])] 29) (Le.mk [(0, 0), (1, 1), (2, 2), (3, 3), (4, 4), (5, 5), (6, 6), (7, 7), (8, 8), (9, 9), (10, 10), (11, 11), (12, 12), (13, 13), (14, 14), (15, 15), (16, 16), (17, 17), (18, 18), (19, 19), (20, 20), (21, 21), (22, 22), (23, 23), (24, 24), (25, 25), (26, 26), (27, 27), (28, 28)] hm rfl (Sa4 (Sa1 trivial)) (Ra8 (Ra8 (Ra8 (Ra2 trivial)))) (Ba2 (Ba1 trivial))) (L.nil ?_)
      refine WpC.cond rfl (fun _ => ?_) (fun hc => by cases hc)
      refine WpC.seq (WpC.regionL ?_)
      refine L.assign hF rfl rfl rfl ?_
      refine L.le (τ := mkSt [(2, one (cL false))] [] [] 0) (Le.mk [] hm rfl (Sa1 trivial) trivial trivial) (L.nil ?_)
      refine WpC.ret ?_
      cases H
      exact Leaves.ret rfl rfl rfl ⟨rfl, rfl⟩
     ·replace H := condF hc H
      refine L.loadPtr shape72 hF rfl rfl rfl rfl rfl rfl ?_
      refine L.loadPtr shape72 hF rfl rfl rfl rfl rfl rfl ?_
      obtain ⟨r18, hr18, H⟩ := bindS H
      refine L.call [false, false] [16, 17, 18, 19, 20, 21, 22, 23, 24, 25, 26, 27, 28, 3, 4, 5, 6, 7, 8, 9, 10, 11, 12, 13, 14, 15] [] 29 hF rfl rfl rfl ent46 rfl rfl rfl rfl rfl (Flaws_eqWorld_gives k false false false false false false false false false false false false false false false false false false false false false false false false false false r5.1 r3.1 r18 hr18) rfl ?_
      refine L.not hF rfl rfl rfl ?_
      refine L.pick hF rfl rfl rfl rfl ?_
      refine L.move hF rfl rfl rfl ?_
      refine L.split (fun hc => ?_) (fun hc => ?_)
      ·replace H := condT hc H
       refine L.off hF rfl rfl ?_
       refine L.off hF rfl rfl ?_
       refine L.off hF rfl rfl ?_
       refine L.pick hF rfl rfl rfl rfl ?_
       refine L.le (τ := mkSt [(1, one (Cell.ptr 0 0)), (4, one (Cell.ptr 1 0)), (5, one (cL r3.2)), (7, one (Cell.ptr 2 0)), (61, one (cL true))] [(3, ⟨1, List.map eI r3.1.Config.UserRealm⟩), (4, ⟨1, List.map eI r3.1.Config.ServiceRealm⟩), (5, ⟨2, List.map eTimpl_Pair r3.1.Config.Links⟩), (6, ⟨2, List.map eTimpl_Pair r3.1.Config.Proxy⟩), (7, ⟨1, List.map eS r3.1.Net⟩), (8, ⟨1, List.map eS r3.1.Known.Terms⟩), (9, ⟨1, List.map eI r3.1.Known.Keys⟩), (10, ⟨4, List.map eTimpl_Wait r3.1.Waits⟩), (11, ⟨8, List.map eTimpl_Cred r3.1.Creds⟩), (12, ⟨2, List.map eTimpl_Cache r3.1.Caches⟩), (13, ⟨11, List.map eTimpl_Event r3.1.Log⟩), (14, ⟨15, List.map eTimpl_Accept r3.1.Accepts⟩), (15, ⟨1, List.map eI r3.1.Leaked⟩), (16, ⟨1, List.map eI r5.1.Config.UserRealm⟩), (17, ⟨1, List.map eI r5.1.Config.ServiceRealm⟩), (18, ⟨2, List.map eTimpl_Pair r5.1.Config.Links⟩), (19, ⟨2, List.map eTimpl_Pair r5.1.Config.Proxy⟩), (20, ⟨1, List.map eS r5.1.Net⟩), (21, ⟨1, List.map eS r5.1.Known.Terms⟩), (22, ⟨1, List.map eI r5.1.Known.Keys⟩), (23, ⟨4, List.map eTimpl_Wait r5.1.Waits⟩), (24, ⟨8, List.map eTimpl_Cred r5.1.Creds⟩), (25, ⟨2, List.map eTimpl_Cache r5.1.Caches⟩), (26, ⟨11, List.map eTimpl_Event r5.1.Log⟩), (27, ⟨15, List.map eTimpl_Accept r5.1.Accepts⟩), (28, ⟨1, List.map eI r5.1.Leaked⟩)] [(0, (bTlaws_Config g0 g1 g2 g3 a0)), (1, [Cell.own 3, Cell.own 4, Cell.own 5, Cell.own 6, cI r3.1.Config.Skew, cI r3.1.Now, cI r3.1.Fresh, Cell.own 7, Cell.own 8, Cell.own 9, Cell.own 10, Cell.own 11, Cell.own 12, Cell.own 13, Cell.own 14, Cell.own 15]), (2, [Cell.own 16, Cell.own 17, Cell.own 18, Cell.own 19, cI r5.1.Config.Skew, cI r5.1.Now, cI r5.1.Fresh, Cell.own 20, Cell.own 21, Cell.own 22, Cell.own 23, Cell.own 24, Cell.own 25, Cell.own 26, Cell.own 27, Cell.own 28])] 29) (Le.mk [(0, 0), (1, 1), (2, 2), (3, 3), (4, 4), (5, 5), (6, 6), (7, 7), (8, 8), (9, 9), (10, 10), (11, 11), (12, 12), (13, 13), (14, 14), (15, 15), (16, 16), (17, 17), (18, 18), (19, 19), (20, 20), (21, 21), (22, 22), (23, 23), (24, 24), (25, 25), (26, 26), (27, 27), (28, 28)] hm rfl (Sa4 (Sa1 trivial)) (Ra8 (Ra8 (Ra8 (Ra2 trivial)))) (Ba2 (Ba1 trivial))) (L.nil ?_)
       refine WpC.cond rfl (fun _ => ?_) (fun hc => by cases hc)
       refine WpC.seq (WpC.regionL ?_)
       refine L.assign hF rfl rfl rfl ?_
       refine L.le (τ := mkSt [(2, one (cL false))] [] [] 0) (Le.mk [] hm rfl (Sa1 trivial) trivial trivial) (L.nil ?_)
       refine WpC.ret ?_
       cases H
       exact Leaves.ret rfl rfl rfl ⟨rfl, rfl⟩
      ·replace H := condF hc H
       refine L.move hF rfl rfl rfl ?_
       refine L.move hF rfl rfl rfl ?_
       refine L.neL Try.underlying4 hF rfl rfl rfl rfl ?_
       refine L.pick hF rfl rfl rfl rfl ?_
       refine L.le (τ := mkSt [(1, one (Cell.ptr 0 0)), (4, one (Cell.ptr 1 0)), (5, one (cL r3.2)), (7, one (Cell.ptr 2 0)), (61, one (cL (r5.2 != r3.2)))] [(3, ⟨1, List.map eI r3.1.Config.UserRealm⟩), (4, ⟨1, List.map eI r3.1.Config.ServiceRealm⟩), (5, ⟨2, List.map eTimpl_Pair r3.1.Config.Links⟩), (6, ⟨2, List.map eTimpl_Pair r3.1.Config.Proxy⟩), (7, ⟨1, List.map eS r3.1.Net⟩), (8, ⟨1, List.map eS r3.1.Known.Terms⟩), (9, ⟨1, List.map eI r3.1.Known.Keys⟩), (10, ⟨4, List.map eTimpl_Wait r3.1.Waits⟩), (11, ⟨8, List.map eTimpl_Cred r3.1.Creds⟩), (12, ⟨2, List.map eTimpl_Cache r3.1.Caches⟩), (13, ⟨11, List.map eTimpl_Event r3.1.Log⟩), (14, ⟨15, List.map eTimpl_Accept r3.1.Accepts⟩), (15, ⟨1, List.map eI r3.1.Leaked⟩), (16, ⟨1, List.map eI r5.1.Config.UserRealm⟩), (17, ⟨1, List.map eI r5.1.Config.ServiceRealm⟩), (18, ⟨2, List.map eTimpl_Pair r5.1.Config.Links⟩), (19, ⟨2, List.map eTimpl_Pair r5.1.Config.Proxy⟩), (20, ⟨1, List.map eS r5.1.Net⟩), (21, ⟨1, List.map eS r5.1.Known.Terms⟩), (22, ⟨1, List.map eI r5.1.Known.Keys⟩), (23, ⟨4, List.map eTimpl_Wait r5.1.Waits⟩), (24, ⟨8, List.map eTimpl_Cred r5.1.Creds⟩), (25, ⟨2, List.map eTimpl_Cache r5.1.Caches⟩), (26, ⟨11, List.map eTimpl_Event r5.1.Log⟩), (27, ⟨15, List.map eTimpl_Accept r5.1.Accepts⟩), (28, ⟨1, List.map eI r5.1.Leaked⟩)] [(0, (bTlaws_Config g0 g1 g2 g3 a0)), (1, [Cell.own 3, Cell.own 4, Cell.own 5, Cell.own 6, cI r3.1.Config.Skew, cI r3.1.Now, cI r3.1.Fresh, Cell.own 7, Cell.own 8, Cell.own 9, Cell.own 10, Cell.own 11, Cell.own 12, Cell.own 13, Cell.own 14, Cell.own 15]), (2, [Cell.own 16, Cell.own 17, Cell.own 18, Cell.own 19, cI r5.1.Config.Skew, cI r5.1.Now, cI r5.1.Fresh, Cell.own 20, Cell.own 21, Cell.own 22, Cell.own 23, Cell.own 24, Cell.own 25, Cell.own 26, Cell.own 27, Cell.own 28])] 29) (Le.mk [(0, 0), (1, 1), (2, 2), (3, 3), (4, 4), (5, 5), (6, 6), (7, 7), (8, 8), (9, 9), (10, 10), (11, 11), (12, 12), (13, 13), (14, 14), (15, 15), (16, 16), (17, 17), (18, 18), (19, 19), (20, 20), (21, 21), (22, 22), (23, 23), (24, 24), (25, 25), (26, 26), (27, 27), (28, 28)] hm rfl (Sa4 (Sa1 trivial)) (Ra8 (Ra8 (Ra8 (Ra2 trivial)))) (Ba2 (Ba1 trivial))) (L.nil ?_)
       refine WpC.cond rfl (fun hc => ?_) (fun hc => ?_)
       ·replace H := condT hc H
        refine WpC.seq (WpC.regionL ?_)
        refine L.assign hF rfl rfl rfl ?_
        refine L.le (τ := mkSt [(2, one (cL false))] [] [] 0) (Le.mk [] hm rfl (Sa1 trivial) trivial trivial) (L.nil ?_)
        refine WpC.ret ?_
        cases H
        exact Leaves.ret rfl rfl rfl ⟨rfl, rfl⟩
       ·replace H := condF hc H
        refine WpC.skip (WpC.seq (WpC.regionL ?_))
        refine L.assign hF rfl rfl rfl ?_
        refine L.le (τ := mkSt [(1, one (Cell.ptr 0 0)), (4, one (Cell.ptr 1 0)), (5, one (cL r3.2)), (7, one (Cell.ptr 2 0)), (10, one (cI (1 : Int)))] [(3, ⟨1, List.map eI r3.1.Config.UserRealm⟩), (4, ⟨1, List.map eI r3.1.Config.ServiceRealm⟩), (5, ⟨2, List.map eTimpl_Pair r3.1.Config.Links⟩), (6, ⟨2, List.map eTimpl_Pair r3.1.Config.Proxy⟩), (7, ⟨1, List.map eS r3.1.Net⟩), (8, ⟨1, List.map eS r3.1.Known.Terms⟩), (9, ⟨1, List.map eI r3.1.Known.Keys⟩), (10, ⟨4, List.map eTimpl_Wait r3.1.Waits⟩), (11, ⟨8, List.map eTimpl_Cred r3.1.Creds⟩), (12, ⟨2, List.map eTimpl_Cache r3.1.Caches⟩), (13, ⟨11, List.map eTimpl_Event r3.1.Log⟩), (14, ⟨15, List.map eTimpl_Accept r3.1.Accepts⟩), (15, ⟨1, List.map eI r3.1.Leaked⟩), (16, ⟨1, List.map eI r5.1.Config.UserRealm⟩), (17, ⟨1, List.map eI r5.1.Config.ServiceRealm⟩), (18, ⟨2, List.map eTimpl_Pair r5.1.Config.Links⟩), (19, ⟨2, List.map eTimpl_Pair r5.1.Config.Proxy⟩), (20, ⟨1, List.map eS r5.1.Net⟩), (21, ⟨1, List.map eS r5.1.Known.Terms⟩), (22, ⟨1, List.map eI r5.1.Known.Keys⟩), (23, ⟨4, List.map eTimpl_Wait r5.1.Waits⟩), (24, ⟨8, List.map eTimpl_Cred r5.1.Creds⟩), (25, ⟨2, List.map eTimpl_Cache r5.1.Caches⟩), (26, ⟨11, List.map eTimpl_Event r5.1.Log⟩), (27, ⟨15, List.map eTimpl_Accept r5.1.Accepts⟩), (28, ⟨1, List.map eI r5.1.Leaked⟩)] [(0, (bTlaws_Config g0 g1 g2 g3 a0)), (1, [Cell.own 3, Cell.own 4, Cell.own 5, Cell.own 6, cI r3.1.Config.Skew, cI r3.1.Now, cI r3.1.Fresh, Cell.own 7, Cell.own 8, Cell.own 9, Cell.own 10, Cell.own 11, Cell.own 12, Cell.own 13, Cell.own 14, Cell.own 15]), (2, [Cell.own 16, Cell.own 17, Cell.own 18, Cell.own 19, cI r5.1.Config.Skew, cI r5.1.Now, cI r5.1.Fresh, Cell.own 20, Cell.own 21, Cell.own 22, Cell.own 23, Cell.own 24, Cell.own 25, Cell.own 26, Cell.own 27, Cell.own 28])] 29) (Le.mk [(0, 0), (1, 1), (2, 2), (3, 3), (4, 4), (5, 5), (6, 6), (7, 7), (8, 8), (9, 9), (10, 10), (11, 11), (12, 12), (13, 13), (14, 14), (15, 15), (16, 16), (17, 17), (18, 18), (19, 19), (20, 20), (21, 21), (22, 22), (23, 23), (24, 24), (25, 25), (26, 26), (27, 27), (28, 28)] hm rfl (Sa4 (Sa1 trivial)) (Ra8 (Ra8 (Ra8 (Ra2 trivial)))) (Ba2 (Ba1 trivial))) (L.nil ?_)
        refine WpC.seq (WpC.regionL ?_)
        refine L.loadPtr shape72 hF rfl rfl rfl rfl rfl rfl ?_
        refine L.move hF rfl rfl rfl ?_
        obtain ⟨r19, hr19, H⟩ := bindS H
        refine L.callB [true, false] [] [] 29 [0] hF rfl rfl rfl ent49 rfl rfl rfl rfl rfl (Flaws_markWorld_gives k  r5.1 (1 : Int) r19 hr19) rfl rfl rfl ?_
        refine L.assign hF rfl rfl rfl ?_
        refine L.le (τ := mkSt [(1, one (Cell.ptr 0 0)), (4, one (Cell.ptr 1 0)), (5, one (cL r3.2)), (7, one (Cell.ptr 2 0)), (10, one (cI r19.1))] [(3, ⟨1, List.map eI r3.1.Config.UserRealm⟩), (4, ⟨1, List.map eI r3.1.Config.ServiceRealm⟩), (5, ⟨2, List.map eTimpl_Pair r3.1.Config.Links⟩), (6, ⟨2, List.map eTimpl_Pair r3.1.Config.Proxy⟩), (7, ⟨1, List.map eS r3.1.Net⟩), (8, ⟨1, List.map eS r3.1.Known.Terms⟩), (9, ⟨1, List.map eI r3.1.Known.Keys⟩), (10, ⟨4, List.map eTimpl_Wait r3.1.Waits⟩), (11, ⟨8, List.map eTimpl_Cred r3.1.Creds⟩), (12, ⟨2, List.map eTimpl_Cache r3.1.Caches⟩), (13, ⟨11, List.map eTimpl_Event r3.1.Log⟩), (14, ⟨15, List.map eTimpl_Accept r3.1.Accepts⟩), (15, ⟨1, List.map eI r3.1.Leaked⟩), (16, ⟨1, List.map eI r19.2.1⟩), (17, ⟨1, List.map eI r19.2.2.1⟩), (18, ⟨2, List.map eTimpl_Pair r19.2.2.2.1⟩), (19, ⟨2, List.map eTimpl_Pair r19.2.2.2.2.1⟩), (20, ⟨1, List.map eS r19.2.2.2.2.2.1⟩), (21, ⟨1, List.map eS r19.2.2.2.2.2.2.1⟩), (22, ⟨1, List.map eI r19.2.2.2.2.2.2.2.1⟩), (23, ⟨4, List.map eTimpl_Wait r19.2.2.2.2.2.2.2.2.1⟩), (24, ⟨8, List.map eTimpl_Cred r19.2.2.2.2.2.2.2.2.2.1⟩), (25, ⟨2, List.map eTimpl_Cache r19.2.2.2.2.2.2.2.2.2.2.1⟩), (26, ⟨11, List.map eTimpl_Event r19.2.2.2.2.2.2.2.2.2.2.2.1⟩), (27, ⟨15, List.map eTimpl_Accept r19.2.2.2.2.2.2.2.2.2.2.2.2.1⟩), (28, ⟨1, List.map eI r19.2.2.2.2.2.2.2.2.2.2.2.2.2⟩)] [(0, (bTlaws_Config g0 g1 g2 g3 a0)), (1, [Cell.own 3, Cell.own 4, Cell.own 5, Cell.own 6, cI r3.1.Config.Skew, cI r3.1.Now, cI r3.1.Fresh, Cell.own 7, Cell.own 8, Cell.own 9, Cell.own 10, Cell.own 11, Cell.own 12, Cell.own 13, Cell.own 14, Cell.own 15]), (2, [Cell.own 16, Cell.own 17, Cell.own 18, Cell.own 19, cI r5.1.Config.Skew, cI r5.1.Now, cI r5.1.Fresh, Cell.own 20, Cell.own 21, Cell.own 22, Cell.own 23, Cell.own 24, Cell.own 25, Cell.own 26, Cell.own 27, Cell.own 28])] 29) (Le.mk [(0, 0), (1, 1), (2, 2), (3, 3), (4, 4), (5, 5), (6, 6), (7, 7), (8, 8), (9, 9), (10, 10), (11, 11), (12, 12), (13, 13), (14, 14), (15, 15), (16, 16), (17, 17), (18, 18), (19, 19), (20, 20), (21, 21), (22, 22), (23, 23), (24, 24), (25, 25), (26, 26), (27, 27), (28, 28)] hm rfl (Sa4 (Sa1 trivial)) (Ra8 (Ra8 (Ra8 (Ra2 trivial)))) (Ba2 (Ba1 trivial))) (L.nil ?_)
        refine WpC.seq (WpC.regionL ?_)
        refine L.assign hF rfl rfl rfl ?_
        refine L.le (τ := mkSt [(1, one (Cell.ptr 0 0)), (4, one (Cell.ptr 1 0)), (5, one (cL r3.2)), (7, one (Cell.ptr 2 0)), (10, one (cI r19.1)), (11, one (cI (1 : Int)))] [(3, ⟨1, List.map eI r3.1.Config.UserRealm⟩), (4, ⟨1, List.map eI r3.1.Config.ServiceRealm⟩), (5, ⟨2, List.map eTimpl_Pair r3.1.Config.Links⟩), (6, ⟨2, List.map eTimpl_Pair r3.1.Config.Proxy⟩), (7, ⟨1, List.map eS r3.1.Net⟩), (8, ⟨1, List.map eS r3.1.Known.Terms⟩), (9, ⟨1, List.map eI r3.1.Known.Keys⟩), (10, ⟨4, List.map eTimpl_Wait r3.1.Waits⟩), (11, ⟨8, List.map eTimpl_Cred r3.1.Creds⟩), (12, ⟨2, List.map eTimpl_Cache r3.1.Caches⟩), (13, ⟨11, List.map eTimpl_Event r3.1.Log⟩), (14, ⟨15, List.map eTimpl_Accept r3.1.Accepts⟩), (15, ⟨1, List.map eI r3.1.Leaked⟩), (16, ⟨1, List.map eI r19.2.1⟩), (17, ⟨1, List.map eI r19.2.2.1⟩), (18, ⟨2, List.map eTimpl_Pair r19.2.2.2.1⟩), (19, ⟨2, List.map eTimpl_Pair r19.2.2.2.2.1⟩), (20, ⟨1, List.map eS r19.2.2.2.2.2.1⟩), (21, ⟨1, List.map eS r19.2.2.2.2.2.2.1⟩), (22, ⟨1, List.map eI r19.2.2.2.2.2.2.2.1⟩), (23, ⟨4, List.map eTimpl_Wait r19.2.2.2.2.2.2.2.2.1⟩), (24, ⟨8, List.map eTimpl_Cred r19.2.2.2.2.2.2.2.2.2.1⟩), (25, ⟨2, List.map eTimpl_Cache r19.2.2.2.2.2.2.2.2.2.2.1⟩), (26, ⟨11, List.map eTimpl_Event r19.2.2.2.2.2.2.2.2.2.2.2.1⟩), (27, ⟨15, List.map eTimpl_Accept r19.2.2.2.2.2.2.2.2.2.2.2.2.1⟩), (28, ⟨1, List.map eI r19.2.2.2.2.2.2.2.2.2.2.2.2.2⟩)] [(0, (bTlaws_Config g0 g1 g2 g3 a0)), (1, [Cell.own 3, Cell.own 4, Cell.own 5, Cell.own 6, cI r3.1.Config.Skew, cI r3.1.Now, cI r3.1.Fresh, Cell.own 7, Cell.own 8, Cell.own 9, Cell.own 10, Cell.own 11, Cell.own 12, Cell.own 13, Cell.own 14, Cell.own 15]), (2, [Cell.own 16, Cell.own 17, Cell.own 18, Cell.own 19, cI r5.1.Config.Skew, cI r5.1.Now, cI r5.1.Fresh, Cell.own 20, Cell.own 21, Cell.own 22, Cell.own 23, Cell.own 24, Cell.own 25, Cell.own 26, Cell.own 27, Cell.own 28])] 29) (Le.mk [(0, 0), (1, 1), (2, 2), (3, 3), (4, 4), (5, 5), (6, 6), (7, 7), (8, 8), (9, 9), (10, 10), (11, 11), (12, 12), (13, 13), (14, 14), (15, 15), (16, 16), (17, 17), (18, 18), (19, 19), (20, 20), (21, 21), (22, 22), (23, 23), (24, 24), (25, 25), (26, 26), (27, 27), (28, 28)] hm rfl (Sa4 (Sa2 trivial)) (Ra8 (Ra8 (Ra8 (Ra2 trivial)))) (Ba2 (Ba1 trivial))) (L.nil ?_)
        refine WpC.seq (WpC.regionL ?_)
        refine L.loadPtr shape72 hF rfl rfl rfl rfl rfl rfl ?_
        refine L.move hF rfl rfl rfl ?_
        obtain ⟨r20, hr20, H⟩ := bindS H
        refine L.call [false, false] [16, 17, 18, 19, 20, 21, 22, 23, 24, 25, 26, 27, 28] [] 29 hF rfl rfl rfl ent50 rfl rfl rfl rfl rfl (Flaws_heldWorld_gives k false false false false false false false false false false false false false (⟨(⟨r19.2.1, r19.2.2.1, r19.2.2.2.1, r19.2.2.2.2.1, r5.1.Config.Skew⟩ : Timpl_Config), r5.1.Now, r5.1.Fresh, r19.2.2.2.2.2.1, (⟨r19.2.2.2.2.2.2.1, r19.2.2.2.2.2.2.2.1⟩ : Timpl_Known), r19.2.2.2.2.2.2.2.2.1, r19.2.2.2.2.2.2.2.2.2.1, r19.2.2.2.2.2.2.2.2.2.2.1, r19.2.2.2.2.2.2.2.2.2.2.2.1, r19.2.2.2.2.2.2.2.2.2.2.2.2.1, r19.2.2.2.2.2.2.2.2.2.2.2.2.2⟩ : Timpl_World) (1 : Int) r20 hr20) rfl ?_
        refine L.assign hF rfl rfl rfl ?_
        refine L.le (τ := mkSt [(1, one (Cell.ptr 0 0)), (4, one (Cell.ptr 1 0)), (5, one (cL r3.2)), (7, one (Cell.ptr 2 0)), (10, one (cI r19.1)), (11, one (cI r20))] [(3, ⟨1, List.map eI r3.1.Config.UserRealm⟩), (4, ⟨1, List.map eI r3.1.Config.ServiceRealm⟩), (5, ⟨2, List.map eTimpl_Pair r3.1.Config.Links⟩), (6, ⟨2, List.map eTimpl_Pair r3.1.Config.Proxy⟩), (7, ⟨1, List.map eS r3.1.Net⟩), (8, ⟨1, List.map eS r3.1.Known.Terms⟩), (9, ⟨1, List.map eI r3.1.Known.Keys⟩), (10, ⟨4, List.map eTimpl_Wait r3.1.Waits⟩), (11, ⟨8, List.map eTimpl_Cred r3.1.Creds⟩), (12, ⟨2, List.map eTimpl_Cache r3.1.Caches⟩), (13, ⟨11, List.map eTimpl_Event r3.1.Log⟩), (14, ⟨15, List.map eTimpl_Accept r3.1.Accepts⟩), (15, ⟨1, List.map eI r3.1.Leaked⟩), (16, ⟨1, List.map eI r19.2.1⟩), (17, ⟨1, List.map eI r19.2.2.1⟩), (18, ⟨2, List.map eTimpl_Pair r19.2.2.2.1⟩), (19, ⟨2, List.map eTimpl_Pair r19.2.2.2.2.1⟩), (20, ⟨1, List.map eS r19.2.2.2.2.2.1⟩), (21, ⟨1, List.map eS r19.2.2.2.2.2.2.1⟩), (22, ⟨1, List.map eI r19.2.2.2.2.2.2.2.1⟩), (23, ⟨4, List.map eTimpl_Wait r19.2.2.2.2.2.2.2.2.1⟩), (24, ⟨8, List.map eTimpl_Cred r19.2.2.2.2.2.2.2.2.2.1⟩), (25, ⟨2, List.map eTimpl_Cache r19.2.2.2.2.2.2.2.2.2.2.1⟩), (26, ⟨11, List.map eTimpl_Event r19.2.2.2.2.2.2.2.2.2.2.2.1⟩), (27, ⟨15, List.map eTimpl_Accept r19.2.2.2.2.2.2.2.2.2.2.2.2.1⟩), (28, ⟨1, List.map eI r19.2.2.2.2.2.2.2.2.2.2.2.2.2⟩)] [(0, (bTlaws_Config g0 g1 g2 g3 a0)), (1, [Cell.own 3, Cell.own 4, Cell.own 5, Cell.own 6, cI r3.1.Config.Skew, cI r3.1.Now, cI r3.1.Fresh, Cell.own 7, Cell.own 8, Cell.own 9, Cell.own 10, Cell.own 11, Cell.own 12, Cell.own 13, Cell.own 14, Cell.own 15]), (2, [Cell.own 16, Cell.own 17, Cell.own 18, Cell.own 19, cI r5.1.Config.Skew, cI r5.1.Now, cI r5.1.Fresh, Cell.own 20, Cell.own 21, Cell.own 22, Cell.own 23, Cell.own 24, Cell.own 25, Cell.own 26, Cell.own 27, Cell.own 28])] 29) (Le.mk [(0, 0), (1, 1), (2, 2), (3, 3), (4, 4), (5, 5), (6, 6), (7, 7), (8, 8), (9, 9), (10, 10), (11, 11), (12, 12), (13, 13), (14, 14), (15, 15), (16, 16), (17, 17), (18, 18), (19, 19), (20, 20), (21, 21), (22, 22), (23, 23), (24, 24), (25, 25), (26, 26), (27, 27), (28, 28)] hm rfl (Sa4 (Sa2 trivial)) (Ra8 (Ra8 (Ra8 (Ra2 trivial)))) (Ba2 (Ba1 trivial))) (L.nil ?_)
        refine WpC.seq (WpC.seq (WpC.regionL ?_))
        refine L.move hF rfl rfl rfl ?_
        refine L.bin hF rfl rfl rfl rfl rfl rfl ?_
        refine L.le (τ := mkSt [(1, one (Cell.ptr 0 0)), (4, one (Cell.ptr 1 0)), (5, one (cL r3.2)), (7, one (Cell.ptr 2 0)), (10, one (cI r19.1)), (11, one (cI r20)), (69, one (cL (decide (r20 < (0 : Int)))))] [(3, ⟨1, List.map eI r3.1.Config.UserRealm⟩), (4, ⟨1, List.map eI r3.1.Config.ServiceRealm⟩), (5, ⟨2, List.map eTimpl_Pair r3.1.Config.Links⟩), (6, ⟨2, List.map eTimpl_Pair r3.1.Config.Proxy⟩), (7, ⟨1, List.map eS r3.1.Net⟩), (8, ⟨1, List.map eS r3.1.Known.Terms⟩), (9, ⟨1, List.map eI r3.1.Known.Keys⟩), (10, ⟨4, List.map eTimpl_Wait r3.1.Waits⟩), (11, ⟨8, List.map eTimpl_Cred r3.1.Creds⟩), (12, ⟨2, List.map eTimpl_Cache r3.1.Caches⟩), (13, ⟨11, List.map eTimpl_Event r3.1.Log⟩), (14, ⟨15, List.map eTimpl_Accept r3.1.Accepts⟩), (15, ⟨1, List.map eI r3.1.Leaked⟩), (16, ⟨1, List.map eI r19.2.1⟩), (17, ⟨1, List.map eI r19.2.2.1⟩), (18, ⟨2, List.map eTimpl_Pair r19.2.2.2.1⟩), (19, ⟨2, List.map eTimpl_Pair r19.2.2.2.2.1⟩), (20, ⟨1, List.map eS r19.2.2.2.2.2.1⟩), (21, ⟨1, List.map eS r19.2.2.2.2.2.2.1⟩), (22, ⟨1, List.map eI r19.2.2.2.2.2.2.2.1⟩), (23, ⟨4, List.map eTimpl_Wait r19.2.2.2.2.2.2.2.2.1⟩), (24, ⟨8, List.map eTimpl_Cred r19.2.2.2.2.2.2.2.2.2.1⟩), (25, ⟨2, List.map eTimpl_Cache r19.2.2.2.2.2.2.2.2.2.2.1⟩), (26, ⟨11, List.map eTimpl_Event r19.2.2.2.2.2.2.2.2.2.2.2.1⟩), (27, ⟨15, List.map eTimpl_Accept r19.2.2.2.2.2.2.2.2.2.2.2.2.1⟩), (28, ⟨1, List.map eI r19.2.2.2.2.2.2.2.2.2.2.2.2.2⟩)] [(0, (bTlaws_Config g0 g1 g2 g3 a0)), (1, [Cell.own 3, Cell.own 4, Cell.own 5, Cell.own 6, cI r3.1.Config.Skew, cI r3.1.Now, cI r3.1.Fresh, Cell.own 7, Cell.own 8, Cell.own 9, Cell.own 10, Cell.own 11, Cell.own 12, Cell.own 13, Cell.own 14, Cell.own 15]), (2, [Cell.own 16, Cell.own 17, Cell.own 18, Cell.own 19, cI r5.1.Config.Skew, cI r5.1.Now, cI r5.1.Fresh, Cell.own 20, Cell.own 21, Cell.own 22, Cell.own 23, Cell.own 24, Cell.own 25, Cell.own 26, Cell.own 27, Cell.own 28])] 29) (Le.mk [(0, 0), (1, 1), (2, 2), (3, 3), (4, 4), (5, 5), (6, 6), (7, 7), (8, 8), (9, 9), (10, 10), (11, 11), (12, 12), (13, 13), (14, 14), (15, 15), (16, 16), (17, 17), (18, 18), (19, 19), (20, 20), (21, 21), (22, 22), (23, 23), (24, 24), (25, 25), (26, 26), (27, 27), (28, 28)] hm rfl (Sa4 (Sa2 (Sa1 trivial))) (Ra8 (Ra8 (Ra8 (Ra2 trivial)))) (Ba2 (Ba1 trivial))) (L.nil ?_)
        refine WpC.cond rfl (fun hc => ?_) (fun hc => ?_)
        ·replace H := condT hc H
         refine WpC.seq (WpC.regionL ?_)
         refine L.assign hF rfl rfl rfl ?_
         refine L.le (τ := mkSt [(2, one (cL false))] [] [] 0) (Le.mk [] hm rfl (Sa1 trivial) trivial trivial) (L.nil ?_)
         refine WpC.ret ?_
         cases H
         exact Leaves.ret rfl rfl rfl ⟨rfl, rfl⟩
        ·replace H := condF hc H
         refine WpC.skip (WpC.seq (WpC.seq (WpC.regionL ?_)))
         refine L.move hF rfl rfl rfl ?_
         refine L.move hF rfl rfl rfl ?_
         refine L.bin hF rfl rfl rfl rfl rfl rfl ?_
         refine L.le (τ := mkSt [(1, one (Cell.ptr 0 0)), (4, one (Cell.ptr 1 0)), (5, one (cL r3.2)), (7, one (Cell.ptr 2 0)), (10, one (cI r19.1)), (72, one (cL (r20 != r19.1)))] [(3, ⟨1, List.map eI r3.1.Config.UserRealm⟩), (4, ⟨1, List.map eI r3.1.Config.ServiceRealm⟩), (5, ⟨2, List.map eTimpl_Pair r3.1.Config.Links⟩), (6, ⟨2, List.map eTimpl_Pair r3.1.Config.Proxy⟩), (7, ⟨1, List.map eS r3.1.Net⟩), (8, ⟨1, List.map eS r3.1.Known.Terms⟩), (9, ⟨1, List.map eI r3.1.Known.Keys⟩), (10, ⟨4, List.map eTimpl_Wait r3.1.Waits⟩), (11, ⟨8, List.map eTimpl_Cred r3.1.Creds⟩), (12, ⟨2, List.map eTimpl_Cache r3.1.Caches⟩), (13, ⟨11, List.map eTimpl_Event r3.1.Log⟩), (14, ⟨15, List.map eTimpl_Accept r3.1.Accepts⟩), (15, ⟨1, List.map eI r3.1.Leaked⟩), (16, ⟨1, List.map eI r19.2.1⟩), (17, ⟨1, List.map eI r19.2.2.1⟩), (18, ⟨2, List.map eTimpl_Pair r19.2.2.2.1⟩), (19, ⟨2, List.map eTimpl_Pair r19.2.2.2.2.1⟩), (20, ⟨1, List.map eS r19.2.2.2.2.2.1⟩), (21, ⟨1, List.map eS r19.2.2.2.2.2.2.1⟩), (22, ⟨1, List.map eI r19.2.2.2.2.2.2.2.1⟩), (23, ⟨4, List.map eTimpl_Wait r19.2.2.2.2.2.2.2.2.1⟩), (24, ⟨8, List.map eTimpl_Cred r19.2.2.2.2.2.2.2.2.2.1⟩), (25, ⟨2, List.map eTimpl_Cache r19.2.2.2.2.2.2.2.2.2.2.1⟩), (26, ⟨11, List.map eTimpl_Event r19.2.2.2.2.2.2.2.2.2.2.2.1⟩), (27, ⟨15, List.map eTimpl_Accept r19.2.2.2.2.2.2.2.2.2.2.2.2.1⟩), (28, ⟨1, List.map eI r19.2.2.2.2.2.2.2.2.2.2.2.2.2⟩)] [(0, (bTlaws_Config g0 g1 g2 g3 a0)), (1, [Cell.own 3, Cell.own 4, Cell.own 5, Cell.own 6, cI r3.1.Config.Skew, cI r3.1.Now, cI r3.1.Fresh, Cell.own 7, Cell.own 8, Cell.own 9, Cell.own 10, Cell.own 11, Cell.own 12, Cell.own 13, Cell.own 14, Cell.own 15]), (2, [Cell.own 16, Cell.own 17, Cell.own 18, Cell.own 19, cI r5.1.Config.Skew, cI r5.1.Now, cI r5.1.Fresh, Cell.own 20, Cell.own 21, Cell.own 22, Cell.own 23, Cell.own 24, Cell.own 25, Cell.own 26, Cell.own 27, Cell.own 28])] 29) (Le.mk [(0, 0), (1, 1), (2, 2), (3, 3), (4, 4), (5, 5), (6, 6), (7, 7), (8, 8), (9, 9), (10, 10), (11, 11), (12, 12), (13, 13), (14, 14), (15, 15), (16, 16), (17, 17), (18, 18), (19, 19), (20, 20), (21, 21), (22, 22), (23, 23), (24, 24), (25, 25), (26, 26), (27, 27), (28, 28)] hm rfl (Sa4 (Sa2 trivial)) (Ra8 (Ra8 (Ra8 (Ra2 trivial)))) (Ba2 (Ba1 trivial))) (L.nil ?_)
         refine WpC.cond rfl (fun hc => ?_) (fun hc => ?_)
         ·replace H := condT hc H
          refine WpC.seq (WpC.regionL ?_)
          refine L.assign hF rfl rfl rfl ?_
          refine L.le (τ := mkSt [(2, one (cL false))] [] [] 0) (Le.mk [] hm rfl (Sa1 trivial) trivial trivial) (L.nil ?_)
          refine WpC.ret ?_
          cases H
          exact Leaves.ret rfl rfl rfl ⟨rfl, rfl⟩
         ·replace H := condF hc H
          refine WpC.skip (WpC.seq (WpC.regionL ?_))
          refine L.loadPtr shape58 hF rfl rfl rfl rfl rfl rfl ?_
          obtain ⟨r21, hr21, H⟩ := bindS H
          refine L.call [false] [] [] 29 hF rfl rfl rfl ent44 rfl rfl rfl rfl rfl (Flaws_toConfig_gives k g0 g1 g2 g3 a0 r21 hr21) rfl ?_
          obtain ⟨r22, hr22, H⟩ := bindS H
          refine L.call [false] [29, 30, 31, 32] [] 34 hF rfl rfl rfl ent45 rfl rfl rfl rfl rfl (Fimpl_NewWorld_gives k false false false false r21 r22 hr22) rfl ?_
          refine L.move hF rfl rfl rfl ?_
          refine L.extract hF rfl rfl rfl rfl ?_
          refine L.extract hF rfl rfl rfl rfl ?_
          refine L.alloc 51 info72 rfl hF rfl rfl rfl rfl ?_
          refine L.storePtr shape72 hF rfl rfl rfl rfl rfl rfl rfl ?_
          refine L.assign hF rfl rfl rfl ?_
          refine L.le (τ := mkSt [(4, one (Cell.ptr 0 0)), (5, one (cL r3.2)), (7, one (Cell.ptr 1 0)), (10, one (cI r19.1)), (12, one (Cell.ptr 2 0)), (13, one (cL r22.2))] [(3, ⟨1, List.map eI r3.1.Config.UserRealm⟩), (4, ⟨1, List.map eI r3.1.Config.ServiceRealm⟩), (5, ⟨2, List.map eTimpl_Pair r3.1.Config.Links⟩), (6, ⟨2, List.map eTimpl_Pair r3.1.Config.Proxy⟩), (7, ⟨1, List.map eS r3.1.Net⟩), (8, ⟨1, List.map eS r3.1.Known.Terms⟩), (9, ⟨1, List.map eI r3.1.Known.Keys⟩), (10, ⟨4, List.map eTimpl_Wait r3.1.Waits⟩), (11, ⟨8, List.map eTimpl_Cred r3.1.Creds⟩), (12, ⟨2, List.map eTimpl_Cache r3.1.Caches⟩), (13, ⟨11, List.map eTimpl_Event r3.1.Log⟩), (14, ⟨15, List.map eTimpl_Accept r3.1.Accepts⟩), (15, ⟨1, List.map eI r3.1.Leaked⟩), (16, ⟨1, List.map eI r19.2.1⟩), (17, ⟨1, List.map eI r19.2.2.1⟩), (18, ⟨2, List.map eTimpl_Pair r19.2.2.2.1⟩), (19, ⟨2, List.map eTimpl_Pair r19.2.2.2.2.1⟩), (20, ⟨1, List.map eS r19.2.2.2.2.2.1⟩), (21, ⟨1, List.map eS r19.2.2.2.2.2.2.1⟩), (22, ⟨1, List.map eI r19.2.2.2.2.2.2.2.1⟩), (23, ⟨4, List.map eTimpl_Wait r19.2.2.2.2.2.2.2.2.1⟩), (24, ⟨8, List.map eTimpl_Cred r19.2.2.2.2.2.2.2.2.2.1⟩), (25, ⟨2, List.map eTimpl_Cache r19.2.2.2.2.2.2.2.2.2.2.1⟩), (26, ⟨11, List.map eTimpl_Event r19.2.2.2.2.2.2.2.2.2.2.2.1⟩), (27, ⟨15, List.map eTimpl_Accept r19.2.2.2.2.2.2.2.2.2.2.2.2.1⟩), (28, ⟨1, List.map eI r19.2.2.2.2.2.2.2.2.2.2.2.2.2⟩), (29, ⟨1, List.map eI r22.1.Config.UserRealm⟩), (30, ⟨1, List.map eI r22.1.Config.ServiceRealm⟩), (31, ⟨2, List.map eTimpl_Pair r22.1.Config.Links⟩), (32, ⟨2, List.map eTimpl_Pair r22.1.Config.Proxy⟩), (33, ⟨1, List.map eS r22.1.Net⟩), (34, ⟨1, List.map eS r22.1.Known.Terms⟩), (35, ⟨1, List.map eI r22.1.Known.Keys⟩), (36, ⟨4, List.map eTimpl_Wait r22.1.Waits⟩), (37, ⟨8, List.map eTimpl_Cred r22.1.Creds⟩), (38, ⟨2, List.map eTimpl_Cache r22.1.Caches⟩), (39, ⟨11, List.map eTimpl_Event r22.1.Log⟩), (40, ⟨15, List.map eTimpl_Accept r22.1.Accepts⟩), (41, ⟨1, List.map eI r22.1.Leaked⟩)] [(0, [Cell.own 3, Cell.own 4, Cell.own 5, Cell.own 6, cI r3.1.Config.Skew, cI r3.1.Now, cI r3.1.Fresh, Cell.own 7, Cell.own 8, Cell.own 9, Cell.own 10, Cell.own 11, Cell.own 12, Cell.own 13, Cell.own 14, Cell.own 15]), (1, [Cell.own 16, Cell.own 17, Cell.own 18, Cell.own 19, cI r5.1.Config.Skew, cI r5.1.Now, cI r5.1.Fresh, Cell.own 20, Cell.own 21, Cell.own 22, Cell.own 23, Cell.own 24, Cell.own 25, Cell.own 26, Cell.own 27, Cell.own 28]), (2, [Cell.own 29, Cell.own 30, Cell.own 31, Cell.own 32, cI r22.1.Config.Skew, cI r22.1.Now, cI r22.1.Fresh, Cell.own 33, Cell.own 34, Cell.own 35, Cell.own 36, Cell.own 37, Cell.own 38, Cell.own 39, Cell.own 40, Cell.own 41])] 42) (Le.mk [(0, 1), (1, 2), (2, 51), (3, 3), (4, 4), (5, 5), (6, 6), (7, 7), (8, 8), (9, 9), (10, 10), (11, 11), (12, 12), (13, 13), (14, 14), (15, 15), (16, 16), (17, 17), (18, 18), (19, 19), (20, 20), (21, 21), (22, 22), (23, 23), (24, 24), (25, 25), (26, 26), (27, 27), (28, 28), (29, 34), (30, 35), (31, 36), (32, 37), (33, 41), (34, 42), (35, 43), (36, 44), (37, 45), (38, 46), (39, 47), (40, 48), (41, 49)] hm rfl (Sa4 (Sa2 trivial)) (Ra8 (Ra8 (Ra8 (Ra8 (Ra4 (Ra2 (Ra1 trivial))))))) (Ba2 (Ba1 trivial))) (L.nil ?_)
          refine WpC.seq (WpC.seq (WpC.regionL ?_))
          refine L.loadPtr shape72 hF rfl rfl rfl rfl rfl rfl ?_
          refine L.loadPtr shape72 hF rfl rfl rfl rfl rfl rfl ?_
          obtain ⟨r26, hr26, H⟩ := bindS H
          refine L.call [false, false] [29, 30, 31, 32, 33, 34, 35, 36, 37, 38, 39, 40, 41, 3, 4, 5, 6, 7, 8, 9, 10, 11, 12, 13, 14, 15] [] 42 hF rfl rfl rfl ent46 rfl rfl rfl rfl rfl (Flaws_eqWorld_gives k false false false false false false false false false false false false false false false false false false false false false false false false false false r22.1 r3.1 r26 hr26) rfl ?_
          refine L.not hF rfl rfl rfl ?_
          refine L.move hF rfl rfl rfl ?_
          refine L.split (fun hc => ?_) (fun hc => ?_)
          ·replace H := condT hc H
           refine L.off hF rfl rfl ?_
           refine L.off hF rfl rfl ?_
           refine L.off hF rfl rfl ?_
           refine L.pick hF rfl rfl rfl rfl ?_
           refine L.le (τ := mkSt [(7, one (Cell.ptr 0 0)), (10, one (cI r19.1)), (87, one (cL true))] [(1, ⟨1, List.map eI r19.2.1⟩), (2, ⟨1, List.map eI r19.2.2.1⟩), (3, ⟨2, List.map eTimpl_Pair r19.2.2.2.1⟩), (4, ⟨2, List.map eTimpl_Pair r19.2.2.2.2.1⟩), (5, ⟨1, List.map eS r19.2.2.2.2.2.1⟩), (6, ⟨1, List.map eS r19.2.2.2.2.2.2.1⟩), (7, ⟨1, List.map eI r19.2.2.2.2.2.2.2.1⟩), (8, ⟨4, List.map eTimpl_Wait r19.2.2.2.2.2.2.2.2.1⟩), (9, ⟨8, List.map eTimpl_Cred r19.2.2.2.2.2.2.2.2.2.1⟩), (10, ⟨2, List.map eTimpl_Cache r19.2.2.2.2.2.2.2.2.2.2.1⟩), (11, ⟨11, List.map eTimpl_Event r19.2.2.2.2.2.2.2.2.2.2.2.1⟩), (12, ⟨15, List.map eTimpl_Accept r19.2.2.2.2.2.2.2.2.2.2.2.2.1⟩), (13, ⟨1, List.map eI r19.2.2.2.2.2.2.2.2.2.2.2.2.2⟩)] [(0, [Cell.own 1, Cell.own 2, Cell.own 3, Cell.own 4, cI r5.1.Config.Skew, cI r5.1.Now, cI r5.1.Fresh, Cell.own 5, Cell.own 6, Cell.own 7, Cell.own 8, Cell.own 9, Cell.own 10, Cell.own 11, Cell.own 12, Cell.own 13])] 14) (Le.mk [(0, 1), (1, 16), (2, 17), (3, 18), (4, 19), (5, 20), (6, 21), (7, 22), (8, 23), (9, 24), (10, 25), (11, 26), (12, 27), (13, 28)] hm rfl (Sa2 (Sa1 trivial)) (Ra8 (Ra4 (Ra1 trivial))) (Ba1 trivial)) (L.nil ?_)
           refine WpC.cond rfl (fun _ => ?_) (fun hc => by cases hc)
           refine WpC.seq (WpC.regionL ?_)
           refine L.assign hF rfl rfl rfl ?_
           refine L.le (τ := mkSt [(2, one (cL false))] [] [] 0) (Le.mk [] hm rfl (Sa1 trivial) trivial trivial) (L.nil ?_)
           refine WpC.ret ?_
           cases H
           exact Leaves.ret rfl rfl rfl ⟨rfl, rfl⟩
          ·replace H := condF hc H
           refine L.move hF rfl rfl rfl ?_
           refine L.move hF rfl rfl rfl ?_
           refine L.neL Try.underlying4 hF rfl rfl rfl rfl ?_
           refine L.pick hF rfl rfl rfl rfl ?_
           refine L.le (τ := mkSt [(7, one (Cell.ptr 0 0)), (10, one (cI r19.1)), (87, one (cL (r22.2 != r3.2)))] [(1, ⟨1, List.map eI r19.2.1⟩), (2, ⟨1, List.map eI r19.2.2.1⟩), (3, ⟨2, List.map eTimpl_Pair r19.2.2.2.1⟩), (4, ⟨2, List.map eTimpl_Pair r19.2.2.2.2.1⟩), (5, ⟨1, List.map eS r19.2.2.2.2.2.1⟩), (6, ⟨1, List.map eS r19.2.2.2.2.2.2.1⟩), (7, ⟨1, List.map eI r19.2.2.2.2.2.2.2.1⟩), (8, ⟨4, List.map eTimpl_Wait r19.2.2.2.2.2.2.2.2.1⟩), (9, ⟨8, List.map eTimpl_Cred r19.2.2.2.2.2.2.2.2.2.1⟩), (10, ⟨2, List.map eTimpl_Cache r19.2.2.2.2.2.2.2.2.2.2.1⟩), (11, ⟨11, List.map eTimpl_Event r19.2.2.2.2.2.2.2.2.2.2.2.1⟩), (12, ⟨15, List.map eTimpl_Accept r19.2.2.2.2.2.2.2.2.2.2.2.2.1⟩), (13, ⟨1, List.map eI r19.2.2.2.2.2.2.2.2.2.2.2.2.2⟩)] [(0, [Cell.own 1, Cell.own 2, Cell.own 3, Cell.own 4, cI r5.1.Config.Skew, cI r5.1.Now, cI r5.1.Fresh, Cell.own 5, Cell.own 6, Cell.own 7, Cell.own 8, Cell.own 9, Cell.own 10, Cell.own 11, Cell.own 12, Cell.own 13])] 14) (Le.mk [(0, 1), (1, 16), (2, 17), (3, 18), (4, 19), (5, 20), (6, 21), (7, 22), (8, 23), (9, 24), (10, 25), (11, 26), (12, 27), (13, 28)] hm rfl (Sa2 (Sa1 trivial)) (Ra8 (Ra4 (Ra1 trivial))) (Ba1 trivial)) (L.nil ?_)
           refine WpC.cond rfl (fun hc => ?_) (fun hc => ?_)
           ·replace H := condT hc H
            refine WpC.seq (WpC.regionL ?_)
            refine L.assign hF rfl rfl rfl ?_
            refine L.le (τ := mkSt [(2, one (cL false))] [] [] 0) (Le.mk [] hm rfl (Sa1 trivial) trivial trivial) (L.nil ?_)
            refine WpC.ret ?_
            cases H
            exact Leaves.ret rfl rfl rfl ⟨rfl, rfl⟩
           ·replace H := condF hc H
            refine WpC.skip (WpC.seq (WpC.regionL ?_))
            refine L.assign hF rfl rfl rfl ?_
            refine L.le (τ := mkSt [(7, one (Cell.ptr 0 0)), (10, one (cI r19.1)), (11, one (cI (1 : Int)))] [(1, ⟨1, List.map eI r19.2.1⟩), (2, ⟨1, List.map eI r19.2.2.1⟩), (3, ⟨2, List.map eTimpl_Pair r19.2.2.2.1⟩), (4, ⟨2, List.map eTimpl_Pair r19.2.2.2.2.1⟩), (5, ⟨1, List.map eS r19.2.2.2.2.2.1⟩), (6, ⟨1, List.map eS r19.2.2.2.2.2.2.1⟩), (7, ⟨1, List.map eI r19.2.2.2.2.2.2.2.1⟩), (8, ⟨4, List.map eTimpl_Wait r19.2.2.2.2.2.2.2.2.1⟩), (9, ⟨8, List.map eTimpl_Cred r19.2.2.2.2.2.2.2.2.2.1⟩), (10, ⟨2, List.map eTimpl_Cache r19.2.2.2.2.2.2.2.2.2.2.1⟩), (11, ⟨11, List.map eTimpl_Event r19.2.2.2.2.2.2.2.2.2.2.2.1⟩), (12, ⟨15, List.map eTimpl_Accept r19.2.2.2.2.2.2.2.2.2.2.2.2.1⟩), (13, ⟨1, List.map eI r19.2.2.2.2.2.2.2.2.2.2.2.2.2⟩)] [(0, [Cell.own 1, Cell.own 2, Cell.own 3, Cell.own 4, cI r5.1.Config.Skew, cI r5.1.Now, cI r5.1.Fresh, Cell.own 5, Cell.own 6, Cell.own 7, Cell.own 8, Cell.own 9, Cell.own 10, Cell.own 11, Cell.own 12, Cell.own 13])] 14) (Le.mk [(0, 0), (1, 1), (2, 2), (3, 3), (4, 4), (5, 5), (6, 6), (7, 7), (8, 8), (9, 9), (10, 10), (11, 11), (12, 12), (13, 13)] hm rfl (Sa2 (Sa1 trivial)) (Ra8 (Ra4 (Ra1 trivial))) (Ba1 trivial)) (L.nil ?_)
            refine WpC.seq (WpC.regionL ?_)
            refine L.loadPtr shape72 hF rfl rfl rfl rfl rfl rfl ?_
            refine L.move hF rfl rfl rfl ?_
            obtain ⟨r27, hr27, H⟩ := bindS H
            refine L.call [false, false] [1, 2, 3, 4, 5, 6, 7, 8, 9, 10, 11, 12, 13] [] 14 hF rfl rfl rfl ent50 rfl rfl rfl rfl rfl (Flaws_heldWorld_gives k false false false false false false false false false false false false false (⟨(⟨r19.2.1, r19.2.2.1, r19.2.2.2.1, r19.2.2.2.2.1, r5.1.Config.Skew⟩ : Timpl_Config), r5.1.Now, r5.1.Fresh, r19.2.2.2.2.2.1, (⟨r19.2.2.2.2.2.2.1, r19.2.2.2.2.2.2.2.1⟩ : Timpl_Known), r19.2.2.2.2.2.2.2.2.1, r19.2.2.2.2.2.2.2.2.2.1, r19.2.2.2.2.2.2.2.2.2.2.1, r19.2.2.2.2.2.2.2.2.2.2.2.1, r19.2.2.2.2.2.2.2.2.2.2.2.2.1, r19.2.2.2.2.2.2.2.2.2.2.2.2.2⟩ : Timpl_World) (1 : Int) r27 hr27) rfl ?_
            refine L.assign hF rfl rfl rfl ?_
            refine L.le (τ := mkSt [(10, one (cI r19.1)), (11, one (cI r27))] [] [] 0) (Le.mk [] hm rfl (Sa2 trivial) trivial trivial) (L.nil ?_)
            refine WpC.seq (WpC.seq (WpC.regionL ?_))
            refine L.move hF rfl rfl rfl ?_
            refine L.bin hF rfl rfl rfl rfl rfl rfl ?_
            refine L.le (τ := mkSt [(10, one (cI r19.1)), (11, one (cI r27)), (92, one (cL (decide (r27 < (0 : Int)))))] [] [] 0) (Le.mk [] hm rfl (Sa2 (Sa1 trivial)) trivial trivial) (L.nil ?_)
            refine WpC.cond rfl (fun hc => ?_) (fun hc => ?_)
            ·replace H := condT hc H
             refine WpC.seq (WpC.regionL ?_)
             refine L.assign hF rfl rfl rfl ?_
             refine L.le (τ := mkSt [(2, one (cL false))] [] [] 0) (Le.mk [] hm rfl (Sa1 trivial) trivial trivial) (L.nil ?_)
             refine WpC.ret ?_
             cases H
             exact Leaves.ret rfl rfl rfl ⟨rfl, rfl⟩
            ·replace H := condF hc H
             refine WpC.skip (WpC.seq (WpC.seq (WpC.regionL ?_)))
             refine L.move hF rfl rfl rfl ?_
             refine L.move hF rfl rfl rfl ?_
             refine L.bin hF rfl rfl rfl rfl rfl rfl ?_
             refine L.le (τ := mkSt [(95, one (cL (r27 != r19.1)))] [] [] 0) (Le.mk [] hm rfl (Sa1 trivial) trivial trivial) (L.nil ?_)
             refine WpC.cond rfl (fun hc => ?_) (fun hc => ?_)
             ·replace H := condT hc H
              refine WpC.seq (WpC.regionL ?_)
              refine L.assign hF rfl rfl rfl ?_
              refine L.le (τ := mkSt [(2, one (cL false))] [] [] 0) (Le.mk [] hm rfl (Sa1 trivial) trivial trivial) (L.nil ?_)
              refine WpC.ret ?_
              cases H
              exact Leaves.ret rfl rfl rfl ⟨rfl, rfl⟩
             ·replace H := condF hc H
              refine WpC.skip (WpC.seq (WpC.regionL ?_))
              refine L.assign hF rfl rfl rfl ?_
              refine L.le (τ := mkSt [(2, one (cL true))] [] [] 0) (Le.mk [] hm rfl (Sa1 trivial) trivial trivial) (L.nil ?_)
              refine WpC.ret ?_
              cases H
              exact Leaves.ret rfl rfl rfl ⟨rfl, rfl⟩
theorem open39 : Go.MG.Opens Try.prog 39 (Go.MG.eR Go.MG.eI) (Go.MG.wfR Go.MG.wfI) := Go.MG.Opens.slice Try.underlying39 (Go.MG.Opens.int Try.underlying3) (fun _ => (by kernel_rfl : Try.prog.cellsOf 3 = 1).symm) (fun _ => rfl) (fun _ => rfl) (by kernel_rfl)
def wfTlaws_Pair (x : Tlaws_Pair) : Prop := Go.MG.wfI x.A ∧ Go.MG.wfI x.B
theorem open166 : Go.MG.Opens Try.prog 166 eTlaws_Pair wfTlaws_Pair := by
  intro H enc W fuel cs x h
  obtain ⟨n, hp⟩ := Go.MG.struct_parts Try.underlying166 (by kernel_rfl : Try.prog.cellsOf 166 = 2) (by kernel_rfl) h
  obtain ⟨c0, k0, y0, rfl, h0, hp⟩ := hp
  obtain ⟨c1, k1, y1, rfl, h1, hp⟩ := hp
  obtain rfl := hp
  obtain ⟨a0, r0, w0⟩ := (Go.MG.Opens.int Try.underlying3) _ _ _ _ _ _ h0
  obtain ⟨a1, r1, w1⟩ := (Go.MG.Opens.int Try.underlying3) _ _ _ _ _ _ h1
  exact ⟨⟨a0, a1⟩, (r0.append (r1.append (rfl : Go.MG.RCs _ [] []))), w0, w1⟩
theorem open56 : Go.MG.Opens Try.prog 56 (Go.MG.eR eTlaws_Pair) (Go.MG.wfR wfTlaws_Pair) := Go.MG.Opens.slice Try.underlying56 open166 (fun _ => (by kernel_rfl : Try.prog.cellsOf 166 = 2).symm) (fun _ => rfl) (fun _ => rfl) (by kernel_rfl)
def wfTlaws_Config (x : Tlaws_Config) : Prop := (Go.MG.wfR Go.MG.wfI) x.UserRealm ∧ (Go.MG.wfR Go.MG.wfI) x.ServiceRealm ∧ (Go.MG.wfR wfTlaws_Pair) x.Links ∧ (Go.MG.wfR wfTlaws_Pair) x.Proxy ∧ Go.MG.wfI x.Skew
theorem open58 : Go.MG.Opens Try.prog 58 eTlaws_Config wfTlaws_Config := by
  intro H enc W fuel cs x h
  obtain ⟨n, hp⟩ := Go.MG.struct_parts Try.underlying58 (by kernel_rfl : Try.prog.cellsOf 58 = 5) (by kernel_rfl) h
  obtain ⟨c0, k0, y0, rfl, h0, hp⟩ := hp
  obtain ⟨c1, k1, y1, rfl, h1, hp⟩ := hp
  obtain ⟨c2, k2, y2, rfl, h2, hp⟩ := hp
  obtain ⟨c3, k3, y3, rfl, h3, hp⟩ := hp
  obtain ⟨c4, k4, y4, rfl, h4, hp⟩ := hp
  obtain rfl := hp
  obtain ⟨a0, r0, w0⟩ := open39 _ _ _ _ _ _ h0
  obtain ⟨a1, r1, w1⟩ := open39 _ _ _ _ _ _ h1
  obtain ⟨a2, r2, w2⟩ := open56 _ _ _ _ _ _ h2
  obtain ⟨a3, r3, w3⟩ := open56 _ _ _ _ _ _ h3
  obtain ⟨a4, r4, w4⟩ := (Go.MG.Opens.int Try.underlying3) _ _ _ _ _ _ h4
  exact ⟨⟨a0, a1, a2, a3, a4⟩, (r0.append (r1.append (r2.append (r3.append (r4.append (rfl : Go.MG.RCs _ [] [])))))), w0, w1, w2, w3, w4⟩
end Go.Proofs.Ytgjbgakcfcomdaa.M
