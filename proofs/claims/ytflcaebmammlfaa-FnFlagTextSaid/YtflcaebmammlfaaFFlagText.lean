import Derived.Test.YtflcaebmammlfaaMgZc
import Derived.Test.YtflcaebmammlfaaProg
namespace Go.Proofs.Ytflcaebmammlfaa.M
open Go Go.MG
set_option linter.unusedVariables false
set_option linter.unusedSimpArgs false
structure Tspec_l1Cur where
  b : List UInt8
  i : Int
  h : Int
def eTspec_l1Cur (x : Tspec_l1Cur) : List Cell := [Cell.sl true (List.map eB x.b), cI x.i, cI x.h]
theorem mixed : Try.prog.follows .mixedOrders = true := by kernel_rfl
theorem shape3 : MG.shape Try.prog 3 = some (false, 1) := by kernel_rfl
theorem shape5 : MG.shape Try.prog 5 = some (false, 1) := by kernel_rfl
theorem shape35 : MG.shape Try.prog 35 = some (false, 1) := by kernel_rfl
theorem info3 : Try.prog.info? 3 = some Try.t3 := by kernel_rfl
theorem info5 : Try.prog.info? 5 = some Try.t5 := by kernel_rfl
theorem info35 : Try.prog.info? 35 = some Try.t35 := by kernel_rfl
theorem info162 : Try.prog.info? 162 = some Try.t162 := by kernel_rfl
theorem built162 : builtA Try.prog 162 = fillA (fun x => ([(0, 1), (1, 1), (2, 1)] : List (Nat × Nat))[x]?) [Cell.nil, cI (0 : Int), cI (0 : Int)] := by kernel_rfl
/-! ### Flaws_big -/
def Flaws_big (k : Nat) (a0 : List UInt8) : Option Bool := some (decide ((a0.length : Int) > (1048576 : Int)))
theorem ent32 : Enters Try.prog 32 := ⟨Try.f32, Try.func32, rfl, by decide⟩
set_option maxHeartbeats 8000000 in
set_option maxRecDepth 100000 in
theorem Flaws_big_gives (k : Nat) (g0 : Bool) (a0 : List UInt8) (r : Bool) (H : Flaws_big k a0 = some r) : Gives Try.prog 32 [V.one (Cell.sl g0 (List.map eB a0))] [] [V.one (cL r)] [] := by
  refine Gives.intro Try.func32 rfl rfl rfl rfl ?_
  intro F hF hm
  unfold Flaws_big at H
  obtain ⟨K, hK⟩ : ∃ K, k ≤ K := ⟨k, Nat.le_refl k⟩
  refine WpC.seq ?_
  refine WpC.regionL ?_
  refine L.assign hF rfl rfl rfl ?_
  refine L.nil ?_
  refine WpC.seq ?_
  refine WpC.regionL ?_
  refine L.move hF rfl rfl rfl ?_
  refine L.lenR (xs := a0) (e := eB) Try.underlying35 hF rfl rfl rfl rfl ?_
  refine L.bin hF rfl rfl rfl rfl rfl rfl ?_
  refine L.assign hF rfl rfl rfl ?_
  refine L.nil ?_
  refine WpC.ret ?_
  cases H
  exact Leaves.ret rfl rfl rfl ⟨rfl, rfl⟩
/-! ### Flaws_at -/
def Flaws_at (k : Nat) (a0 : List UInt8) (a1 : Int) : Option Int := cond (decide (a1 < (a0.length : Int))) ((at? a0 a1).bind fun b2 => some (b2.toNat : Int)) (some (Int.tmod (IntKind.i64.wrap ((IntKind.i64.wrap (a1 * (37 : Int))) + (IntKind.i64.wrap ((a0.length : Int) * (11 : Int))))) (256 : Int)))
theorem ent38 : Enters Try.prog 38 := ⟨Try.f38, Try.func38, rfl, by decide⟩
set_option maxHeartbeats 8000000 in
set_option maxRecDepth 100000 in
theorem Flaws_at_gives (k : Nat) (g0 : Bool) (a0 : List UInt8) (a1 : Int) (r : Int) (H : Flaws_at k a0 a1 = some r) : Gives Try.prog 38 [V.one (Cell.sl g0 (List.map eB a0)), V.one (cI a1)] [] [V.one (cI r)] [] := by
  refine Gives.intro Try.func38 rfl rfl rfl rfl ?_
  intro F hF hm
  unfold Flaws_at at H
  obtain ⟨K, hK⟩ : ∃ K, k ≤ K := ⟨k, Nat.le_refl k⟩
  refine WpC.seq ?_
  refine WpC.regionL ?_
  refine L.assign hF rfl rfl rfl ?_
  refine L.nil ?_
  refine WpC.seq ?_
  refine WpC.seq ?_
  refine WpC.regionL ?_
  refine L.move hF rfl rfl rfl ?_
  refine L.move hF rfl rfl rfl ?_
  refine L.lenR (xs := a0) (e := eB) Try.underlying35 hF rfl rfl rfl rfl ?_
  refine L.bin hF rfl rfl rfl rfl rfl rfl ?_
  refine L.nil ?_
  refine WpC.cond rfl (fun hc => ?_) (fun hc => ?_)
  · replace H := condT hc H
    refine WpC.seq ?_
    refine WpC.regionL ?_
    refine L.move hF rfl rfl rfl ?_
    refine L.move hF rfl rfl rfl ?_
    obtain ⟨b2, hb2, H⟩ := bindS H
    refine L.idxR (xs := a0) (e := eB) Try.underlying35 info5 hF rfl rfl rfl rfl rfl hb2 rfl rfl ?_
    refine L.loadPe shape5 hF rfl rfl rfl rfl rfl ?_
    refine L.ofB Try.underlying5 Try.underlying3 hF rfl rfl rfl ?_
    refine L.assign hF rfl rfl rfl ?_
    refine L.nil ?_
    refine WpC.ret ?_
    cases H
    exact Leaves.ret rfl rfl rfl ⟨rfl, rfl⟩
  · replace H := condF hc H
    refine WpC.skip ?_
    refine WpC.seq ?_
    refine WpC.regionL ?_
    refine L.move hF rfl rfl rfl ?_
    refine L.bin hF rfl rfl rfl rfl rfl rfl ?_
    refine L.move hF rfl rfl rfl ?_
    refine L.lenR (xs := a0) (e := eB) Try.underlying35 hF rfl rfl rfl rfl ?_
    refine L.bin hF rfl rfl rfl rfl rfl rfl ?_
    refine L.bin hF rfl rfl rfl rfl rfl rfl ?_
    refine L.rem hF rfl rfl rfl rfl (by decide) ?_
    refine L.assign hF rfl rfl rfl ?_
    refine L.nil ?_
    refine WpC.ret ?_
    cases H
    exact Leaves.ret rfl rfl rfl ⟨rfl, rfl⟩
/-! ### Fimpl_within -/
def Fimpl_within (k : Nat) (a0 : Int) (a1 : Int) (a2 : Int) : Option Bool := cond (decide (a0 ≥ a1)) (some (decide (a0 ≤ a2))) (some false)
theorem ent93 : Enters Try.prog 93 := ⟨Try.f93, Try.func93, rfl, by decide⟩
set_option maxHeartbeats 8000000 in
set_option maxRecDepth 100000 in
theorem Fimpl_within_gives (k : Nat) (a0 : Int) (a1 : Int) (a2 : Int) (r : Bool) (H : Fimpl_within k a0 a1 a2 = some r) : Gives Try.prog 93 [V.one (cI a0), V.one (cI a1), V.one (cI a2)] [] [V.one (cL r)] [] := by
  refine Gives.intro Try.func93 rfl rfl rfl rfl ?_
  intro F hF hm
  unfold Fimpl_within at H
  obtain ⟨K, hK⟩ : ∃ K, k ≤ K := ⟨k, Nat.le_refl k⟩
  refine WpC.seq ?_
  refine WpC.regionL ?_
  refine L.assign hF rfl rfl rfl ?_
  refine L.nil ?_
  refine WpC.seq ?_
  refine WpC.regionL ?_
  refine L.move hF rfl rfl rfl ?_
  refine L.move hF rfl rfl rfl ?_
  refine L.bin hF rfl rfl rfl rfl rfl rfl ?_
  refine L.move hF rfl rfl rfl ?_
  refine L.split (fun hc => ?_) (fun hc => ?_)
  · replace H := condT hc H
    refine L.move hF rfl rfl rfl ?_
    refine L.move hF rfl rfl rfl ?_
    refine L.bin hF rfl rfl rfl rfl rfl rfl ?_
    refine L.pick hF rfl rfl rfl rfl ?_
    refine L.assign hF rfl rfl rfl ?_
    refine L.nil ?_
    refine WpC.ret ?_
    cases H
    exact Leaves.ret rfl rfl rfl ⟨rfl, rfl⟩
  · replace H := condF hc H
    refine L.off hF rfl rfl ?_
    refine L.off hF rfl rfl ?_
    refine L.off hF rfl rfl ?_
    refine L.pick hF rfl rfl rfl rfl ?_
    refine L.assign hF rfl rfl rfl ?_
    refine L.nil ?_
    refine WpC.ret ?_
    cases H
    exact Leaves.ret rfl rfl rfl ⟨rfl, rfl⟩
/-! ### Fimpl_FlagsOk -/
def Fimpl_FlagsOk (k : Nat) (a0 : Int) : Option Bool := (Fimpl_within k a0 (0 : Int) (255 : Int)).bind fun r1 => some r1
theorem ent43 : Enters Try.prog 43 := ⟨Try.f43, Try.func43, rfl, by decide⟩
set_option maxHeartbeats 8000000 in
set_option maxRecDepth 100000 in
theorem Fimpl_FlagsOk_gives (k : Nat) (a0 : Int) (r : Bool) (H : Fimpl_FlagsOk k a0 = some r) : Gives Try.prog 43 [V.one (cI a0)] [] [V.one (cL r)] [] := by
  refine Gives.intro Try.func43 rfl rfl rfl rfl ?_
  intro F hF hm
  unfold Fimpl_FlagsOk at H
  obtain ⟨K, hK⟩ : ∃ K, k ≤ K := ⟨k, Nat.le_refl k⟩
  refine WpC.seq ?_
  refine WpC.regionL ?_
  refine L.assign hF rfl rfl rfl ?_
  refine L.nil ?_
  refine WpC.seq ?_
  refine WpC.regionL ?_
  refine L.move hF rfl rfl rfl ?_
  obtain ⟨r1, hr1, H⟩ := bindS H
  refine L.call [false, false, false] [] [] 1 hF rfl rfl rfl ent93 rfl rfl rfl rfl rfl (Fimpl_within_gives k  a0 (0 : Int) (255 : Int) r1 hr1) rfl ?_
  refine L.assign hF rfl rfl rfl ?_
  refine L.nil ?_
  refine WpC.ret ?_
  cases H
  exact Leaves.ret rfl rfl rfl ⟨rfl, rfl⟩
/-! ### Fimpl_ShowFlags -/
def Fimpl_ShowFlags.j8 (cl7 : Int → (List UInt8) → Int → Option (List UInt8)) (k : Nat) (v59 : Int) (v60 : List UInt8) (v61 : Int) : Option (List UInt8) := cl7 v59 v60 (IntKind.i64.wrap (v61 + (1 : Int)))
def Fimpl_ShowFlags.l7 : Nat → Int → (List UInt8) → Int → Option (List UInt8)
  | 0, _, _, _ => none
  | k7 + 1, v53, v54, v55 => cond (decide (v55 < (8 : Int))) (cond (!(decide (v55 < 0))) (cond ((Go.bits .and .i64 (shrI .i64 v53 v55) (1 : Int)) == (1 : Int)) ((cut? ([102, 112, 114, 100, 105, 73, 70, 80] : List UInt8) v55 (IntKind.i64.wrap (v55 + (1 : Int)))).bind fun b63 => cond (decide (v54.length + b63.length ≤ 9223372036854775807)) (Fimpl_ShowFlags.j8 (Fimpl_ShowFlags.l7 k7) k7 v53 (v54 ++ b63) v55) none) (Fimpl_ShowFlags.j8 (Fimpl_ShowFlags.l7 k7) k7 v53 v54 v55)) none) (some v54)
def Fimpl_ShowFlags (k : Nat) (a0 : Int) : Option (List UInt8) := (Fimpl_FlagsOk k a0).bind fun r2 => cond (!r2) (some ([] : List UInt8)) (cond (a0 == (0 : Int)) (some ([45] : List UInt8)) (Fimpl_ShowFlags.l7 k a0 ([] : List UInt8) (0 : Int)))
theorem ent40 : Enters Try.prog 40 := ⟨Try.f40, Try.func40, rfl, by decide⟩
set_option maxHeartbeats 8000000 in
set_option maxRecDepth 100000 in
theorem Fimpl_ShowFlags_gives (k : Nat) (a0 : Int) (r : List UInt8) (H : Fimpl_ShowFlags k a0 = some r) : Gives Try.prog 40 [V.one (cI a0)] [] [V.one (cS r)] [] := by
  refine Gives.intro Try.func40 rfl rfl rfl rfl ?_
  intro F hF hm
  unfold Fimpl_ShowFlags at H
  obtain ⟨K, hK⟩ : ∃ K, k ≤ K := ⟨k, Nat.le_refl k⟩
  refine WpC.seq ?_
  refine WpC.regionL ?_
  refine L.assign hF rfl rfl rfl ?_
  refine L.nil ?_
  refine WpC.seq ?_
  refine WpC.seq ?_
  refine WpC.regionL ?_
  refine L.move hF rfl rfl rfl ?_
  obtain ⟨r2, hr2, H⟩ := bindS H
  refine L.call [false] [] [] 1 hF rfl rfl rfl ent43 rfl rfl rfl rfl rfl (Fimpl_FlagsOk_gives k  a0 r2 hr2) rfl ?_
  refine L.not hF rfl rfl rfl ?_
  refine L.nil ?_
  refine WpC.cond rfl (fun hc => ?_) (fun hc => ?_)
  · replace H := condT hc H
    refine WpC.seq ?_
    refine WpC.regionL ?_
    refine L.assign hF rfl rfl rfl ?_
    refine L.nil ?_
    refine WpC.ret ?_
    cases H
    exact Leaves.ret rfl rfl rfl ⟨rfl, rfl⟩
  · replace H := condF hc H
    refine WpC.skip ?_
    refine WpC.seq ?_
    refine WpC.seq ?_
    refine WpC.regionL ?_
    refine L.move hF rfl rfl rfl ?_
    refine L.bin hF rfl rfl rfl rfl rfl rfl ?_
    refine L.nil ?_
    refine WpC.cond rfl (fun hc => ?_) (fun hc => ?_)
    · replace H := condT hc H
      refine WpC.seq ?_
      refine WpC.regionL ?_
      refine L.assign hF rfl rfl rfl ?_
      refine L.nil ?_
      refine WpC.ret ?_
      cases H
      exact Leaves.ret rfl rfl rfl ⟨rfl, rfl⟩
    · replace H := condF hc H
      refine WpC.skip ?_
      refine WpC.seq ?_
      refine WpC.regionL ?_
      refine L.assign hF rfl rfl rfl ?_
      refine L.nil ?_
      refine WpC.seq ?_
      refine WpC.seq ?_
      refine WpC.regionL ?_
      refine L.move hF rfl rfl rfl ?_
      refine L.nil ?_
      refine WpC.block ?_
      refine WpC.loopL (P := Try.prog) (fun n σ => ∃ v53 : Int, ∃ v54 : List UInt8, ∃ v55 : Int, n ≤ K ∧ Fimpl_ShowFlags.l7 n v53 v54 v55 = some r ∧ σ = mkSt [(0, one (cI v53)), (3, one (cS v54)), (10, one (cI v55))] [] [] 0) k ⟨_, ⟨a0, ([] : List UInt8), (0 : Int), by omega, H, rfl⟩, Le.mk [] hm rfl ⟨⟨_, rfl, rfl⟩, ⟨_, rfl, rfl⟩, ⟨_, rfl, rfl⟩, trivial⟩ trivial trivial⟩ ?_
      clear H
      rintro k7 _ ⟨v53, v54, v55, hk7, H, rfl⟩
      cases k7 with
      | zero => cases H
      | succ k7 =>
        rw [Fimpl_ShowFlags.l7] at H
        refine WpC.seq ?_
        refine WpC.regionL ?_
        refine L.bin hF rfl rfl rfl rfl rfl rfl ?_
        refine L.nil ?_
        refine WpC.seq ?_
        refine WpC.cond rfl (fun hc => ?_) (fun hc => ?_)
        · replace H := condT hc H
          refine WpC.skip ?_
          refine WpC.join (fun σ => ∃ kj8 : Nat, ∃ v59 : Int, ∃ v60 : List UInt8, ∃ v61 : Int, kj8 ≤ K ∧ Fimpl_ShowFlags.j8 (Fimpl_ShowFlags.l7 k7) kj8 v59 v60 v61 = some r ∧ σ = mkSt [(0, one (cI v59)), (3, one (cS v60)), (10, one (cI v61))] [] [] 0) ?_ ?_
          · rintro _ ⟨kj8, v59, v60, v61, hkj8, H, rfl⟩
            unfold Fimpl_ShowFlags.j8 at H
            refine WpC.regionL ?_
            refine L.bin hF rfl rfl rfl rfl rfl rfl ?_
            refine L.move hF rfl rfl rfl ?_
            refine L.nil ?_
            exact ⟨k7, _, by omega, ⟨v59, v60, (IntKind.i64.wrap (v61 + (1 : Int))), by omega, H, rfl⟩, Le.mk [] hm rfl ⟨⟨_, rfl, rfl⟩, ⟨_, rfl, rfl⟩, ⟨_, rfl, rfl⟩, trivial⟩ trivial trivial⟩
          · refine WpC.block ?_
            refine WpC.seq ?_
            refine WpC.regionL ?_
            refine L.move hF rfl rfl rfl ?_
            refine L.assign hF rfl rfl rfl ?_
            refine L.nil ?_
            refine WpC.seq ?_
            refine WpC.regionL ?_
            refine L.move hF rfl rfl rfl ?_
            refine L.move hF rfl rfl rfl ?_
            obtain ⟨h62, H⟩ := condG H
            refine L.shr hF rfl rfl rfl rfl (by simpa using h62) ?_
            refine L.bin hF rfl rfl rfl rfl rfl rfl ?_
            refine L.bin hF rfl rfl rfl rfl rfl rfl ?_
            refine L.nil ?_
            refine WpC.cond rfl (fun hc => ?_) (fun hc => ?_)
            · replace H := condT hc H
              refine WpC.regionL ?_
              refine L.move hF rfl rfl rfl ?_
              refine L.move hF rfl rfl rfl ?_
              refine L.move hF rfl rfl rfl ?_
              refine L.bin hF rfl rfl rfl rfl rfl rfl ?_
              obtain ⟨b63, hb63, H⟩ := bindS H
              refine L.cutS Try.underlying9 hF rfl rfl rfl rfl rfl hb63 ?_
              obtain ⟨h64, H⟩ := condG H
              refine L.catS hF rfl rfl rfl rfl (of_decide_eq_true h64) ?_
              refine L.assign hF rfl rfl rfl ?_
              refine L.nil ?_
              exact ⟨_, ⟨k7, v53, (v54 ++ b63), v55, by omega, H, rfl⟩, Le.mk [] hm rfl ⟨⟨_, rfl, rfl⟩, ⟨_, rfl, rfl⟩, ⟨_, rfl, rfl⟩, trivial⟩ trivial trivial⟩
            · replace H := condF hc H
              refine WpC.skip ?_
              exact ⟨_, ⟨k7, v53, v54, v55, by omega, H, rfl⟩, Le.mk [] hm rfl ⟨⟨_, rfl, rfl⟩, ⟨_, rfl, rfl⟩, ⟨_, rfl, rfl⟩, trivial⟩ trivial trivial⟩
        · replace H := condF hc H
          refine WpC.exit ?_
          refine WpC.seq ?_
          refine WpC.regionL ?_
          refine L.move hF rfl rfl rfl ?_
          refine L.assign hF rfl rfl rfl ?_
          refine L.nil ?_
          refine WpC.ret ?_
          cases H
          exact Leaves.ret rfl rfl rfl ⟨rfl, rfl⟩
/-! ### Fimpl_ReadFlags -/
def Fimpl_ReadFlags.l2 : Nat → (List UInt8) → Int → Option (Int × Bool)
  | 0, _, _ => none
  | k2 + 1, v19, v20 => cond (decide (v20 < (256 : Int))) ((Fimpl_ShowFlags k2 v20).bind fun r22 => cond (r22 == v19) (some (v20, true)) ((Fimpl_ReadFlags.l2 k2) v19 (IntKind.i64.wrap (v20 + (1 : Int))))) (some ((0 : Int), false))
def Fimpl_ReadFlags (k : Nat) (a0 : List UInt8) : Option (Int × Bool) := Fimpl_ReadFlags.l2 k a0 (0 : Int)
theorem ent39 : Enters Try.prog 39 := ⟨Try.f39, Try.func39, rfl, by decide⟩
set_option maxHeartbeats 8000000 in
set_option maxRecDepth 100000 in
theorem Fimpl_ReadFlags_gives (k : Nat) (a0 : List UInt8) (r : Int × Bool) (H : Fimpl_ReadFlags k a0 = some r) : Gives Try.prog 39 [V.one (cS a0)] [] [V.one (cI r.1), V.one (cL r.2)] [] := by
  refine Gives.intro Try.func39 rfl rfl rfl rfl ?_
  intro F hF hm
  unfold Fimpl_ReadFlags at H
  obtain ⟨K, hK⟩ : ∃ K, k ≤ K := ⟨k, Nat.le_refl k⟩
  refine WpC.seq ?_
  refine WpC.regionL ?_
  refine L.assign hF rfl rfl rfl ?_
  refine L.assign hF rfl rfl rfl ?_
  refine L.nil ?_
  refine WpC.seq ?_
  refine WpC.seq ?_
  refine WpC.regionL ?_
  refine L.move hF rfl rfl rfl ?_
  refine L.nil ?_
  refine WpC.block ?_
  refine WpC.loopL (P := Try.prog) (fun n σ => ∃ v19 : List UInt8, ∃ v20 : Int, n ≤ K ∧ Fimpl_ReadFlags.l2 n v19 v20 = some r ∧ σ = mkSt [(0, one (cS v19)), (5, one (cI v20))] [] [] 0) k ⟨_, ⟨a0, (0 : Int), by omega, H, rfl⟩, Le.mk [] hm rfl ⟨⟨_, rfl, rfl⟩, ⟨_, rfl, rfl⟩, trivial⟩ trivial trivial⟩ ?_
  clear H
  rintro k2 _ ⟨v19, v20, hk2, H, rfl⟩
  cases k2 with
  | zero => cases H
  | succ k2 =>
    rw [Fimpl_ReadFlags.l2] at H
    refine WpC.seq ?_
    refine WpC.regionL ?_
    refine L.bin hF rfl rfl rfl rfl rfl rfl ?_
    refine L.nil ?_
    refine WpC.seq ?_
    refine WpC.cond rfl (fun hc => ?_) (fun hc => ?_)
    · replace H := condT hc H
      refine WpC.skip ?_
      refine WpC.seq ?_
      refine WpC.block ?_
      refine WpC.seq ?_
      refine WpC.regionL ?_
      refine L.move hF rfl rfl rfl ?_
      refine L.assign hF rfl rfl rfl ?_
      refine L.nil ?_
      refine WpC.seq ?_
      refine WpC.regionL ?_
      refine L.move hF rfl rfl rfl ?_
      obtain ⟨r22, hr22, H⟩ := bindS H
      refine L.call [false] [] [] 0 hF rfl rfl rfl ent40 rfl rfl rfl rfl rfl (Fimpl_ShowFlags_gives k2  v20 r22 hr22) rfl ?_
      refine L.move hF rfl rfl rfl ?_
      refine L.binS hF rfl rfl rfl rfl rfl ?_
      refine L.nil ?_
      refine WpC.cond rfl (fun hc => ?_) (fun hc => ?_)
      · replace H := condT hc H
        refine WpC.seq ?_
        refine WpC.regionL ?_
        refine L.move hF rfl rfl rfl ?_
        refine L.assign hF rfl rfl rfl ?_
        refine L.assign hF rfl rfl rfl ?_
        refine L.nil ?_
        refine WpC.ret ?_
        cases H
        exact Leaves.ret rfl rfl rfl ⟨rfl, rfl⟩
      · replace H := condF hc H
        refine WpC.skip ?_
        refine WpC.regionL ?_
        refine L.bin hF rfl rfl rfl rfl rfl rfl ?_
        refine L.move hF rfl rfl rfl ?_
        refine L.nil ?_
        exact ⟨k2, _, by omega, ⟨v19, (IntKind.i64.wrap (v20 + (1 : Int))), by omega, H, rfl⟩, Le.mk [] hm rfl ⟨⟨_, rfl, rfl⟩, ⟨_, rfl, rfl⟩, trivial⟩ trivial trivial⟩
    · replace H := condF hc H
      refine WpC.exit ?_
      refine WpC.seq ?_
      refine WpC.regionL ?_
      refine L.assign hF rfl rfl rfl ?_
      refine L.assign hF rfl rfl rfl ?_
      refine L.nil ?_
      refine WpC.ret ?_
      cases H
      exact Leaves.ret rfl rfl rfl ⟨rfl, rfl⟩
/-! ### Fspec_l1New -/
def Fspec_l1New.j2 (k : Nat) (v15 : List UInt8) (v16 : Int) : Option Tspec_l1Cur := some (⟨v15, (0 : Int), v16⟩ : Tspec_l1Cur)
def Fspec_l1New.l3 : Nat → (List UInt8) → Int → Int → Option Tspec_l1Cur
  | 0, _, _, _ => none
  | k3 + 1, v26, v27, v28 => cond (decide (v28 < (v26.length : Int))) (cond (decide (v28 < (4000 : Int))) ((at? v26 v28).bind fun b30 => (Fspec_l1New.l3 k3) v26 (Go.bits .and .i64 (IntKind.i64.wrap ((IntKind.i64.wrap ((IntKind.i64.wrap (v27 * (131 : Int))) + (b30.toNat : Int))) + (7 : Int))) (1073741823 : Int)) (IntKind.i64.wrap (v28 + (1 : Int)))) (Fspec_l1New.j2 k3 v26 v27)) (Fspec_l1New.j2 k3 v26 v27)
def Fspec_l1New (k : Nat) (a0 : List UInt8) : Option Tspec_l1Cur := Fspec_l1New.l3 k a0 (IntKind.i64.wrap ((10101 : Int) + (a0.length : Int))) (0 : Int)
theorem ent95 : Enters Try.prog 95 := ⟨Try.f95, Try.func95, rfl, by decide⟩
set_option maxHeartbeats 8000000 in
set_option maxRecDepth 100000 in
theorem Fspec_l1New_gives (k : Nat) (a0 : List UInt8) (r : Tspec_l1Cur) (H : Fspec_l1New k a0 = some r) : Gives Try.prog 95 [V.one (Cell.sl true (List.map eB a0))] [] [V.one (Cell.bx [Cell.sl true (List.map eB r.b), cI r.i, cI r.h])] [] := by
  refine Gives.intro Try.func95 rfl rfl rfl rfl ?_
  intro F hF hm
  unfold Fspec_l1New at H
  obtain ⟨K, hK⟩ : ∃ K, k ≤ K := ⟨k, Nat.le_refl k⟩
  refine WpC.seq ?_
  refine WpC.regionL ?_
  refine L.assign hF rfl rfl rfl ?_
  refine L.nil ?_
  refine WpC.seq ?_
  refine WpC.regionL ?_
  refine L.move hF rfl rfl rfl ?_
  refine L.lenR (xs := a0) (e := eB) Try.underlying35 hF rfl rfl rfl rfl ?_
  refine L.bin hF rfl rfl rfl rfl rfl rfl ?_
  refine L.assign hF rfl rfl rfl ?_
  refine L.nil ?_
  refine WpC.join (fun σ => ∃ kj2 : Nat, ∃ v15 : List UInt8, ∃ v16 : Int, kj2 ≤ K ∧ Fspec_l1New.j2 kj2 v15 v16 = some r ∧ σ = mkSt [(0, one (Cell.sl true (List.map eB v15))), (3, one (cI v16))] [] [] 0) ?_ ?_
  · rintro _ ⟨kj2, v15, v16, hkj2, H, rfl⟩
    unfold Fspec_l1New.j2 at H
    refine WpC.seq ?_
    refine WpC.regionL ?_
    refine L.move hF rfl rfl rfl ?_
    refine L.move hF rfl rfl rfl ?_
    refine L.buildF built162 hF rfl rfl rfl rfl ?_
    refine L.box 0 hF rfl rfl rfl rfl ?_
    refine L.assign hF rfl rfl rfl ?_
    refine L.nil ?_
    refine WpC.ret ?_
    cases H
    exact Leaves.ret rfl rfl rfl ⟨rfl, rfl⟩
  · refine WpC.seq ?_
    refine WpC.regionL ?_
    refine L.assign hF rfl rfl rfl ?_
    refine L.nil ?_
    refine WpC.block ?_
    refine WpC.loopL (P := Try.prog) (fun n σ => ∃ v26 : List UInt8, ∃ v27 : Int, ∃ v28 : Int, n ≤ K ∧ Fspec_l1New.l3 n v26 v27 v28 = some r ∧ σ = mkSt [(0, one (Cell.sl true (List.map eB v26))), (3, one (cI v27)), (4, one (cI v28))] [] [] 0) k ⟨_, ⟨a0, (IntKind.i64.wrap ((10101 : Int) + (a0.length : Int))), (0 : Int), by omega, H, rfl⟩, Le.mk [] hm rfl ⟨⟨_, rfl, rfl⟩, ⟨_, rfl, rfl⟩, ⟨_, rfl, rfl⟩, trivial⟩ trivial trivial⟩ ?_
    clear H
    rintro k3 _ ⟨v26, v27, v28, hk3, H, rfl⟩
    cases k3 with
    | zero => cases H
    | succ k3 =>
      rw [Fspec_l1New.l3] at H
      refine WpC.seq ?_
      refine WpC.seq ?_
      refine WpC.regionL ?_
      refine L.move hF rfl rfl rfl ?_
      refine L.move hF rfl rfl rfl ?_
      refine L.lenR (xs := v26) (e := eB) Try.underlying35 hF rfl rfl rfl rfl ?_
      refine L.bin hF rfl rfl rfl rfl rfl rfl ?_
      refine L.move hF rfl rfl rfl ?_
      refine L.split (fun hc => ?_) (fun hc => ?_)
      · replace H := condT hc H
        refine L.move hF rfl rfl rfl ?_
        refine L.bin hF rfl rfl rfl rfl rfl rfl ?_
        refine L.pick hF rfl rfl rfl rfl ?_
        refine L.nil ?_
        refine WpC.cond rfl (fun hc => ?_) (fun hc => ?_)
        · replace H := condT hc H
          refine WpC.skip ?_
          refine WpC.seq ?_
          refine WpC.block ?_
          refine WpC.regionL ?_
          refine L.move hF rfl rfl rfl ?_
          refine L.bin hF rfl rfl rfl rfl rfl rfl ?_
          refine L.move hF rfl rfl rfl ?_
          refine L.move hF rfl rfl rfl ?_
          obtain ⟨b30, hb30, H⟩ := bindS H
          refine L.idxR (xs := v26) (e := eB) Try.underlying35 info5 hF rfl rfl rfl rfl rfl hb30 rfl rfl ?_
          refine L.loadPe shape5 hF rfl rfl rfl rfl rfl ?_
          refine L.ofB Try.underlying5 Try.underlying3 hF rfl rfl rfl ?_
          refine L.bin hF rfl rfl rfl rfl rfl rfl ?_
          refine L.bin hF rfl rfl rfl rfl rfl rfl ?_
          refine L.bin hF rfl rfl rfl rfl rfl rfl ?_
          refine L.assign hF rfl rfl rfl ?_
          refine L.nil ?_
          refine WpC.regionL ?_
          refine L.move hF rfl rfl rfl ?_
          refine L.bin hF rfl rfl rfl rfl rfl rfl ?_
          refine L.assign hF rfl rfl rfl ?_
          refine L.nil ?_
          exact ⟨k3, _, by omega, ⟨v26, (Go.bits .and .i64 (IntKind.i64.wrap ((IntKind.i64.wrap ((IntKind.i64.wrap (v27 * (131 : Int))) + (b30.toNat : Int))) + (7 : Int))) (1073741823 : Int)), (IntKind.i64.wrap (v28 + (1 : Int))), by omega, H, rfl⟩, Le.mk [] hm rfl ⟨⟨_, rfl, rfl⟩, ⟨_, rfl, rfl⟩, ⟨_, rfl, rfl⟩, trivial⟩ trivial trivial⟩
        · replace H := condF hc H
          refine WpC.exit ?_
          exact ⟨_, ⟨k3, v26, v27, by omega, H, rfl⟩, Le.mk [] hm rfl ⟨⟨_, rfl, rfl⟩, ⟨_, rfl, rfl⟩, trivial⟩ trivial trivial⟩
      · replace H := condF hc H
        refine L.off hF rfl rfl ?_
        refine L.off hF rfl rfl ?_
        refine L.pick hF rfl rfl rfl rfl ?_
        refine L.nil ?_
        refine WpC.cond rfl (fun hc => by cases hc) (fun _ => ?_)
        refine WpC.exit ?_
        exact ⟨_, ⟨k3, v26, v27, by omega, H, rfl⟩, Le.mk [] hm rfl ⟨⟨_, rfl, rfl⟩, ⟨_, rfl, rfl⟩, trivial⟩ trivial trivial⟩
/-! ### Fspec_l1Byte -/
def Fspec_l1Byte (k : Nat) (o0 : Tspec_l1Cur) : Option (Int × Tspec_l1Cur) := cond (decide (o0.i < (o0.b.length : Int))) ((at? o0.b o0.i).bind fun b2 => some ((Go.bits .and .i64 (IntKind.i64.wrap ((Go.bits .and .i64 (Go.bits .xor .i64 (shrI .i64 (IntKind.i64.wrap ((IntKind.i64.wrap (o0.h * (6364136223846793005 : Int))) + (1442695040888963407 : Int))) (33 : Int)) (shrI .i64 (IntKind.i64.wrap ((IntKind.i64.wrap (o0.h * (6364136223846793005 : Int))) + (1442695040888963407 : Int))) (45 : Int))) (255 : Int)) + (b2.toNat : Int))) (255 : Int)), (⟨o0.b, (IntKind.i64.wrap (o0.i + (1 : Int))), (IntKind.i64.wrap ((IntKind.i64.wrap (o0.h * (6364136223846793005 : Int))) + (1442695040888963407 : Int)))⟩ : Tspec_l1Cur))) (some ((Go.bits .and .i64 (Go.bits .xor .i64 (shrI .i64 (IntKind.i64.wrap ((IntKind.i64.wrap (o0.h * (6364136223846793005 : Int))) + (1442695040888963407 : Int))) (33 : Int)) (shrI .i64 (IntKind.i64.wrap ((IntKind.i64.wrap (o0.h * (6364136223846793005 : Int))) + (1442695040888963407 : Int))) (45 : Int))) (255 : Int)), (⟨o0.b, o0.i, (IntKind.i64.wrap ((IntKind.i64.wrap (o0.h * (6364136223846793005 : Int))) + (1442695040888963407 : Int)))⟩ : Tspec_l1Cur)))
theorem ent148 : Enters Try.prog 148 := ⟨Try.f148, Try.func148, rfl, by decide⟩
set_option maxHeartbeats 8000000 in
set_option maxRecDepth 100000 in
theorem Fspec_l1Byte_gives (k : Nat) (o0 : Tspec_l1Cur) (r : Int × Tspec_l1Cur) (H : Fspec_l1Byte k o0 = some r) : Gives Try.prog 148 [V.one (Cell.ptr 0 0)] [[Cell.sl true (List.map eB o0.b), cI o0.i, cI o0.h]] [V.one (cI r.1)] [[Cell.sl true (List.map eB r.2.b), cI r.2.i, cI r.2.h]] := by
  refine Gives.intro Try.func148 rfl rfl rfl rfl ?_
  intro F hF hm
  unfold Fspec_l1Byte at H
  obtain ⟨K, hK⟩ : ∃ K, k ≤ K := ⟨k, Nat.le_refl k⟩
  refine WpC.seq ?_
  refine WpC.regionL ?_
  refine L.assign hF rfl rfl rfl ?_
  refine L.nil ?_
  refine WpC.seq ?_
  refine WpC.regionL ?_
  refine L.move hF rfl rfl rfl ?_
  refine L.move hF rfl rfl rfl ?_
  refine L.nilCheck hF rfl rfl rfl rfl ?_
  refine L.fieldAddr Try.underlying162 rfl info3 rfl hF rfl rfl rfl rfl rfl ?_
  refine L.loadPtr shape3 hF rfl rfl rfl rfl rfl rfl ?_
  refine L.bin hF rfl rfl rfl rfl rfl rfl ?_
  refine L.bin hF rfl rfl rfl rfl rfl rfl ?_
  refine L.nilCheck hF rfl rfl rfl rfl ?_
  refine L.fieldAddr Try.underlying162 rfl info3 rfl hF rfl rfl rfl rfl rfl ?_
  refine L.storePtr shape3 hF rfl rfl rfl rfl rfl rfl rfl ?_
  refine L.nil ?_
  refine WpC.seq ?_
  refine S.begin mixed (by kernel_rfl) ?_
  refine S.st 0 rfl rfl ((Ca.move).quiet) (fun Q0 k0 => L.move hF rfl rfl rfl (L.nil k0)) ?_
  refine S.st 1 rfl rfl ((Ca.nilCheck rfl rfl).quiet) (fun Q0 k0 => L.nilCheck hF rfl rfl rfl rfl (L.nil k0)) ?_
  refine S.st 2 rfl rfl ((Ca.fieldAddr Try.underlying162 rfl info3 rfl).quiet) (fun Q0 k0 => L.fieldAddr Try.underlying162 rfl info3 rfl hF rfl rfl rfl rfl rfl (L.nil k0)) ?_
  refine S.st 3 rfl rfl (Qu.load) (fun Q0 k0 => L.loadPtr shape3 hF rfl rfl rfl rfl rfl rfl (L.nil k0)) ?_
  refine S.st 4 rfl rfl ((Ca.bin rfl rfl (calm_int _ _ _ _ _ _ _ _)).quiet) (fun Q0 k0 => L.shr hF rfl rfl rfl rfl (by decide) (L.nil k0)) ?_
  refine S.st 5 rfl rfl ((Ca.move).quiet) (fun Q0 k0 => L.move hF rfl rfl rfl (L.nil k0)) ?_
  refine S.st 6 rfl rfl ((Ca.nilCheck rfl rfl).quiet) (fun Q0 k0 => L.nilCheck hF rfl rfl rfl rfl (L.nil k0)) ?_
  refine S.st 7 rfl rfl ((Ca.fieldAddr Try.underlying162 rfl info3 rfl).quiet) (fun Q0 k0 => L.fieldAddr Try.underlying162 rfl info3 rfl hF rfl rfl rfl rfl rfl (L.nil k0)) ?_
  refine S.st 8 rfl rfl (Qu.load) (fun Q0 k0 => L.loadPtr shape3 hF rfl rfl rfl rfl rfl rfl (L.nil k0)) ?_
  refine S.st 9 rfl rfl ((Ca.bin rfl rfl (calm_int _ _ _ _ _ _ _ _)).quiet) (fun Q0 k0 => L.shr hF rfl rfl rfl rfl (by decide) (L.nil k0)) ?_
  refine S.st 10 rfl rfl ((Ca.bin rfl rfl (calm_int _ _ _ _ _ _ _ _)).quiet) (fun Q0 k0 => L.bin hF rfl rfl rfl rfl rfl rfl (L.nil k0)) ?_
  refine S.st 11 rfl rfl ((Ca.bin rfl rfl (calm_int _ _ _ _ _ _ _ _)).quiet) (fun Q0 k0 => L.bin hF rfl rfl rfl rfl rfl rfl (L.nil k0)) ?_
  refine S.st 12 rfl rfl ((Ca.assign).quiet) (fun Q0 k0 => L.assign hF rfl rfl rfl (L.nil k0)) ?_
  refine S.nil ?_
  refine WpC.seq ?_
  refine WpC.seq ?_
  refine S.begin mixed (by kernel_rfl) ?_
  refine S.st 0 rfl rfl ((Ca.move).quiet) (fun Q0 k0 => L.move hF rfl rfl rfl (L.nil k0)) ?_
  refine S.st 1 rfl rfl ((Ca.nilCheck rfl rfl).quiet) (fun Q0 k0 => L.nilCheck hF rfl rfl rfl rfl (L.nil k0)) ?_
  refine S.st 2 rfl rfl ((Ca.fieldAddr Try.underlying162 rfl info3 rfl).quiet) (fun Q0 k0 => L.fieldAddr Try.underlying162 rfl info3 rfl hF rfl rfl rfl rfl rfl (L.nil k0)) ?_
  refine S.st 3 rfl rfl (Qu.load) (fun Q0 k0 => L.loadPtr shape3 hF rfl rfl rfl rfl rfl rfl (L.nil k0)) ?_
  refine S.st 4 rfl rfl ((Ca.move).quiet) (fun Q0 k0 => L.move hF rfl rfl rfl (L.nil k0)) ?_
  refine S.st 5 rfl rfl ((Ca.nilCheck rfl rfl).quiet) (fun Q0 k0 => L.nilCheck hF rfl rfl rfl rfl (L.nil k0)) ?_
  refine S.st 6 rfl rfl ((Ca.fieldAddr Try.underlying162 rfl info35 rfl).quiet) (fun Q0 k0 => L.fieldAddr Try.underlying162 rfl info35 rfl hF rfl rfl rfl rfl rfl (L.nil k0)) ?_
  refine S.st 7 rfl rfl (Qu.load) (fun Q0 k0 => L.loadPtr shape35 hF rfl rfl rfl rfl rfl rfl (L.nil k0)) ?_
  refine S.st 8 rfl rfl ((Ca.lenR (xs := o0.b) (e := eB) Try.underlying35 rfl rfl).quiet) (fun Q0 k0 => L.lenR (xs := o0.b) (e := eB) Try.underlying35 hF rfl rfl rfl rfl (L.nil k0)) ?_
  refine S.st 9 rfl rfl ((Ca.bin rfl rfl (calm_int _ _ _ _ _ _ _ _)).quiet) (fun Q0 k0 => L.bin hF rfl rfl rfl rfl rfl rfl (L.nil k0)) ?_
  refine S.nil ?_
  refine WpC.cond rfl (fun hc => ?_) (fun hc => ?_)
  · replace H := condT hc H
    refine WpC.seq ?_
    refine S.begin mixed (by kernel_rfl) ?_
    refine S.st 0 rfl rfl ((Ca.move).quiet) (fun Q0 k0 => L.move hF rfl rfl rfl (L.nil k0)) ?_
    refine S.st 1 rfl rfl ((Ca.move).quiet) (fun Q0 k0 => L.move hF rfl rfl rfl (L.nil k0)) ?_
    refine S.st 2 rfl rfl ((Ca.nilCheck rfl rfl).quiet) (fun Q0 k0 => L.nilCheck hF rfl rfl rfl rfl (L.nil k0)) ?_
    refine S.st 3 rfl rfl ((Ca.fieldAddr Try.underlying162 rfl info35 rfl).quiet) (fun Q0 k0 => L.fieldAddr Try.underlying162 rfl info35 rfl hF rfl rfl rfl rfl rfl (L.nil k0)) ?_
    refine S.st 4 rfl rfl (Qu.load) (fun Q0 k0 => L.loadPtr shape35 hF rfl rfl rfl rfl rfl rfl (L.nil k0)) ?_
    refine S.st 5 rfl rfl ((Ca.move).quiet) (fun Q0 k0 => L.move hF rfl rfl rfl (L.nil k0)) ?_
    refine S.st 6 rfl rfl ((Ca.nilCheck rfl rfl).quiet) (fun Q0 k0 => L.nilCheck hF rfl rfl rfl rfl (L.nil k0)) ?_
    refine S.st 7 rfl rfl ((Ca.fieldAddr Try.underlying162 rfl info3 rfl).quiet) (fun Q0 k0 => L.fieldAddr Try.underlying162 rfl info3 rfl hF rfl rfl rfl rfl rfl (L.nil k0)) ?_
    refine S.st 8 rfl rfl (Qu.load) (fun Q0 k0 => L.loadPtr shape3 hF rfl rfl rfl rfl rfl rfl (L.nil k0)) ?_
    obtain ⟨b2, hb2, H⟩ := bindS H
    refine S.st 9 rfl rfl ((Ca.indexAddr).quiet) (fun Q0 k0 => L.idxR (xs := o0.b) (e := eB) Try.underlying35 info5 hF rfl rfl rfl rfl rfl hb2 rfl rfl (L.nil k0)) ?_
    refine S.st 10 rfl rfl (Qu.load) (fun Q0 k0 => L.loadPe shape5 hF rfl rfl rfl rfl rfl (L.nil k0)) ?_
    refine S.st 11 rfl rfl ((Ca.conv Try.underlying5 Try.underlying3 rfl).quiet) (fun Q0 k0 => L.ofB Try.underlying5 Try.underlying3 hF rfl rfl rfl (L.nil k0)) ?_
    refine S.st 12 rfl rfl ((Ca.bin rfl rfl (calm_int _ _ _ _ _ _ _ _)).quiet) (fun Q0 k0 => L.bin hF rfl rfl rfl rfl rfl rfl (L.nil k0)) ?_
    refine S.st 13 rfl rfl ((Ca.bin rfl rfl (calm_int _ _ _ _ _ _ _ _)).quiet) (fun Q0 k0 => L.bin hF rfl rfl rfl rfl rfl rfl (L.nil k0)) ?_
    refine S.st 14 rfl rfl ((Ca.assign).quiet) (fun Q0 k0 => L.assign hF rfl rfl rfl (L.nil k0)) ?_
    refine S.nil ?_
    refine WpC.regionL ?_
    refine L.move hF rfl rfl rfl ?_
    refine L.move hF rfl rfl rfl ?_
    refine L.nilCheck hF rfl rfl rfl rfl ?_
    refine L.fieldAddr Try.underlying162 rfl info3 rfl hF rfl rfl rfl rfl rfl ?_
    refine L.loadPtr shape3 hF rfl rfl rfl rfl rfl rfl ?_
    refine L.bin hF rfl rfl rfl rfl rfl rfl ?_
    refine L.nilCheck hF rfl rfl rfl rfl ?_
    refine L.fieldAddr Try.underlying162 rfl info3 rfl hF rfl rfl rfl rfl rfl ?_
    refine L.storePtr shape3 hF rfl rfl rfl rfl rfl rfl rfl ?_
    refine L.nil ?_
    refine WpC.seq ?_
    refine WpC.regionL ?_
    refine L.move hF rfl rfl rfl ?_
    refine L.assign hF rfl rfl rfl ?_
    refine L.nil ?_
    refine WpC.ret ?_
    cases H
    exact Leaves.ret rfl rfl rfl ⟨rfl, rfl⟩
  · replace H := condF hc H
    refine WpC.skip ?_
    refine WpC.seq ?_
    refine WpC.regionL ?_
    refine L.move hF rfl rfl rfl ?_
    refine L.assign hF rfl rfl rfl ?_
    refine L.nil ?_
    refine WpC.ret ?_
    cases H
    exact Leaves.ret rfl rfl rfl ⟨rfl, rfl⟩
/-! ### Fspec_l1Below -/
def Fspec_l1Below (k : Nat) (a1 : Int) (o0 : Tspec_l1Cur) : Option (Int × Tspec_l1Cur) := cond (decide (a1 ≤ (0 : Int))) (some ((0 : Int), o0)) (cond (decide (a1 ≤ (256 : Int))) ((Fspec_l1Byte k o0).bind fun r3 => cond (!(a1 == 0)) (some ((Int.tmod r3.1 a1), r3.2)) none) ((Fspec_l1Byte k o0).bind fun r5 => (Fspec_l1Byte k r5.2).bind fun r6 => (Fspec_l1Byte k r6.2).bind fun r7 => (Fspec_l1Byte k r7.2).bind fun r8 => cond (!(a1 == 0)) (some ((Int.tmod (IntKind.i64.wrap ((IntKind.i64.wrap ((IntKind.i64.wrap ((IntKind.i64.wrap (r5.1 * (16777216 : Int))) + (IntKind.i64.wrap (r6.1 * (65536 : Int))))) + (IntKind.i64.wrap (r7.1 * (256 : Int))))) + r8.1)) a1), r8.2)) none))
theorem ent97 : Enters Try.prog 97 := ⟨Try.f97, Try.func97, rfl, by decide⟩
set_option maxHeartbeats 8000000 in
set_option maxRecDepth 100000 in
theorem Fspec_l1Below_gives (k : Nat) (a1 : Int) (o0 : Tspec_l1Cur) (r : Int × Tspec_l1Cur) (H : Fspec_l1Below k a1 o0 = some r) : Gives Try.prog 97 [V.one (Cell.ptr 0 0), V.one (cI a1)] [[Cell.sl true (List.map eB o0.b), cI o0.i, cI o0.h]] [V.one (cI r.1)] [[Cell.sl true (List.map eB r.2.b), cI r.2.i, cI r.2.h]] := by
  refine Gives.intro Try.func97 rfl rfl rfl rfl ?_
  intro F hF hm
  unfold Fspec_l1Below at H
  obtain ⟨K, hK⟩ : ∃ K, k ≤ K := ⟨k, Nat.le_refl k⟩
  refine WpC.seq ?_
  refine WpC.regionL ?_
  refine L.assign hF rfl rfl rfl ?_
  refine L.nil ?_
  refine WpC.seq ?_
  refine WpC.seq ?_
  refine WpC.regionL ?_
  refine L.move hF rfl rfl rfl ?_
  refine L.bin hF rfl rfl rfl rfl rfl rfl ?_
  refine L.nil ?_
  refine WpC.cond rfl (fun hc => ?_) (fun hc => ?_)
  · replace H := condT hc H
    refine WpC.seq ?_
    refine WpC.regionL ?_
    refine L.assign hF rfl rfl rfl ?_
    refine L.nil ?_
    refine WpC.ret ?_
    cases H
    exact Leaves.ret rfl rfl rfl ⟨rfl, rfl⟩
  · replace H := condF hc H
    refine WpC.skip ?_
    refine WpC.seq ?_
    refine WpC.seq ?_
    refine WpC.regionL ?_
    refine L.move hF rfl rfl rfl ?_
    refine L.bin hF rfl rfl rfl rfl rfl rfl ?_
    refine L.nil ?_
    refine WpC.cond rfl (fun hc => ?_) (fun hc => ?_)
    · replace H := condT hc H
      refine WpC.seq ?_
      refine WpC.regionL ?_
      refine L.move hF rfl rfl rfl ?_
      obtain ⟨r3, hr3, H⟩ := bindS H
      refine L.call [false] [] [0] 6 hF rfl rfl rfl ent148 rfl rfl rfl rfl rfl (Fspec_l1Byte_gives k  o0 r3 hr3) rfl ?_
      refine L.move hF rfl rfl rfl ?_
      obtain ⟨h4, H⟩ := condG H
      refine L.rem hF rfl rfl rfl rfl (by simpa using h4) ?_
      refine L.assign hF rfl rfl rfl ?_
      refine L.nil ?_
      refine WpC.ret ?_
      cases H
      exact Leaves.ret rfl rfl rfl ⟨rfl, rfl⟩
    · replace H := condF hc H
      refine WpC.skip ?_
      refine WpC.seq ?_
      refine WpC.regionL ?_
      refine L.move hF rfl rfl rfl ?_
      obtain ⟨r5, hr5, H⟩ := bindS H
      refine L.call [false] [] [0] 6 hF rfl rfl rfl ent148 rfl rfl rfl rfl rfl (Fspec_l1Byte_gives k  o0 r5 hr5) rfl ?_
      refine L.assign hF rfl rfl rfl ?_
      refine L.nil ?_
      refine WpC.seq ?_
      refine WpC.regionL ?_
      refine L.move hF rfl rfl rfl ?_
      obtain ⟨r6, hr6, H⟩ := bindS H
      refine L.call [false] [] [0] 10 hF rfl rfl rfl ent148 rfl rfl rfl rfl rfl (Fspec_l1Byte_gives k  r5.2 r6 hr6) rfl ?_
      refine L.assign hF rfl rfl rfl ?_
      refine L.nil ?_
      refine WpC.seq ?_
      refine WpC.regionL ?_
      refine L.move hF rfl rfl rfl ?_
      obtain ⟨r7, hr7, H⟩ := bindS H
      refine L.call [false] [] [0] 14 hF rfl rfl rfl ent148 rfl rfl rfl rfl rfl (Fspec_l1Byte_gives k  r6.2 r7 hr7) rfl ?_
      refine L.assign hF rfl rfl rfl ?_
      refine L.nil ?_
      refine WpC.seq ?_
      refine WpC.regionL ?_
      refine L.move hF rfl rfl rfl ?_
      obtain ⟨r8, hr8, H⟩ := bindS H
      refine L.call [false] [] [0] 18 hF rfl rfl rfl ent148 rfl rfl rfl rfl rfl (Fspec_l1Byte_gives k  r7.2 r8 hr8) rfl ?_
      refine L.assign hF rfl rfl rfl ?_
      refine L.nil ?_
      refine WpC.seq ?_
      refine WpC.regionL ?_
      refine L.move hF rfl rfl rfl ?_
      refine L.bin hF rfl rfl rfl rfl rfl rfl ?_
      refine L.move hF rfl rfl rfl ?_
      refine L.bin hF rfl rfl rfl rfl rfl rfl ?_
      refine L.bin hF rfl rfl rfl rfl rfl rfl ?_
      refine L.move hF rfl rfl rfl ?_
      refine L.bin hF rfl rfl rfl rfl rfl rfl ?_
      refine L.bin hF rfl rfl rfl rfl rfl rfl ?_
      refine L.move hF rfl rfl rfl ?_
      refine L.bin hF rfl rfl rfl rfl rfl rfl ?_
      refine L.move hF rfl rfl rfl ?_
      obtain ⟨h9, H⟩ := condG H
      refine L.rem hF rfl rfl rfl rfl (by simpa using h9) ?_
      refine L.assign hF rfl rfl rfl ?_
      refine L.nil ?_
      refine WpC.ret ?_
      cases H
      exact Leaves.ret rfl rfl rfl ⟨rfl, rfl⟩
/-! ### Fspec_l1Once -/
def Fspec_l1Once (k : Nat) (a1 : Int) (o0 : Tspec_l1Cur) : Option (Bool × Tspec_l1Cur) := (Fspec_l1Below k a1 o0).bind fun r1 => some ((r1.1 == (0 : Int)), r1.2)
theorem ent98 : Enters Try.prog 98 := ⟨Try.f98, Try.func98, rfl, by decide⟩
set_option maxHeartbeats 8000000 in
set_option maxRecDepth 100000 in
theorem Fspec_l1Once_gives (k : Nat) (a1 : Int) (o0 : Tspec_l1Cur) (r : Bool × Tspec_l1Cur) (H : Fspec_l1Once k a1 o0 = some r) : Gives Try.prog 98 [V.one (Cell.ptr 0 0), V.one (cI a1)] [[Cell.sl true (List.map eB o0.b), cI o0.i, cI o0.h]] [V.one (cL r.1)] [[Cell.sl true (List.map eB r.2.b), cI r.2.i, cI r.2.h]] := by
  refine Gives.intro Try.func98 rfl rfl rfl rfl ?_
  intro F hF hm
  unfold Fspec_l1Once at H
  obtain ⟨K, hK⟩ : ∃ K, k ≤ K := ⟨k, Nat.le_refl k⟩
  refine WpC.seq ?_
  refine WpC.regionL ?_
  refine L.assign hF rfl rfl rfl ?_
  refine L.nil ?_
  refine WpC.seq ?_
  refine WpC.regionL ?_
  refine L.move hF rfl rfl rfl ?_
  refine L.move hF rfl rfl rfl ?_
  obtain ⟨r1, hr1, H⟩ := bindS H
  refine L.call [false, false] [] [0] 6 hF rfl rfl rfl ent97 rfl rfl rfl rfl rfl (Fspec_l1Below_gives k  a1 o0 r1 hr1) rfl ?_
  refine L.bin hF rfl rfl rfl rfl rfl rfl ?_
  refine L.assign hF rfl rfl rfl ?_
  refine L.nil ?_
  refine WpC.ret ?_
  cases H
  exact Leaves.ret rfl rfl rfl ⟨rfl, rfl⟩
/-! ### Fspec_l1PickInt -/
def Fspec_l1PickInt (k : Nat) (a1 : List Int) (o0 : Tspec_l1Cur) : Option (Int × Tspec_l1Cur) := (Fspec_l1Below k (a1.length : Int) o0).bind fun r1 => (at? a1 r1.1).bind fun b2 => some (b2, r1.2)
theorem ent105 : Enters Try.prog 105 := ⟨Try.f105, Try.func105, rfl, by decide⟩
set_option maxHeartbeats 8000000 in
set_option maxRecDepth 100000 in
theorem Fspec_l1PickInt_gives (k : Nat) (g0 : Bool) (a1 : List Int) (o0 : Tspec_l1Cur) (r : Int × Tspec_l1Cur) (H : Fspec_l1PickInt k a1 o0 = some r) : Gives Try.prog 105 [V.one (Cell.ptr 0 0), V.one (Cell.sl g0 (List.map eI a1))] [[Cell.sl true (List.map eB o0.b), cI o0.i, cI o0.h]] [V.one (cI r.1)] [[Cell.sl true (List.map eB r.2.b), cI r.2.i, cI r.2.h]] := by
  refine Gives.intro Try.func105 rfl rfl rfl rfl ?_
  intro F hF hm
  unfold Fspec_l1PickInt at H
  obtain ⟨K, hK⟩ : ∃ K, k ≤ K := ⟨k, Nat.le_refl k⟩
  refine WpC.seq ?_
  refine WpC.regionL ?_
  refine L.assign hF rfl rfl rfl ?_
  refine L.nil ?_
  refine WpC.seq ?_
  refine WpC.regionL ?_
  refine L.move hF rfl rfl rfl ?_
  refine L.move hF rfl rfl rfl ?_
  refine L.move hF rfl rfl rfl ?_
  refine L.lenR (xs := a1) (e := eI) Try.underlying77 hF rfl rfl rfl rfl ?_
  obtain ⟨r1, hr1, H⟩ := bindS H
  refine L.call [false, false] [] [0] 6 hF rfl rfl rfl ent97 rfl rfl rfl rfl rfl (Fspec_l1Below_gives k  (a1.length : Int) o0 r1 hr1) rfl ?_
  obtain ⟨b2, hb2, H⟩ := bindS H
  refine L.idxR (xs := a1) (e := eI) Try.underlying77 info3 hF rfl rfl rfl rfl rfl hb2 rfl rfl ?_
  refine L.loadPe shape3 hF rfl rfl rfl rfl rfl ?_
  refine L.assign hF rfl rfl rfl ?_
  refine L.nil ?_
  refine WpC.ret ?_
  cases H
  exact Leaves.ret rfl rfl rfl ⟨rfl, rfl⟩
/-! ### Fspec_l15Flags -/
def Fspec_l15Flags (k : Nat) (o0 : Tspec_l1Cur) : Option (Int × Tspec_l1Cur) := (Fspec_l1Once k (15 : Int) o0).bind fun r3 => cond r3.1 ((Fspec_l1PickInt k ([(-1 : Int), (256 : Int), (1000 : Int)] : List Int) r3.2).bind fun r4 => some (r4.1, r4.2)) ((Fspec_l1Below k (256 : Int) r3.2).bind fun r5 => some (r5.1, r5.2))
theorem ent96 : Enters Try.prog 96 := ⟨Try.f96, Try.func96, rfl, by decide⟩
set_option maxHeartbeats 8000000 in
set_option maxRecDepth 100000 in
theorem Fspec_l15Flags_gives (k : Nat) (o0 : Tspec_l1Cur) (r : Int × Tspec_l1Cur) (H : Fspec_l15Flags k o0 = some r) : Gives Try.prog 96 [V.one (Cell.ptr 0 0)] [[Cell.sl true (List.map eB o0.b), cI o0.i, cI o0.h]] [V.one (cI r.1)] [[Cell.sl true (List.map eB r.2.b), cI r.2.i, cI r.2.h]] := by
  refine Gives.intro Try.func96 rfl rfl rfl rfl ?_
  intro F hF hm
  unfold Fspec_l15Flags at H
  obtain ⟨K, hK⟩ : ∃ K, k ≤ K := ⟨k, Nat.le_refl k⟩
  refine WpC.seq ?_
  refine WpC.regionL ?_
  refine L.assign hF rfl rfl rfl ?_
  refine L.nil ?_
  refine WpC.seq ?_
  refine WpC.seq ?_
  refine WpC.regionL ?_
  refine L.move hF rfl rfl rfl ?_
  obtain ⟨r3, hr3, H⟩ := bindS H
  refine L.call [false, false] [] [0] 5 hF rfl rfl rfl ent98 rfl rfl rfl rfl rfl (Fspec_l1Once_gives k  (15 : Int) o0 r3 hr3) rfl ?_
  refine L.nil ?_
  refine WpC.cond rfl (fun hc => ?_) (fun hc => ?_)
  · replace H := condT hc H
    refine WpC.seq ?_
    refine WpC.regionL ?_
    refine L.move hF rfl rfl rfl ?_
    refine L.buildSlice (e := eI) 9 ([(-1 : Int), (256 : Int), (1000 : Int)] : List Int) Try.underlying77 info3 rfl rfl rfl hF rfl rfl rfl rfl rfl rfl rfl rfl ?_
    obtain ⟨r4, hr4, H⟩ := bindS H
    refine L.call [false, false] [9] [0] 10 hF rfl rfl rfl ent105 rfl rfl rfl rfl rfl (Fspec_l1PickInt_gives k false ([(-1 : Int), (256 : Int), (1000 : Int)] : List Int) r3.2 r4 hr4) rfl ?_
    refine L.assign hF rfl rfl rfl ?_
    refine L.nil ?_
    refine WpC.ret ?_
    cases H
    exact Leaves.ret rfl rfl rfl ⟨rfl, rfl⟩
  · replace H := condF hc H
    refine WpC.skip ?_
    refine WpC.seq ?_
    refine WpC.regionL ?_
    refine L.move hF rfl rfl rfl ?_
    obtain ⟨r5, hr5, H⟩ := bindS H
    refine L.call [false, false] [] [0] 9 hF rfl rfl rfl ent97 rfl rfl rfl rfl rfl (Fspec_l1Below_gives k  (256 : Int) r3.2 r5 hr5) rfl ?_
    refine L.assign hF rfl rfl rfl ?_
    refine L.nil ?_
    refine WpC.ret ?_
    cases H
    exact Leaves.ret rfl rfl rfl ⟨rfl, rfl⟩
/-! ### Fspec_l1In -/
def Fspec_l1In (k : Nat) (a0 : Int) (a1 : Int) (a2 : Int) : Option Bool := cond (decide (a0 ≥ a1)) (some (decide (a0 ≤ a2))) (some false)
theorem ent92 : Enters Try.prog 92 := ⟨Try.f92, Try.func92, rfl, by decide⟩
set_option maxHeartbeats 8000000 in
set_option maxRecDepth 100000 in
theorem Fspec_l1In_gives (k : Nat) (a0 : Int) (a1 : Int) (a2 : Int) (r : Bool) (H : Fspec_l1In k a0 a1 a2 = some r) : Gives Try.prog 92 [V.one (cI a0), V.one (cI a1), V.one (cI a2)] [] [V.one (cL r)] [] := by
  refine Gives.intro Try.func92 rfl rfl rfl rfl ?_
  intro F hF hm
  unfold Fspec_l1In at H
  obtain ⟨K, hK⟩ : ∃ K, k ≤ K := ⟨k, Nat.le_refl k⟩
  refine WpC.seq ?_
  refine WpC.regionL ?_
  refine L.assign hF rfl rfl rfl ?_
  refine L.nil ?_
  refine WpC.seq ?_
  refine WpC.regionL ?_
  refine L.move hF rfl rfl rfl ?_
  refine L.move hF rfl rfl rfl ?_
  refine L.bin hF rfl rfl rfl rfl rfl rfl ?_
  refine L.move hF rfl rfl rfl ?_
  refine L.split (fun hc => ?_) (fun hc => ?_)
  · replace H := condT hc H
    refine L.move hF rfl rfl rfl ?_
    refine L.move hF rfl rfl rfl ?_
    refine L.bin hF rfl rfl rfl rfl rfl rfl ?_
    refine L.pick hF rfl rfl rfl rfl ?_
    refine L.assign hF rfl rfl rfl ?_
    refine L.nil ?_
    refine WpC.ret ?_
    cases H
    exact Leaves.ret rfl rfl rfl ⟨rfl, rfl⟩
  · replace H := condF hc H
    refine L.off hF rfl rfl ?_
    refine L.off hF rfl rfl ?_
    refine L.off hF rfl rfl ?_
    refine L.pick hF rfl rfl rfl rfl ?_
    refine L.assign hF rfl rfl rfl ?_
    refine L.nil ?_
    refine WpC.ret ?_
    cases H
    exact Leaves.ret rfl rfl rfl ⟨rfl, rfl⟩
/-! ### Fspec_FlagsOk -/
def Fspec_FlagsOk (k : Nat) (a0 : Int) : Option Bool := (Fspec_l1In k a0 (0 : Int) (255 : Int)).bind fun r1 => some r1
theorem ent100 : Enters Try.prog 100 := ⟨Try.f100, Try.func100, rfl, by decide⟩
set_option maxHeartbeats 8000000 in
set_option maxRecDepth 100000 in
theorem Fspec_FlagsOk_gives (k : Nat) (a0 : Int) (r : Bool) (H : Fspec_FlagsOk k a0 = some r) : Gives Try.prog 100 [V.one (cI a0)] [] [V.one (cL r)] [] := by
  refine Gives.intro Try.func100 rfl rfl rfl rfl ?_
  intro F hF hm
  unfold Fspec_FlagsOk at H
  obtain ⟨K, hK⟩ : ∃ K, k ≤ K := ⟨k, Nat.le_refl k⟩
  refine WpC.seq ?_
  refine WpC.regionL ?_
  refine L.assign hF rfl rfl rfl ?_
  refine L.nil ?_
  refine WpC.seq ?_
  refine WpC.regionL ?_
  refine L.move hF rfl rfl rfl ?_
  obtain ⟨r1, hr1, H⟩ := bindS H
  refine L.call [false, false, false] [] [] 1 hF rfl rfl rfl ent92 rfl rfl rfl rfl rfl (Fspec_l1In_gives k  a0 (0 : Int) (255 : Int) r1 hr1) rfl ?_
  refine L.assign hF rfl rfl rfl ?_
  refine L.nil ?_
  refine WpC.ret ?_
  cases H
  exact Leaves.ret rfl rfl rfl ⟨rfl, rfl⟩
/-! ### Fspec_l15Has -/
def Fspec_l15Has (k : Nat) (a0 : Int) (a1 : Int) : Option Bool := cond (!(a1 == 0)) (some ((Int.tmod (IntKind.i64.wrap (Int.tdiv a0 a1)) (2 : Int)) == (1 : Int))) none
theorem ent101 : Enters Try.prog 101 := ⟨Try.f101, Try.func101, rfl, by decide⟩
set_option maxHeartbeats 8000000 in
set_option maxRecDepth 100000 in
theorem Fspec_l15Has_gives (k : Nat) (a0 : Int) (a1 : Int) (r : Bool) (H : Fspec_l15Has k a0 a1 = some r) : Gives Try.prog 101 [V.one (cI a0), V.one (cI a1)] [] [V.one (cL r)] [] := by
  refine Gives.intro Try.func101 rfl rfl rfl rfl ?_
  intro F hF hm
  unfold Fspec_l15Has at H
  obtain ⟨K, hK⟩ : ∃ K, k ≤ K := ⟨k, Nat.le_refl k⟩
  refine WpC.seq ?_
  refine WpC.regionL ?_
  refine L.assign hF rfl rfl rfl ?_
  refine L.nil ?_
  refine WpC.seq ?_
  refine WpC.regionL ?_
  refine L.move hF rfl rfl rfl ?_
  refine L.move hF rfl rfl rfl ?_
  obtain ⟨h1, H⟩ := condG H
  refine L.quo hF rfl rfl rfl rfl (by simpa using h1) ?_
  refine L.rem hF rfl rfl rfl rfl (by decide) ?_
  refine L.bin hF rfl rfl rfl rfl rfl rfl ?_
  refine L.assign hF rfl rfl rfl ?_
  refine L.nil ?_
  refine WpC.ret ?_
  cases H
  exact Leaves.ret rfl rfl rfl ⟨rfl, rfl⟩
/-! ### Fspec_ShowFlags -/
def Fspec_ShowFlags.j14 (cl12 : Int → (List UInt8) → Int → Int → Option (List UInt8)) (k : Nat) (v126 : Int) (v127 : List UInt8) (v128 : Int) (v129 : Int) : Option (List UInt8) := cl12 v126 v127 (IntKind.i64.wrap (v128 * (2 : Int))) (IntKind.i64.wrap (v129 + (1 : Int)))
def Fspec_ShowFlags.l12 : Nat → Int → (List UInt8) → Int → Int → Option (List UInt8)
  | 0, _, _, _, _ => none
  | k12 + 1, v109, v110, v111, v112 => cond (decide (v112 < (([102, 112, 114, 100, 105, 73, 70, 80] : List UInt8).length : Int))) ((Fspec_l15Has k12 v109 v111).bind fun r130 => cond r130 ((cut? ([102, 112, 114, 100, 105, 73, 70, 80] : List UInt8) v112 (IntKind.i64.wrap (v112 + (1 : Int)))).bind fun b131 => cond (decide (v110.length + b131.length ≤ 9223372036854775807)) (Fspec_ShowFlags.j14 (Fspec_ShowFlags.l12 k12) k12 v109 (v110 ++ b131) v111 v112) none) (Fspec_ShowFlags.j14 (Fspec_ShowFlags.l12 k12) k12 v109 v110 v111 v112)) (cond (v110 == ([] : List UInt8)) (some ([45] : List UInt8)) (some v110))
def Fspec_ShowFlags (k : Nat) (a0 : Int) : Option (List UInt8) := (Fspec_FlagsOk k a0).bind fun r2 => cond (!r2) (some ([] : List UInt8)) (Fspec_ShowFlags.l12 k a0 ([] : List UInt8) (1 : Int) (0 : Int))
theorem ent102 : Enters Try.prog 102 := ⟨Try.f102, Try.func102, rfl, by decide⟩
set_option maxHeartbeats 8000000 in
set_option maxRecDepth 100000 in
theorem Fspec_ShowFlags_gives (k : Nat) (a0 : Int) (r : List UInt8) (H : Fspec_ShowFlags k a0 = some r) : Gives Try.prog 102 [V.one (cI a0)] [] [V.one (cS r)] [] := by
  refine Gives.intro Try.func102 rfl rfl rfl rfl ?_
  intro F hF hm
  unfold Fspec_ShowFlags at H
  obtain ⟨K, hK⟩ : ∃ K, k ≤ K := ⟨k, Nat.le_refl k⟩
  refine WpC.seq ?_
  refine WpC.regionL ?_
  refine L.assign hF rfl rfl rfl ?_
  refine L.nil ?_
  refine WpC.seq ?_
  refine WpC.seq ?_
  refine WpC.regionL ?_
  refine L.move hF rfl rfl rfl ?_
  obtain ⟨r2, hr2, H⟩ := bindS H
  refine L.call [false] [] [] 1 hF rfl rfl rfl ent100 rfl rfl rfl rfl rfl (Fspec_FlagsOk_gives k  a0 r2 hr2) rfl ?_
  refine L.not hF rfl rfl rfl ?_
  refine L.nil ?_
  refine WpC.cond rfl (fun hc => ?_) (fun hc => ?_)
  · replace H := condT hc H
    refine WpC.seq ?_
    refine WpC.regionL ?_
    refine L.assign hF rfl rfl rfl ?_
    refine L.nil ?_
    refine WpC.ret ?_
    cases H
    exact Leaves.ret rfl rfl rfl ⟨rfl, rfl⟩
  · replace H := condF hc H
    refine WpC.skip ?_
    refine WpC.seq ?_
    refine WpC.regionL ?_
    refine L.assign hF rfl rfl rfl ?_
    refine L.nil ?_
    refine WpC.seq ?_
    refine WpC.regionL ?_
    refine L.assign hF rfl rfl rfl ?_
    refine L.nil ?_
    refine WpC.seq ?_
    refine WpC.regionL ?_
    refine L.assign hF rfl rfl rfl ?_
    refine L.nil ?_
    refine WpC.seq ?_
    refine WpC.seq ?_
    refine WpC.regionL ?_
    refine L.assign hF rfl rfl rfl ?_
    refine L.nil ?_
    refine WpC.block ?_
    refine WpC.loopL (P := Try.prog) (fun n σ => ∃ v109 : Int, ∃ v110 : List UInt8, ∃ v111 : Int, ∃ v112 : Int, n ≤ K ∧ Fspec_ShowFlags.l12 n v109 v110 v111 v112 = some r ∧ σ = mkSt [(0, one (cI v109)), (3, one (cS ([102, 112, 114, 100, 105, 73, 70, 80] : List UInt8))), (4, one (cS v110)), (5, one (cI v111)), (6, one (cI v112))] [] [] 0) k ⟨_, ⟨a0, ([] : List UInt8), (1 : Int), (0 : Int), by omega, H, rfl⟩, Le.mk [] hm rfl ⟨⟨_, rfl, rfl⟩, ⟨_, rfl, rfl⟩, ⟨_, rfl, rfl⟩, ⟨_, rfl, rfl⟩, ⟨_, rfl, rfl⟩, trivial⟩ trivial trivial⟩ ?_
    clear H
    rintro k12 _ ⟨v109, v110, v111, v112, hk12, H, rfl⟩
    cases k12 with
    | zero => cases H
    | succ k12 =>
      rw [Fspec_ShowFlags.l12] at H
      refine WpC.seq ?_
      refine WpC.seq ?_
      refine WpC.regionL ?_
      refine L.move hF rfl rfl rfl ?_
      refine L.move hF rfl rfl rfl ?_
      refine L.lenS Try.underlying9 hF rfl rfl rfl ?_
      refine L.bin hF rfl rfl rfl rfl rfl rfl ?_
      refine L.nil ?_
      refine WpC.cond rfl (fun hc => ?_) (fun hc => ?_)
      · replace H := condT hc H
        refine WpC.skip ?_
        refine WpC.seq ?_
        refine WpC.block ?_
        refine WpC.join (fun σ => ∃ kj14 : Nat, ∃ v126 : Int, ∃ v127 : List UInt8, ∃ v128 : Int, ∃ v129 : Int, kj14 ≤ K ∧ Fspec_ShowFlags.j14 (Fspec_ShowFlags.l12 k12) kj14 v126 v127 v128 v129 = some r ∧ σ = mkSt [(0, one (cI v126)), (3, one (cS ([102, 112, 114, 100, 105, 73, 70, 80] : List UInt8))), (4, one (cS v127)), (5, one (cI v128)), (6, one (cI v129))] [] [] 0) ?_ ?_
        · rintro _ ⟨kj14, v126, v127, v128, v129, hkj14, H, rfl⟩
          unfold Fspec_ShowFlags.j14 at H
          refine WpC.regionL ?_
          refine L.move hF rfl rfl rfl ?_
          refine L.bin hF rfl rfl rfl rfl rfl rfl ?_
          refine L.assign hF rfl rfl rfl ?_
          refine L.nil ?_
          refine WpC.regionL ?_
          refine L.move hF rfl rfl rfl ?_
          refine L.bin hF rfl rfl rfl rfl rfl rfl ?_
          refine L.assign hF rfl rfl rfl ?_
          refine L.nil ?_
          exact ⟨k12, _, by omega, ⟨v126, v127, (IntKind.i64.wrap (v128 * (2 : Int))), (IntKind.i64.wrap (v129 + (1 : Int))), by omega, H, rfl⟩, Le.mk [] hm rfl ⟨⟨_, rfl, rfl⟩, ⟨_, rfl, rfl⟩, ⟨_, rfl, rfl⟩, ⟨_, rfl, rfl⟩, ⟨_, rfl, rfl⟩, trivial⟩ trivial trivial⟩
        · refine WpC.seq ?_
          refine WpC.regionL ?_
          refine L.move hF rfl rfl rfl ?_
          refine L.move hF rfl rfl rfl ?_
          obtain ⟨r130, hr130, H⟩ := bindS H
          refine L.call [false, false] [] [] 0 hF rfl rfl rfl ent101 rfl rfl rfl rfl rfl (Fspec_l15Has_gives k12  v109 v111 r130 hr130) rfl ?_
          refine L.nil ?_
          refine WpC.cond rfl (fun hc => ?_) (fun hc => ?_)
          · replace H := condT hc H
            refine WpC.regionL ?_
            refine L.move hF rfl rfl rfl ?_
            refine L.move hF rfl rfl rfl ?_
            refine L.move hF rfl rfl rfl ?_
            refine L.move hF rfl rfl rfl ?_
            refine L.bin hF rfl rfl rfl rfl rfl rfl ?_
            obtain ⟨b131, hb131, H⟩ := bindS H
            refine L.cutS Try.underlying9 hF rfl rfl rfl rfl rfl hb131 ?_
            obtain ⟨h132, H⟩ := condG H
            refine L.catS hF rfl rfl rfl rfl (of_decide_eq_true h132) ?_
            refine L.assign hF rfl rfl rfl ?_
            refine L.nil ?_
            exact ⟨_, ⟨k12, v109, (v110 ++ b131), v111, v112, by omega, H, rfl⟩, Le.mk [] hm rfl ⟨⟨_, rfl, rfl⟩, ⟨_, rfl, rfl⟩, ⟨_, rfl, rfl⟩, ⟨_, rfl, rfl⟩, ⟨_, rfl, rfl⟩, trivial⟩ trivial trivial⟩
          · replace H := condF hc H
            refine WpC.skip ?_
            exact ⟨_, ⟨k12, v109, v110, v111, v112, by omega, H, rfl⟩, Le.mk [] hm rfl ⟨⟨_, rfl, rfl⟩, ⟨_, rfl, rfl⟩, ⟨_, rfl, rfl⟩, ⟨_, rfl, rfl⟩, ⟨_, rfl, rfl⟩, trivial⟩ trivial trivial⟩
      · replace H := condF hc H
        refine WpC.exit ?_
        refine WpC.seq ?_
        refine WpC.seq ?_
        refine WpC.regionL ?_
        refine L.move hF rfl rfl rfl ?_
        refine L.binS hF rfl rfl rfl rfl rfl ?_
        refine L.nil ?_
        refine WpC.cond rfl (fun hc => ?_) (fun hc => ?_)
        · replace H := condT hc H
          refine WpC.seq ?_
          refine WpC.regionL ?_
          refine L.assign hF rfl rfl rfl ?_
          refine L.nil ?_
          refine WpC.ret ?_
          cases H
          exact Leaves.ret rfl rfl rfl ⟨rfl, rfl⟩
        · replace H := condF hc H
          refine WpC.skip ?_
          refine WpC.seq ?_
          refine WpC.regionL ?_
          refine L.move hF rfl rfl rfl ?_
          refine L.assign hF rfl rfl rfl ?_
          refine L.nil ?_
          refine WpC.ret ?_
          cases H
          exact Leaves.ret rfl rfl rfl ⟨rfl, rfl⟩
/-! ### Fspec_l1Text -/
def Fspec_l1Text.j26 (cl22 : (List UInt8) → Int → Int → (List UInt8) → Int → Int → Option (List UInt8 × Tspec_l1Cur)) (k : Nat) (v214 : List UInt8) (v215 : Int) (v216 : Int) (v217 : Int) (v218 : List UInt8) (v219 : Int) (v220 : Int) : Option (List UInt8 × Tspec_l1Cur) := cond (decide ((2 * (v214.length + ([(ofI v217)] : List UInt8).length) + 192) * 1 ≤ 281474976710656)) (cl22 (v214 ++ ([(ofI v217)] : List UInt8)) v215 (IntKind.i64.wrap (v216 - (1 : Int))) v218 v219 v220) none
def Fspec_l1Text.j25 (cl22 : (List UInt8) → Int → Int → (List UInt8) → Int → Int → Option (List UInt8 × Tspec_l1Cur)) (k : Nat) (v207 : List UInt8) (v208 : Int) (v209 : Int) (v210 : Int) (v211 : List UInt8) (v212 : Int) (v213 : Int) : Option (List UInt8 × Tspec_l1Cur) := cond (v208 == (2 : Int)) (Fspec_l1Text.j26 cl22 k v207 v208 v209 (IntKind.i64.wrap ((97 : Int) + (Int.tmod v210 (4 : Int)))) v211 v212 v213) (Fspec_l1Text.j26 cl22 k v207 v208 v209 v210 v211 v212 v213)
def Fspec_l1Text.l22 : Nat → (List UInt8) → Int → Int → (List UInt8) → Int → Int → Option (List UInt8 × Tspec_l1Cur)
  | 0, _, _, _, _, _, _ => none
  | k22 + 1, v184, v185, v186, v187, v188, v189 => cond (decide (v186 > (0 : Int))) ((Fspec_l1Byte k22 (⟨v187, v188, v189⟩ : Tspec_l1Cur)).bind fun r206 => cond (v185 == (1 : Int)) (Fspec_l1Text.j25 (Fspec_l1Text.l22 k22) k22 v184 v185 v186 (Int.tmod r206.1 (2 : Int)) r206.2.b r206.2.i r206.2.h) (Fspec_l1Text.j25 (Fspec_l1Text.l22 k22) k22 v184 v185 v186 r206.1 r206.2.b r206.2.i r206.2.h)) (some (v184, (⟨v187, v188, v189⟩ : Tspec_l1Cur)))
def Fspec_l1Text (k : Nat) (a1 : Int) (o0 : Tspec_l1Cur) : Option (List UInt8 × Tspec_l1Cur) := (Fspec_l1Below k (4 : Int) o0).bind fun r1 => (Fspec_l1Below k (IntKind.i64.wrap (a1 + (1 : Int))) r1.2).bind fun r112 => Fspec_l1Text.l22 k ([] : List UInt8) r1.1 r112.1 r112.2.b r112.2.i r112.2.h
theorem ent149 : Enters Try.prog 149 := ⟨Try.f149, Try.func149, rfl, by decide⟩
set_option maxHeartbeats 8000000 in
set_option maxRecDepth 100000 in
theorem Fspec_l1Text_gives (k : Nat) (a1 : Int) (o0 : Tspec_l1Cur) (r : List UInt8 × Tspec_l1Cur) (H : Fspec_l1Text k a1 o0 = some r) : Gives Try.prog 149 [V.one (Cell.ptr 0 0), V.one (cI a1)] [[Cell.sl true (List.map eB o0.b), cI o0.i, cI o0.h]] [V.one (cS r.1)] [[Cell.sl true (List.map eB r.2.b), cI r.2.i, cI r.2.h]] := by
  refine Gives.intro Try.func149 rfl rfl rfl rfl ?_
  intro F hF hm
  unfold Fspec_l1Text at H
  obtain ⟨K, hK⟩ : ∃ K, k ≤ K := ⟨k, Nat.le_refl k⟩
  refine WpC.seq ?_
  refine WpC.regionL ?_
  refine L.assign hF rfl rfl rfl ?_
  refine L.nil ?_
  refine WpC.seq ?_
  refine WpC.regionL ?_
  refine L.buildSlice (e := eB) 6 ([] : List UInt8) Try.underlying35 info5 rfl rfl rfl hF rfl rfl rfl rfl rfl rfl rfl rfl ?_
  refine L.assign hF rfl rfl rfl ?_
  refine L.nil ?_
  refine WpC.seq ?_
  refine WpC.regionL ?_
  refine L.move hF rfl rfl rfl ?_
  obtain ⟨r1, hr1, H⟩ := bindS H
  refine L.call [false, false] [] [0] 7 hF rfl rfl rfl ent97 rfl rfl rfl rfl rfl (Fspec_l1Below_gives k  (4 : Int) o0 r1 hr1) rfl ?_
  refine L.assign hF rfl rfl rfl ?_
  refine L.nil ?_
  refine WpC.seq ?_
  refine WpC.seq ?_
  refine WpC.regionL ?_
  refine L.move hF rfl rfl rfl ?_
  refine L.move hF rfl rfl rfl ?_
  refine L.bin hF rfl rfl rfl rfl rfl rfl ?_
  obtain ⟨r112, hr112, H⟩ := bindS H
  refine L.call [false, false] [] [0] 11 hF rfl rfl rfl ent97 rfl rfl rfl rfl rfl (Fspec_l1Below_gives k  (IntKind.i64.wrap (a1 + (1 : Int))) r1.2 r112 hr112) rfl ?_
  refine L.assign hF rfl rfl rfl ?_
  refine L.nil ?_
  refine WpC.block ?_
  refine WpC.loopL (P := Try.prog) (fun n σ => ∃ v184 : List UInt8, ∃ v185 : Int, ∃ v186 : Int, ∃ v187 : List UInt8, ∃ v188 : Int, ∃ v189 : Int, n ≤ K ∧ Fspec_l1Text.l22 n v184 v185 v186 v187 v188 v189 = some r ∧ σ = mkSt [(0, one (Cell.ptr 0 0)), (5, one (Cell.own 1)), (6, one (cI v185)), (7, one (cI v186))] [(1, ⟨1, List.map eB v184⟩)] [(0, [Cell.sl true (List.map eB v187), cI v188, cI v189])] 2) k ⟨_, ⟨([] : List UInt8), r1.1, r112.1, r112.2.b, r112.2.i, r112.2.h, by omega, H, rfl⟩, Le.mk [(0, 0), (1, 6)] hm rfl ⟨⟨_, rfl, rfl⟩, ⟨_, rfl, rfl⟩, ⟨_, rfl, rfl⟩, ⟨_, rfl, rfl⟩, trivial⟩ ⟨⟨_, rfl, rfl⟩, trivial⟩ ⟨⟨_, _, rfl, rfl, rfl⟩, trivial⟩⟩ ?_
  clear H
  rintro k22 _ ⟨v184, v185, v186, v187, v188, v189, hk22, H, rfl⟩
  cases k22 with
  | zero => cases H
  | succ k22 =>
    rw [Fspec_l1Text.l22] at H
    refine WpC.seq ?_
    refine WpC.seq ?_
    refine WpC.regionL ?_
    refine L.move hF rfl rfl rfl ?_
    refine L.bin hF rfl rfl rfl rfl rfl rfl ?_
    refine L.nil ?_
    refine WpC.cond rfl (fun hc => ?_) (fun hc => ?_)
    · replace H := condT hc H
      refine WpC.skip ?_
      refine WpC.seq ?_
      refine WpC.block ?_
      refine WpC.seq ?_
      refine WpC.regionL ?_
      refine L.move hF rfl rfl rfl ?_
      obtain ⟨r206, hr206, H⟩ := bindS H
      refine L.call [false] [] [0] 2 hF rfl rfl rfl ent148 rfl rfl rfl rfl rfl (Fspec_l1Byte_gives k22  (⟨v187, v188, v189⟩ : Tspec_l1Cur) r206 hr206) rfl ?_
      refine L.assign hF rfl rfl rfl ?_
      refine L.nil ?_
      refine WpC.join (fun σ => ∃ kj25 : Nat, ∃ v207 : List UInt8, ∃ v208 : Int, ∃ v209 : Int, ∃ v210 : Int, ∃ v211 : List UInt8, ∃ v212 : Int, ∃ v213 : Int, kj25 ≤ K ∧ Fspec_l1Text.j25 (Fspec_l1Text.l22 k22) kj25 v207 v208 v209 v210 v211 v212 v213 = some r ∧ σ = mkSt [(0, one (Cell.ptr 0 0)), (5, one (Cell.own 1)), (6, one (cI v208)), (7, one (cI v209)), (8, one (cI v210))] [(1, ⟨1, List.map eB v207⟩)] [(0, [Cell.sl true (List.map eB v211), cI v212, cI v213])] 2) ?_ ?_
      · rintro _ ⟨kj25, v207, v208, v209, v210, v211, v212, v213, hkj25, H, rfl⟩
        unfold Fspec_l1Text.j25 at H
        refine WpC.join (fun σ => ∃ kj26 : Nat, ∃ v214 : List UInt8, ∃ v215 : Int, ∃ v216 : Int, ∃ v217 : Int, ∃ v218 : List UInt8, ∃ v219 : Int, ∃ v220 : Int, kj26 ≤ K ∧ Fspec_l1Text.j26 (Fspec_l1Text.l22 k22) kj26 v214 v215 v216 v217 v218 v219 v220 = some r ∧ σ = mkSt [(0, one (Cell.ptr 0 0)), (5, one (Cell.own 1)), (6, one (cI v215)), (7, one (cI v216)), (8, one (cI v217))] [(1, ⟨1, List.map eB v214⟩)] [(0, [Cell.sl true (List.map eB v218), cI v219, cI v220])] 2) ?_ ?_
        · rintro _ ⟨kj26, v214, v215, v216, v217, v218, v219, v220, hkj26, H, rfl⟩
          unfold Fspec_l1Text.j26 at H
          refine WpC.regionL ?_
          refine L.move hF rfl rfl rfl ?_
          refine L.move hF rfl rfl rfl ?_
          refine L.toB Try.underlying3 Try.underlying5 hF rfl rfl rfl ?_
          refine L.buildSlice (e := eB) 2 ([(ofI v217)] : List UInt8) Try.underlying35 info5 rfl rfl rfl hF rfl rfl rfl rfl rfl rfl rfl rfl ?_
          obtain ⟨h221, H⟩ := condG H
          refine L.append (xs := v214) (ys := ([(ofI v217)] : List UInt8)) (e := eB) 3 Try.underlying35 info5 rfl rfl hF rfl rfl rfl rfl rfl rfl rfl rfl (fun _ => rfl) (fun _ _ h1 h2 => by cases h1; cases h2; rfl) ⟨_, Try.underlying35⟩ (of_decide_eq_true h221) rfl rfl ?_
          refine L.assign hF rfl rfl rfl ?_
          refine L.nil ?_
          refine WpC.regionL ?_
          refine L.move hF rfl rfl rfl ?_
          refine L.bin hF rfl rfl rfl rfl rfl rfl ?_
          refine L.assign hF rfl rfl rfl ?_
          refine L.nil ?_
          exact ⟨k22, _, by omega, ⟨(v214 ++ ([(ofI v217)] : List UInt8)), v215, (IntKind.i64.wrap (v216 - (1 : Int))), v218, v219, v220, by omega, H, rfl⟩, Le.mk [(0, 0), (1, 3)] hm rfl ⟨⟨_, rfl, rfl⟩, ⟨_, rfl, rfl⟩, ⟨_, rfl, rfl⟩, ⟨_, rfl, rfl⟩, trivial⟩ ⟨⟨_, rfl, rfl⟩, trivial⟩ ⟨⟨_, _, rfl, rfl, rfl⟩, trivial⟩⟩
        · refine WpC.seq ?_
          refine WpC.regionL ?_
          refine L.move hF rfl rfl rfl ?_
          refine L.bin hF rfl rfl rfl rfl rfl rfl ?_
          refine L.nil ?_
          refine WpC.cond rfl (fun hc => ?_) (fun hc => ?_)
          · replace H := condT hc H
            refine WpC.regionL ?_
            refine L.move hF rfl rfl rfl ?_
            refine L.rem hF rfl rfl rfl rfl (by decide) ?_
            refine L.bin hF rfl rfl rfl rfl rfl rfl ?_
            refine L.assign hF rfl rfl rfl ?_
            refine L.nil ?_
            exact ⟨_, ⟨kj25, v207, v208, v209, (IntKind.i64.wrap ((97 : Int) + (Int.tmod v210 (4 : Int)))), v211, v212, v213, by omega, H, rfl⟩, Le.mk [(0, 0), (1, 1)] hm rfl ⟨⟨_, rfl, rfl⟩, ⟨_, rfl, rfl⟩, ⟨_, rfl, rfl⟩, ⟨_, rfl, rfl⟩, ⟨_, rfl, rfl⟩, trivial⟩ ⟨⟨_, rfl, rfl⟩, trivial⟩ ⟨⟨_, _, rfl, rfl, rfl⟩, trivial⟩⟩
          · replace H := condF hc H
            refine WpC.skip ?_
            exact ⟨_, ⟨kj25, v207, v208, v209, v210, v211, v212, v213, by omega, H, rfl⟩, Le.mk [(0, 0), (1, 1)] hm rfl ⟨⟨_, rfl, rfl⟩, ⟨_, rfl, rfl⟩, ⟨_, rfl, rfl⟩, ⟨_, rfl, rfl⟩, ⟨_, rfl, rfl⟩, trivial⟩ ⟨⟨_, rfl, rfl⟩, trivial⟩ ⟨⟨_, _, rfl, rfl, rfl⟩, trivial⟩⟩
      · refine WpC.seq ?_
        refine WpC.regionL ?_
        refine L.move hF rfl rfl rfl ?_
        refine L.bin hF rfl rfl rfl rfl rfl rfl ?_
        refine L.nil ?_
        refine WpC.cond rfl (fun hc => ?_) (fun hc => ?_)
        · replace H := condT hc H
          refine WpC.regionL ?_
          refine L.move hF rfl rfl rfl ?_
          refine L.rem hF rfl rfl rfl rfl (by decide) ?_
          refine L.assign hF rfl rfl rfl ?_
          refine L.nil ?_
          exact ⟨_, ⟨k22, v184, v185, v186, (Int.tmod r206.1 (2 : Int)), r206.2.b, r206.2.i, r206.2.h, by omega, H, rfl⟩, Le.mk [(0, 0), (1, 1)] hm rfl ⟨⟨_, rfl, rfl⟩, ⟨_, rfl, rfl⟩, ⟨_, rfl, rfl⟩, ⟨_, rfl, rfl⟩, ⟨_, rfl, rfl⟩, trivial⟩ ⟨⟨_, rfl, rfl⟩, trivial⟩ ⟨⟨_, _, rfl, rfl, rfl⟩, trivial⟩⟩
        · replace H := condF hc H
          refine WpC.skip ?_
          exact ⟨_, ⟨k22, v184, v185, v186, r206.1, r206.2.b, r206.2.i, r206.2.h, by omega, H, rfl⟩, Le.mk [(0, 0), (1, 1)] hm rfl ⟨⟨_, rfl, rfl⟩, ⟨_, rfl, rfl⟩, ⟨_, rfl, rfl⟩, ⟨_, rfl, rfl⟩, ⟨_, rfl, rfl⟩, trivial⟩ ⟨⟨_, rfl, rfl⟩, trivial⟩ ⟨⟨_, _, rfl, rfl, rfl⟩, trivial⟩⟩
    · replace H := condF hc H
      refine WpC.exit ?_
      refine WpC.seq ?_
      refine WpC.regionL ?_
      refine L.move hF rfl rfl rfl ?_
      refine L.b2s (xs := v184) Try.underlying35 Try.underlying5 Try.underlying9 hF rfl rfl rfl rfl ?_
      refine L.assign hF rfl rfl rfl ?_
      refine L.nil ?_
      refine WpC.ret ?_
      cases H
      exact Leaves.ret rfl rfl rfl ⟨rfl, rfl⟩
/-! ### Fspec_l1Spoil -/
def Fspec_l1Spoil (k : Nat) (a1 : List UInt8) (o0 : Tspec_l1Cur) : Option (List UInt8 × Tspec_l1Cur) := cond ((a1.length : Int) == (0 : Int)) ((Fspec_l1Text k (3 : Int) o0).bind fun r2 => some (r2.1, r2.2)) ((Fspec_l1Below k (a1.length : Int) o0).bind fun r3 => (Fspec_l1Below k (4 : Int) r3.2).bind fun r14 => cond (r14.1 == (0 : Int)) ((cut? a1 (0 : Int) r3.1).bind fun b15 => (cut? a1 (IntKind.i64.wrap (r3.1 + (1 : Int))) (a1.length : Int)).bind fun b16 => cond (decide (b15.length + b16.length ≤ 9223372036854775807)) (some ((b15 ++ b16), r14.2)) none) (cond (r14.1 == (1 : Int)) ((cut? a1 (0 : Int) r3.1).bind fun b18 => (Fspec_l1Byte k r14.2).bind fun r19 => cond (decide (b18.length + ([(ofI r19.1)] : List UInt8).length ≤ 9223372036854775807)) ((cut? a1 r3.1 (a1.length : Int)).bind fun b21 => cond (decide ((b18 ++ ([(ofI r19.1)] : List UInt8)).length + b21.length ≤ 9223372036854775807)) (some (((b18 ++ ([(ofI r19.1)] : List UInt8)) ++ b21), r19.2)) none) none) (cond (r14.1 == (2 : Int)) ((cut? a1 (0 : Int) r3.1).bind fun b23 => some (b23, r14.2)) ((cut? a1 (0 : Int) r3.1).bind fun b24 => (at? a1 r3.1).bind fun b25 => (Fspec_l1Below k (255 : Int) r14.2).bind fun r26 => cond (decide (b24.length + ([(ofI (Go.bits .xor .i64 (b25.toNat : Int) (IntKind.i64.wrap ((1 : Int) + r26.1))))] : List UInt8).length ≤ 9223372036854775807)) ((cut? a1 (IntKind.i64.wrap (r3.1 + (1 : Int))) (a1.length : Int)).bind fun b28 => cond (decide ((b24 ++ ([(ofI (Go.bits .xor .i64 (b25.toNat : Int) (IntKind.i64.wrap ((1 : Int) + r26.1))))] : List UInt8)).length + b28.length ≤ 9223372036854775807)) (some (((b24 ++ ([(ofI (Go.bits .xor .i64 (b25.toNat : Int) (IntKind.i64.wrap ((1 : Int) + r26.1))))] : List UInt8)) ++ b28), r26.2)) none) none))))
theorem ent103 : Enters Try.prog 103 := ⟨Try.f103, Try.func103, rfl, by decide⟩
set_option maxHeartbeats 8000000 in
set_option maxRecDepth 100000 in
theorem Fspec_l1Spoil_gives (k : Nat) (a1 : List UInt8) (o0 : Tspec_l1Cur) (r : List UInt8 × Tspec_l1Cur) (H : Fspec_l1Spoil k a1 o0 = some r) : Gives Try.prog 103 [V.one (Cell.ptr 0 0), V.one (cS a1)] [[Cell.sl true (List.map eB o0.b), cI o0.i, cI o0.h]] [V.one (cS r.1)] [[Cell.sl true (List.map eB r.2.b), cI r.2.i, cI r.2.h]] := by
  refine Gives.intro Try.func103 rfl rfl rfl rfl ?_
  intro F hF hm
  unfold Fspec_l1Spoil at H
  obtain ⟨K, hK⟩ : ∃ K, k ≤ K := ⟨k, Nat.le_refl k⟩
  refine WpC.seq ?_
  refine WpC.regionL ?_
  refine L.assign hF rfl rfl rfl ?_
  refine L.nil ?_
  refine WpC.seq ?_
  refine WpC.seq ?_
  refine WpC.regionL ?_
  refine L.move hF rfl rfl rfl ?_
  refine L.lenS Try.underlying9 hF rfl rfl rfl ?_
  refine L.bin hF rfl rfl rfl rfl rfl rfl ?_
  refine L.nil ?_
  refine WpC.cond rfl (fun hc => ?_) (fun hc => ?_)
  · replace H := condT hc H
    refine WpC.seq ?_
    refine WpC.regionL ?_
    refine L.move hF rfl rfl rfl ?_
    obtain ⟨r2, hr2, H⟩ := bindS H
    refine L.call [false, false] [] [0] 6 hF rfl rfl rfl ent149 rfl rfl rfl rfl rfl (Fspec_l1Text_gives k  (3 : Int) o0 r2 hr2) rfl ?_
    refine L.assign hF rfl rfl rfl ?_
    refine L.nil ?_
    refine WpC.ret ?_
    cases H
    exact Leaves.ret rfl rfl rfl ⟨rfl, rfl⟩
  · replace H := condF hc H
    refine WpC.skip ?_
    refine WpC.seq ?_
    refine WpC.regionL ?_
    refine L.move hF rfl rfl rfl ?_
    refine L.move hF rfl rfl rfl ?_
    refine L.lenS Try.underlying9 hF rfl rfl rfl ?_
    obtain ⟨r3, hr3, H⟩ := bindS H
    refine L.call [false, false] [] [0] 6 hF rfl rfl rfl ent97 rfl rfl rfl rfl rfl (Fspec_l1Below_gives k  (a1.length : Int) o0 r3 hr3) rfl ?_
    refine L.assign hF rfl rfl rfl ?_
    refine L.nil ?_
    refine WpC.seq ?_
    refine WpC.seq ?_
    refine WpC.regionL ?_
    refine L.move hF rfl rfl rfl ?_
    obtain ⟨r14, hr14, H⟩ := bindS H
    refine L.call [false, false] [] [0] 10 hF rfl rfl rfl ent97 rfl rfl rfl rfl rfl (Fspec_l1Below_gives k  (4 : Int) r3.2 r14 hr14) rfl ?_
    refine L.nil ?_
    refine WpC.block ?_
    refine WpC.seq ?_
    refine WpC.regionL ?_
    refine L.bin hF rfl rfl rfl rfl rfl rfl ?_
    refine L.assign hF rfl rfl rfl ?_
    refine L.nil ?_
    refine WpC.cond rfl (fun hc => ?_) (fun hc => ?_)
    · replace H := condT hc H
      refine WpC.seq ?_
      refine S.begin mixed (by kernel_rfl) ?_
      refine S.st 0 rfl rfl ((Ca.move).quiet) (fun Q0 k0 => L.move hF rfl rfl rfl (L.nil k0)) ?_
      refine S.st 1 rfl rfl ((Ca.move).quiet) (fun Q0 k0 => L.move hF rfl rfl rfl (L.nil k0)) ?_
      obtain ⟨b15, hb15, H⟩ := bindS H
      refine S.st 2 rfl rfl ((Ca.slice).quiet) (fun Q0 k0 => L.cutS Try.underlying9 hF rfl rfl rfl rfl rfl hb15 (L.nil k0)) ?_
      refine S.st 3 rfl rfl ((Ca.move).quiet) (fun Q0 k0 => L.move hF rfl rfl rfl (L.nil k0)) ?_
      refine S.st 4 rfl rfl ((Ca.move).quiet) (fun Q0 k0 => L.move hF rfl rfl rfl (L.nil k0)) ?_
      refine S.st 5 rfl rfl ((Ca.bin rfl rfl (calm_int _ _ _ _ _ _ _ _)).quiet) (fun Q0 k0 => L.bin hF rfl rfl rfl rfl rfl rfl (L.nil k0)) ?_
      obtain ⟨b16, hb16, H⟩ := bindS H
      refine S.st 6 rfl rfl ((Ca.slice).quiet) (fun Q0 k0 => L.cutS Try.underlying9 hF rfl rfl rfl rfl rfl hb16 (L.nil k0)) ?_
      obtain ⟨h17, H⟩ := condG H
      refine S.st 7 rfl rfl ((Ca.bin rfl rfl (calm_str _ _ _ _ _ _)).quiet) (fun Q0 k0 => L.catS hF rfl rfl rfl rfl (of_decide_eq_true h17) (L.nil k0)) ?_
      refine S.st 8 rfl rfl ((Ca.assign).quiet) (fun Q0 k0 => L.assign hF rfl rfl rfl (L.nil k0)) ?_
      refine S.nil ?_
      refine WpC.ret ?_
      cases H
      exact Leaves.ret rfl rfl rfl ⟨rfl, rfl⟩
    · replace H := condF hc H
      refine WpC.seq ?_
      refine WpC.regionL ?_
      refine L.bin hF rfl rfl rfl rfl rfl rfl ?_
      refine L.assign hF rfl rfl rfl ?_
      refine L.nil ?_
      refine WpC.cond rfl (fun hc => ?_) (fun hc => ?_)
      · replace H := condT hc H
        refine WpC.seq ?_
        obtain ⟨b18, hb18, H⟩ := bindS H
        obtain ⟨r19, hr19, H⟩ := bindS H
        obtain ⟨h20, H⟩ := condG H
        obtain ⟨b21, hb21, H⟩ := bindS H
        obtain ⟨h22, H⟩ := condG H
        refine A.begin mixed rfl rfl ?_
        intro W hI hO
        have n16383 : W 0 #[true, true, true, true, true, true, true, true, true, true, true, true, true, true] (mkSt [(4, one (cS ((b18 ++ ([(ofI r19.1)] : List UInt8)) ++ b21)))] [] [(0, [Cell.sl true (List.map eB r19.2.b), cI r19.2.i, cI r19.2.h])] 1) := by
          refine hI _ _ _ (A.done (by kernel_rfl) ?_)
          refine WpC.ret ?_
          cases H
          exact Leaves.ret rfl rfl rfl ⟨rfl, rfl⟩
        have n8191 : W 1 #[true, true, true, true, true, true, true, true, true, true, true, true, true, false] (mkSt [(4, one (cS ([] : List UInt8))), (41, one (cS ((b18 ++ ([(ofI r19.1)] : List UInt8)) ++ b21)))] [] [(0, [Cell.sl true (List.map eB r19.2.b), cI r19.2.i, cI r19.2.h])] 1) := by
          refine hI _ _ _ ?_
          refine A.take 13 rfl (by kernel_rfl) (by kernel_rfl) (by kernel_rfl) rfl (Ca.assign) (fun Q0 k0 => L.assign hF rfl rfl rfl (L.nil k0)) ?_
          exact A.on (hO _ _ _ n16383) (Le.mk [(0, 0)] hm rfl ⟨⟨_, rfl, rfl⟩, trivial⟩ trivial ⟨⟨_, _, rfl, rfl, rfl⟩, trivial⟩)
        have n4095 : W 2 #[true, true, true, true, true, true, true, true, true, true, true, true, false, false] (mkSt [(4, one (cS ([] : List UInt8))), (37, one (cS (b18 ++ ([(ofI r19.1)] : List UInt8)))), (40, one (cS b21))] [] [(0, [Cell.sl true (List.map eB r19.2.b), cI r19.2.i, cI r19.2.h])] 1) := by
          refine hI _ _ _ ?_
          refine A.take 12 rfl (by kernel_rfl) (by kernel_rfl) (by kernel_rfl) rfl (Ca.bin rfl rfl (calm_str _ _ _ _ _ _)) (fun Q0 k0 => L.catS hF rfl rfl rfl rfl (of_decide_eq_true h22) (L.nil k0)) ?_
          exact A.on (hO _ _ _ n8191) (Le.mk [(0, 0)] hm rfl ⟨⟨_, rfl, rfl⟩, ⟨_, rfl, rfl⟩, trivial⟩ trivial ⟨⟨_, _, rfl, rfl, rfl⟩, trivial⟩)
        have n3839 : W 3 #[true, true, true, true, true, true, true, true, false, true, true, true, false, false] (mkSt [(4, one (cS ([] : List UInt8))), (31, one (cS b18)), (36, one (cS ([(ofI r19.1)] : List UInt8))), (40, one (cS b21))] [] [(0, [Cell.sl true (List.map eB r19.2.b), cI r19.2.i, cI r19.2.h])] 1) := by
          refine hI _ _ _ ?_
          refine A.take 8 rfl (by kernel_rfl) (by kernel_rfl) (by kernel_rfl) rfl (Ca.bin rfl rfl (calm_str _ _ _ _ _ _)) (fun Q0 k0 => L.catS hF rfl rfl rfl rfl (of_decide_eq_true h20) (L.nil k0)) ?_
          exact A.on (hO _ _ _ n4095) (Le.mk [(0, 0)] hm rfl ⟨⟨_, rfl, rfl⟩, ⟨_, rfl, rfl⟩, ⟨_, rfl, rfl⟩, trivial⟩ trivial ⟨⟨_, _, rfl, rfl, rfl⟩, trivial⟩)
        have n3711 : W 4 #[true, true, true, true, true, true, true, false, false, true, true, true, false, false] (mkSt [(4, one (cS ([] : List UInt8))), (31, one (cS b18)), (35, one (Cell.own 1)), (40, one (cS b21))] [(1, ⟨1, List.map eB ([(ofI r19.1)] : List UInt8)⟩)] [(0, [Cell.sl true (List.map eB r19.2.b), cI r19.2.i, cI r19.2.h])] 2) := by
          refine hI _ _ _ ?_
          refine A.all [7] (by kernel_rfl) rfl ⟨⟨_, rfl, ?_⟩, trivial⟩
          · refine L.b2s (xs := ([(ofI r19.1)] : List UInt8)) Try.underlying35 Try.underlying5 Try.underlying9 hF rfl rfl rfl rfl ?_
            refine L.nil ?_
            exact A.on (hO _ _ _ n3839) (Le.mk [(0, 0)] hm rfl ⟨⟨_, rfl, rfl⟩, ⟨_, rfl, rfl⟩, ⟨_, rfl, rfl⟩, ⟨_, rfl, rfl⟩, trivial⟩ trivial ⟨⟨_, _, rfl, rfl, rfl⟩, trivial⟩)
        have n3647 : W 5 #[true, true, true, true, true, true, false, false, false, true, true, true, false, false] (mkSt [(4, one (cS ([] : List UInt8))), (31, one (cS b18)), (34, one (cU (ofI r19.1))), (40, one (cS b21))] [] [(0, [Cell.sl true (List.map eB r19.2.b), cI r19.2.i, cI r19.2.h])] 1) := by
          refine hI _ _ _ ?_
          refine A.all [6] (by kernel_rfl) rfl ⟨⟨_, rfl, ?_⟩, trivial⟩
          · refine L.buildSlice (e := eB) 1 ([(ofI r19.1)] : List UInt8) Try.underlying35 info5 rfl rfl rfl hF rfl rfl rfl rfl rfl rfl rfl rfl ?_
            refine L.nil ?_
            exact A.on (hO _ _ _ n3711) (Le.mk [(0, 0), (1, 1)] hm rfl ⟨⟨_, rfl, rfl⟩, ⟨_, rfl, rfl⟩, ⟨_, rfl, rfl⟩, ⟨_, rfl, rfl⟩, trivial⟩ ⟨⟨_, rfl, rfl⟩, trivial⟩ ⟨⟨_, _, rfl, rfl, rfl⟩, trivial⟩)
        have n3615 : W 6 #[true, true, true, true, true, false, false, false, false, true, true, true, false, false] (mkSt [(4, one (cS ([] : List UInt8))), (31, one (cS b18)), (33, one (cI r19.1)), (40, one (cS b21))] [] [(0, [Cell.sl true (List.map eB r19.2.b), cI r19.2.i, cI r19.2.h])] 1) := by
          refine hI _ _ _ ?_
          refine A.take 5 rfl (by kernel_rfl) (by kernel_rfl) (by kernel_rfl) rfl (Ca.conv Try.underlying3 Try.underlying5 rfl) (fun Q0 k0 => L.toB Try.underlying3 Try.underlying5 hF rfl rfl rfl (L.nil k0)) ?_
          exact A.on (hO _ _ _ n3647) (Le.mk [(0, 0)] hm rfl ⟨⟨_, rfl, rfl⟩, ⟨_, rfl, rfl⟩, ⟨_, rfl, rfl⟩, ⟨_, rfl, rfl⟩, trivial⟩ trivial ⟨⟨_, _, rfl, rfl, rfl⟩, trivial⟩)
        have n3599 : W 7 #[true, true, true, true, false, false, false, false, false, true, true, true, false, false] (mkSt [(4, one (cS ([] : List UInt8))), (31, one (cS b18)), (32, one (Cell.ptr 0 0)), (40, one (cS b21))] [] [(0, [Cell.sl true (List.map eB r14.2.b), cI r14.2.i, cI r14.2.h])] 1) := by
          refine hI _ _ _ ?_
          refine A.all [4] (by kernel_rfl) rfl ⟨⟨_, rfl, ?_⟩, trivial⟩
          · refine L.call [false] [] [0] 1 hF rfl rfl rfl ent148 rfl rfl rfl rfl rfl (Fspec_l1Byte_gives k  r14.2 r19 hr19) rfl ?_
            refine L.nil ?_
            exact A.on (hO _ _ _ n3615) (Le.mk [(0, 0)] hm rfl ⟨⟨_, rfl, rfl⟩, ⟨_, rfl, rfl⟩, ⟨_, rfl, rfl⟩, ⟨_, rfl, rfl⟩, trivial⟩ trivial ⟨⟨_, _, rfl, rfl, rfl⟩, trivial⟩)
        have n1551 : W 8 #[true, true, true, true, false, false, false, false, false, true, true, false, false, false] (mkSt [(4, one (cS ([] : List UInt8))), (31, one (cS b18)), (32, one (Cell.ptr 0 0)), (38, one (cS a1)), (39, one (cI r3.1))] [] [(0, [Cell.sl true (List.map eB r14.2.b), cI r14.2.i, cI r14.2.h])] 1) := by
          refine hI _ _ _ ?_
          refine A.take 11 rfl (by kernel_rfl) (by kernel_rfl) (by kernel_rfl) rfl (Ca.slice) (fun Q0 k0 => L.cutS Try.underlying9 hF rfl rfl rfl rfl rfl hb21 (L.nil k0)) ?_
          exact A.on (hO _ _ _ n3599) (Le.mk [(0, 0)] hm rfl ⟨⟨_, rfl, rfl⟩, ⟨_, rfl, rfl⟩, ⟨_, rfl, rfl⟩, ⟨_, rfl, rfl⟩, trivial⟩ trivial ⟨⟨_, _, rfl, rfl, rfl⟩, trivial⟩)
        have n527 : W 9 #[true, true, true, true, false, false, false, false, false, true, false, false, false, false] (mkSt [(4, one (cS ([] : List UInt8))), (5, one (cI r3.1)), (31, one (cS b18)), (32, one (Cell.ptr 0 0)), (38, one (cS a1))] [] [(0, [Cell.sl true (List.map eB r14.2.b), cI r14.2.i, cI r14.2.h])] 1) := by
          refine hI _ _ _ ?_
          refine A.take 10 rfl (by kernel_rfl) (by kernel_rfl) (by kernel_rfl) rfl (Ca.move) (fun Q0 k0 => L.move hF rfl rfl rfl (L.nil k0)) ?_
          exact A.on (hO _ _ _ n1551) (Le.mk [(0, 0)] hm rfl ⟨⟨_, rfl, rfl⟩, ⟨_, rfl, rfl⟩, ⟨_, rfl, rfl⟩, ⟨_, rfl, rfl⟩, ⟨_, rfl, rfl⟩, trivial⟩ trivial ⟨⟨_, _, rfl, rfl, rfl⟩, trivial⟩)
        have n15 : W 10 #[true, true, true, true, false, false, false, false, false, false, false, false, false, false] (mkSt [(1, one (cS a1)), (4, one (cS ([] : List UInt8))), (5, one (cI r3.1)), (31, one (cS b18)), (32, one (Cell.ptr 0 0))] [] [(0, [Cell.sl true (List.map eB r14.2.b), cI r14.2.i, cI r14.2.h])] 1) := by
          refine hI _ _ _ ?_
          refine A.take 9 rfl (by kernel_rfl) (by kernel_rfl) (by kernel_rfl) rfl (Ca.move) (fun Q0 k0 => L.move hF rfl rfl rfl (L.nil k0)) ?_
          exact A.on (hO _ _ _ n527) (Le.mk [(0, 0)] hm rfl ⟨⟨_, rfl, rfl⟩, ⟨_, rfl, rfl⟩, ⟨_, rfl, rfl⟩, ⟨_, rfl, rfl⟩, ⟨_, rfl, rfl⟩, trivial⟩ trivial ⟨⟨_, _, rfl, rfl, rfl⟩, trivial⟩)
        have n7 : W 11 #[true, true, true, false, false, false, false, false, false, false, false, false, false, false] (mkSt [(0, one (Cell.ptr 0 0)), (1, one (cS a1)), (4, one (cS ([] : List UInt8))), (5, one (cI r3.1)), (31, one (cS b18))] [] [(0, [Cell.sl true (List.map eB r14.2.b), cI r14.2.i, cI r14.2.h])] 1) := by
          refine hI _ _ _ ?_
          refine A.take 3 rfl (by kernel_rfl) (by kernel_rfl) (by kernel_rfl) rfl (Ca.move) (fun Q0 k0 => L.move hF rfl rfl rfl (L.nil k0)) ?_
          exact A.on (hO _ _ _ n15) (Le.mk [(0, 0)] hm rfl ⟨⟨_, rfl, rfl⟩, ⟨_, rfl, rfl⟩, ⟨_, rfl, rfl⟩, ⟨_, rfl, rfl⟩, ⟨_, rfl, rfl⟩, trivial⟩ trivial ⟨⟨_, _, rfl, rfl, rfl⟩, trivial⟩)
        have n3 : W 12 #[true, true, false, false, false, false, false, false, false, false, false, false, false, false] (mkSt [(0, one (Cell.ptr 0 0)), (1, one (cS a1)), (4, one (cS ([] : List UInt8))), (5, one (cI r3.1)), (29, one (cS a1)), (30, one (cI r3.1))] [] [(0, [Cell.sl true (List.map eB r14.2.b), cI r14.2.i, cI r14.2.h])] 1) := by
          refine hI _ _ _ ?_
          refine A.take 2 rfl (by kernel_rfl) (by kernel_rfl) (by kernel_rfl) rfl (Ca.slice) (fun Q0 k0 => L.cutS Try.underlying9 hF rfl rfl rfl rfl rfl hb18 (L.nil k0)) ?_
          exact A.on (hO _ _ _ n7) (Le.mk [(0, 0)] hm rfl ⟨⟨_, rfl, rfl⟩, ⟨_, rfl, rfl⟩, ⟨_, rfl, rfl⟩, ⟨_, rfl, rfl⟩, ⟨_, rfl, rfl⟩, trivial⟩ trivial ⟨⟨_, _, rfl, rfl, rfl⟩, trivial⟩)
        have n1 : W 13 #[true, false, false, false, false, false, false, false, false, false, false, false, false, false] (mkSt [(0, one (Cell.ptr 0 0)), (1, one (cS a1)), (4, one (cS ([] : List UInt8))), (5, one (cI r3.1)), (29, one (cS a1))] [] [(0, [Cell.sl true (List.map eB r14.2.b), cI r14.2.i, cI r14.2.h])] 1) := by
          refine hI _ _ _ ?_
          refine A.take 1 rfl (by kernel_rfl) (by kernel_rfl) (by kernel_rfl) rfl (Ca.move) (fun Q0 k0 => L.move hF rfl rfl rfl (L.nil k0)) ?_
          exact A.on (hO _ _ _ n3) (Le.mk [(0, 0)] hm rfl ⟨⟨_, rfl, rfl⟩, ⟨_, rfl, rfl⟩, ⟨_, rfl, rfl⟩, ⟨_, rfl, rfl⟩, ⟨_, rfl, rfl⟩, ⟨_, rfl, rfl⟩, trivial⟩ trivial ⟨⟨_, _, rfl, rfl, rfl⟩, trivial⟩)
        have n0 : W 14 #[false, false, false, false, false, false, false, false, false, false, false, false, false, false] (mkSt [(0, one (Cell.ptr 0 0)), (1, one (cS a1)), (4, one (cS ([] : List UInt8))), (5, one (cI r3.1))] [] [(0, [Cell.sl true (List.map eB r14.2.b), cI r14.2.i, cI r14.2.h])] 1) := by
          refine hI _ _ _ ?_
          refine A.take 0 rfl (by kernel_rfl) (by kernel_rfl) (by kernel_rfl) rfl (Ca.move) (fun Q0 k0 => L.move hF rfl rfl rfl (L.nil k0)) ?_
          exact A.on (hO _ _ _ n1) (Le.mk [(0, 0)] hm rfl ⟨⟨_, rfl, rfl⟩, ⟨_, rfl, rfl⟩, ⟨_, rfl, rfl⟩, ⟨_, rfl, rfl⟩, ⟨_, rfl, rfl⟩, trivial⟩ trivial ⟨⟨_, _, rfl, rfl, rfl⟩, trivial⟩)
        exact hI _ _ _ (A.on (hO _ _ _ n0) (Le.mk [(0, 0)] hm rfl ⟨⟨_, rfl, rfl⟩, ⟨_, rfl, rfl⟩, ⟨_, rfl, rfl⟩, ⟨_, rfl, rfl⟩, trivial⟩ trivial ⟨⟨_, _, rfl, rfl, rfl⟩, trivial⟩))
      · replace H := condF hc H
        refine WpC.seq ?_
        refine WpC.regionL ?_
        refine L.bin hF rfl rfl rfl rfl rfl rfl ?_
        refine L.assign hF rfl rfl rfl ?_
        refine L.nil ?_
        refine WpC.cond rfl (fun hc => ?_) (fun hc => ?_)
        · replace H := condT hc H
          refine WpC.seq ?_
          refine WpC.regionL ?_
          refine L.move hF rfl rfl rfl ?_
          refine L.move hF rfl rfl rfl ?_
          obtain ⟨b23, hb23, H⟩ := bindS H
          refine L.cutS Try.underlying9 hF rfl rfl rfl rfl rfl hb23 ?_
          refine L.assign hF rfl rfl rfl ?_
          refine L.nil ?_
          refine WpC.ret ?_
          cases H
          exact Leaves.ret rfl rfl rfl ⟨rfl, rfl⟩
        · replace H := condF hc H
          refine WpC.skip ?_
          refine WpC.seq ?_
          obtain ⟨b24, hb24, H⟩ := bindS H
          obtain ⟨b25, hb25, H⟩ := bindS H
          obtain ⟨r26, hr26, H⟩ := bindS H
          obtain ⟨h27, H⟩ := condG H
          obtain ⟨b28, hb28, H⟩ := bindS H
          obtain ⟨h29, H⟩ := condG H
          refine A.begin mixed rfl rfl ?_
          intro W hI hO
          have n2097151 : W 0 #[true, true, true, true, true, true, true, true, true, true, true, true, true, true, true, true, true, true, true, true, true] (mkSt [(4, one (cS ((b24 ++ ([(ofI (Go.bits .xor .i64 (b25.toNat : Int) (IntKind.i64.wrap ((1 : Int) + r26.1))))] : List UInt8)) ++ b28)))] [] [(0, [Cell.sl true (List.map eB r26.2.b), cI r26.2.i, cI r26.2.h])] 1) := by
            refine hI _ _ _ (A.done (by kernel_rfl) ?_)
            refine WpC.ret ?_
            cases H
            exact Leaves.ret rfl rfl rfl ⟨rfl, rfl⟩
          have n1048575 : W 1 #[true, true, true, true, true, true, true, true, true, true, true, true, true, true, true, true, true, true, true, true, false] (mkSt [(4, one (cS ([] : List UInt8))), (66, one (cS ((b24 ++ ([(ofI (Go.bits .xor .i64 (b25.toNat : Int) (IntKind.i64.wrap ((1 : Int) + r26.1))))] : List UInt8)) ++ b28)))] [] [(0, [Cell.sl true (List.map eB r26.2.b), cI r26.2.i, cI r26.2.h])] 1) := by
            refine hI _ _ _ ?_
            refine A.take 20 rfl (by kernel_rfl) (by kernel_rfl) (by kernel_rfl) rfl (Ca.assign) (fun Q0 k0 => L.assign hF rfl rfl rfl (L.nil k0)) ?_
            exact A.on (hO _ _ _ n2097151) (Le.mk [(0, 0)] hm rfl ⟨⟨_, rfl, rfl⟩, trivial⟩ trivial ⟨⟨_, _, rfl, rfl, rfl⟩, trivial⟩)
          have n524287 : W 2 #[true, true, true, true, true, true, true, true, true, true, true, true, true, true, true, true, true, true, true, false, false] (mkSt [(4, one (cS ([] : List UInt8))), (61, one (cS (b24 ++ ([(ofI (Go.bits .xor .i64 (b25.toNat : Int) (IntKind.i64.wrap ((1 : Int) + r26.1))))] : List UInt8)))), (65, one (cS b28))] [] [(0, [Cell.sl true (List.map eB r26.2.b), cI r26.2.i, cI r26.2.h])] 1) := by
            refine hI _ _ _ ?_
            refine A.take 19 rfl (by kernel_rfl) (by kernel_rfl) (by kernel_rfl) rfl (Ca.bin rfl rfl (calm_str _ _ _ _ _ _)) (fun Q0 k0 => L.catS hF rfl rfl rfl rfl (of_decide_eq_true h29) (L.nil k0)) ?_
            exact A.on (hO _ _ _ n1048575) (Le.mk [(0, 0)] hm rfl ⟨⟨_, rfl, rfl⟩, ⟨_, rfl, rfl⟩, trivial⟩ trivial ⟨⟨_, _, rfl, rfl, rfl⟩, trivial⟩)
          have n507903 : W 3 #[true, true, true, true, true, true, true, true, true, true, true, true, true, true, false, true, true, true, true, false, false] (mkSt [(4, one (cS ([] : List UInt8))), (49, one (cS b24)), (60, one (cS ([(ofI (Go.bits .xor .i64 (b25.toNat : Int) (IntKind.i64.wrap ((1 : Int) + r26.1))))] : List UInt8))), (65, one (cS b28))] [] [(0, [Cell.sl true (List.map eB r26.2.b), cI r26.2.i, cI r26.2.h])] 1) := by
            refine hI _ _ _ ?_
            refine A.take 14 rfl (by kernel_rfl) (by kernel_rfl) (by kernel_rfl) rfl (Ca.bin rfl rfl (calm_str _ _ _ _ _ _)) (fun Q0 k0 => L.catS hF rfl rfl rfl rfl (of_decide_eq_true h27) (L.nil k0)) ?_
            exact A.on (hO _ _ _ n524287) (Le.mk [(0, 0)] hm rfl ⟨⟨_, rfl, rfl⟩, ⟨_, rfl, rfl⟩, ⟨_, rfl, rfl⟩, trivial⟩ trivial ⟨⟨_, _, rfl, rfl, rfl⟩, trivial⟩)
          have n499711 : W 4 #[true, true, true, true, true, true, true, true, true, true, true, true, true, false, false, true, true, true, true, false, false] (mkSt [(4, one (cS ([] : List UInt8))), (49, one (cS b24)), (59, one (Cell.own 1)), (65, one (cS b28))] [(1, ⟨1, List.map eB ([(ofI (Go.bits .xor .i64 (b25.toNat : Int) (IntKind.i64.wrap ((1 : Int) + r26.1))))] : List UInt8)⟩)] [(0, [Cell.sl true (List.map eB r26.2.b), cI r26.2.i, cI r26.2.h])] 2) := by
            refine hI _ _ _ ?_
            refine A.all [13] (by kernel_rfl) rfl ⟨⟨_, rfl, ?_⟩, trivial⟩
            · refine L.b2s (xs := ([(ofI (Go.bits .xor .i64 (b25.toNat : Int) (IntKind.i64.wrap ((1 : Int) + r26.1))))] : List UInt8)) Try.underlying35 Try.underlying5 Try.underlying9 hF rfl rfl rfl rfl ?_
              refine L.nil ?_
              exact A.on (hO _ _ _ n507903) (Le.mk [(0, 0)] hm rfl ⟨⟨_, rfl, rfl⟩, ⟨_, rfl, rfl⟩, ⟨_, rfl, rfl⟩, ⟨_, rfl, rfl⟩, trivial⟩ trivial ⟨⟨_, _, rfl, rfl, rfl⟩, trivial⟩)
          have n495615 : W 5 #[true, true, true, true, true, true, true, true, true, true, true, true, false, false, false, true, true, true, true, false, false] (mkSt [(4, one (cS ([] : List UInt8))), (49, one (cS b24)), (58, one (cU (ofI (Go.bits .xor .i64 (b25.toNat : Int) (IntKind.i64.wrap ((1 : Int) + r26.1)))))), (65, one (cS b28))] [] [(0, [Cell.sl true (List.map eB r26.2.b), cI r26.2.i, cI r26.2.h])] 1) := by
            refine hI _ _ _ ?_
            refine A.all [12] (by kernel_rfl) rfl ⟨⟨_, rfl, ?_⟩, trivial⟩
            · refine L.buildSlice (e := eB) 1 ([(ofI (Go.bits .xor .i64 (b25.toNat : Int) (IntKind.i64.wrap ((1 : Int) + r26.1))))] : List UInt8) Try.underlying35 info5 rfl rfl rfl hF rfl rfl rfl rfl rfl rfl rfl rfl ?_
              refine L.nil ?_
              exact A.on (hO _ _ _ n499711) (Le.mk [(0, 0), (1, 1)] hm rfl ⟨⟨_, rfl, rfl⟩, ⟨_, rfl, rfl⟩, ⟨_, rfl, rfl⟩, ⟨_, rfl, rfl⟩, trivial⟩ ⟨⟨_, rfl, rfl⟩, trivial⟩ ⟨⟨_, _, rfl, rfl, rfl⟩, trivial⟩)
          have n493567 : W 6 #[true, true, true, true, true, true, true, true, true, true, true, false, false, false, false, true, true, true, true, false, false] (mkSt [(4, one (cS ([] : List UInt8))), (49, one (cS b24)), (57, one (cI (Go.bits .xor .i64 (b25.toNat : Int) (IntKind.i64.wrap ((1 : Int) + r26.1))))), (65, one (cS b28))] [] [(0, [Cell.sl true (List.map eB r26.2.b), cI r26.2.i, cI r26.2.h])] 1) := by
            refine hI _ _ _ ?_
            refine A.take 11 rfl (by kernel_rfl) (by kernel_rfl) (by kernel_rfl) rfl (Ca.conv Try.underlying3 Try.underlying5 rfl) (fun Q0 k0 => L.toB Try.underlying3 Try.underlying5 hF rfl rfl rfl (L.nil k0)) ?_
            exact A.on (hO _ _ _ n495615) (Le.mk [(0, 0)] hm rfl ⟨⟨_, rfl, rfl⟩, ⟨_, rfl, rfl⟩, ⟨_, rfl, rfl⟩, ⟨_, rfl, rfl⟩, trivial⟩ trivial ⟨⟨_, _, rfl, rfl, rfl⟩, trivial⟩)
          have n492543 : W 7 #[true, true, true, true, true, true, true, true, true, true, false, false, false, false, false, true, true, true, true, false, false] (mkSt [(4, one (cS ([] : List UInt8))), (49, one (cS b24)), (53, one (cI (b25.toNat : Int))), (56, one (cI (IntKind.i64.wrap ((1 : Int) + r26.1)))), (65, one (cS b28))] [] [(0, [Cell.sl true (List.map eB r26.2.b), cI r26.2.i, cI r26.2.h])] 1) := by
            refine hI _ _ _ ?_
            refine A.take 10 rfl (by kernel_rfl) (by kernel_rfl) (by kernel_rfl) rfl (Ca.bin rfl rfl (calm_int _ _ _ _ _ _ _ _)) (fun Q0 k0 => L.bin hF rfl rfl rfl rfl rfl rfl (L.nil k0)) ?_
            exact A.on (hO _ _ _ n493567) (Le.mk [(0, 0)] hm rfl ⟨⟨_, rfl, rfl⟩, ⟨_, rfl, rfl⟩, ⟨_, rfl, rfl⟩, ⟨_, rfl, rfl⟩, trivial⟩ trivial ⟨⟨_, _, rfl, rfl, rfl⟩, trivial⟩)
          have n492031 : W 8 #[true, true, true, true, true, true, true, true, true, false, false, false, false, false, false, true, true, true, true, false, false] (mkSt [(4, one (cS ([] : List UInt8))), (49, one (cS b24)), (53, one (cI (b25.toNat : Int))), (55, one (cI r26.1)), (65, one (cS b28))] [] [(0, [Cell.sl true (List.map eB r26.2.b), cI r26.2.i, cI r26.2.h])] 1) := by
            refine hI _ _ _ ?_
            refine A.take 9 rfl (by kernel_rfl) (by kernel_rfl) (by kernel_rfl) rfl (Ca.bin rfl rfl (calm_int _ _ _ _ _ _ _ _)) (fun Q0 k0 => L.bin hF rfl rfl rfl rfl rfl rfl (L.nil k0)) ?_
            exact A.on (hO _ _ _ n492543) (Le.mk [(0, 0)] hm rfl ⟨⟨_, rfl, rfl⟩, ⟨_, rfl, rfl⟩, ⟨_, rfl, rfl⟩, ⟨_, rfl, rfl⟩, ⟨_, rfl, rfl⟩, trivial⟩ trivial ⟨⟨_, _, rfl, rfl, rfl⟩, trivial⟩)
          have n491775 : W 9 #[true, true, true, true, true, true, true, true, false, false, false, false, false, false, false, true, true, true, true, false, false] (mkSt [(4, one (cS ([] : List UInt8))), (49, one (cS b24)), (53, one (cI (b25.toNat : Int))), (54, one (Cell.ptr 0 0)), (65, one (cS b28))] [] [(0, [Cell.sl true (List.map eB r14.2.b), cI r14.2.i, cI r14.2.h])] 1) := by
            refine hI _ _ _ ?_
            refine A.all [8] (by kernel_rfl) rfl ⟨⟨_, rfl, ?_⟩, trivial⟩
            · refine L.call [false, false] [] [0] 1 hF rfl rfl rfl ent97 rfl rfl rfl rfl rfl (Fspec_l1Below_gives k  (255 : Int) r14.2 r26 hr26) rfl ?_
              refine L.nil ?_
              exact A.on (hO _ _ _ n492031) (Le.mk [(0, 0)] hm rfl ⟨⟨_, rfl, rfl⟩, ⟨_, rfl, rfl⟩, ⟨_, rfl, rfl⟩, ⟨_, rfl, rfl⟩, ⟨_, rfl, rfl⟩, trivial⟩ trivial ⟨⟨_, _, rfl, rfl, rfl⟩, trivial⟩)
          have n229631 : W 10 #[true, true, true, true, true, true, true, true, false, false, false, false, false, false, false, true, true, true, false, false, false] (mkSt [(4, one (cS ([] : List UInt8))), (49, one (cS b24)), (53, one (cI (b25.toNat : Int))), (54, one (Cell.ptr 0 0)), (62, one (cS a1)), (64, one (cI (IntKind.i64.wrap (r3.1 + (1 : Int)))))] [] [(0, [Cell.sl true (List.map eB r14.2.b), cI r14.2.i, cI r14.2.h])] 1) := by
            refine hI _ _ _ ?_
            refine A.take 18 rfl (by kernel_rfl) (by kernel_rfl) (by kernel_rfl) rfl (Ca.slice) (fun Q0 k0 => L.cutS Try.underlying9 hF rfl rfl rfl rfl rfl hb28 (L.nil k0)) ?_
            exact A.on (hO _ _ _ n491775) (Le.mk [(0, 0)] hm rfl ⟨⟨_, rfl, rfl⟩, ⟨_, rfl, rfl⟩, ⟨_, rfl, rfl⟩, ⟨_, rfl, rfl⟩, ⟨_, rfl, rfl⟩, trivial⟩ trivial ⟨⟨_, _, rfl, rfl, rfl⟩, trivial⟩)
          have n98559 : W 11 #[true, true, true, true, true, true, true, true, false, false, false, false, false, false, false, true, true, false, false, false, false] (mkSt [(4, one (cS ([] : List UInt8))), (49, one (cS b24)), (53, one (cI (b25.toNat : Int))), (54, one (Cell.ptr 0 0)), (62, one (cS a1)), (63, one (cI r3.1))] [] [(0, [Cell.sl true (List.map eB r14.2.b), cI r14.2.i, cI r14.2.h])] 1) := by
            refine hI _ _ _ ?_
            refine A.take 17 rfl (by kernel_rfl) (by kernel_rfl) (by kernel_rfl) rfl (Ca.bin rfl rfl (calm_int _ _ _ _ _ _ _ _)) (fun Q0 k0 => L.bin hF rfl rfl rfl rfl rfl rfl (L.nil k0)) ?_
            exact A.on (hO _ _ _ n229631) (Le.mk [(0, 0)] hm rfl ⟨⟨_, rfl, rfl⟩, ⟨_, rfl, rfl⟩, ⟨_, rfl, rfl⟩, ⟨_, rfl, rfl⟩, ⟨_, rfl, rfl⟩, ⟨_, rfl, rfl⟩, trivial⟩ trivial ⟨⟨_, _, rfl, rfl, rfl⟩, trivial⟩)
          have n33023 : W 12 #[true, true, true, true, true, true, true, true, false, false, false, false, false, false, false, true, false, false, false, false, false] (mkSt [(4, one (cS ([] : List UInt8))), (5, one (cI r3.1)), (49, one (cS b24)), (53, one (cI (b25.toNat : Int))), (54, one (Cell.ptr 0 0)), (62, one (cS a1))] [] [(0, [Cell.sl true (List.map eB r14.2.b), cI r14.2.i, cI r14.2.h])] 1) := by
            refine hI _ _ _ ?_
            refine A.take 16 rfl (by kernel_rfl) (by kernel_rfl) (by kernel_rfl) rfl (Ca.move) (fun Q0 k0 => L.move hF rfl rfl rfl (L.nil k0)) ?_
            exact A.on (hO _ _ _ n98559) (Le.mk [(0, 0)] hm rfl ⟨⟨_, rfl, rfl⟩, ⟨_, rfl, rfl⟩, ⟨_, rfl, rfl⟩, ⟨_, rfl, rfl⟩, ⟨_, rfl, rfl⟩, ⟨_, rfl, rfl⟩, trivial⟩ trivial ⟨⟨_, _, rfl, rfl, rfl⟩, trivial⟩)
          have n255 : W 13 #[true, true, true, true, true, true, true, true, false, false, false, false, false, false, false, false, false, false, false, false, false] (mkSt [(1, one (cS a1)), (4, one (cS ([] : List UInt8))), (5, one (cI r3.1)), (49, one (cS b24)), (53, one (cI (b25.toNat : Int))), (54, one (Cell.ptr 0 0))] [] [(0, [Cell.sl true (List.map eB r14.2.b), cI r14.2.i, cI r14.2.h])] 1) := by
            refine hI _ _ _ ?_
            refine A.take 15 rfl (by kernel_rfl) (by kernel_rfl) (by kernel_rfl) rfl (Ca.move) (fun Q0 k0 => L.move hF rfl rfl rfl (L.nil k0)) ?_
            exact A.on (hO _ _ _ n33023) (Le.mk [(0, 0)] hm rfl ⟨⟨_, rfl, rfl⟩, ⟨_, rfl, rfl⟩, ⟨_, rfl, rfl⟩, ⟨_, rfl, rfl⟩, ⟨_, rfl, rfl⟩, ⟨_, rfl, rfl⟩, trivial⟩ trivial ⟨⟨_, _, rfl, rfl, rfl⟩, trivial⟩)
          have n127 : W 14 #[true, true, true, true, true, true, true, false, false, false, false, false, false, false, false, false, false, false, false, false, false] (mkSt [(0, one (Cell.ptr 0 0)), (1, one (cS a1)), (4, one (cS ([] : List UInt8))), (5, one (cI r3.1)), (49, one (cS b24)), (53, one (cI (b25.toNat : Int)))] [] [(0, [Cell.sl true (List.map eB r14.2.b), cI r14.2.i, cI r14.2.h])] 1) := by
            refine hI _ _ _ ?_
            refine A.take 7 rfl (by kernel_rfl) (by kernel_rfl) (by kernel_rfl) rfl (Ca.move) (fun Q0 k0 => L.move hF rfl rfl rfl (L.nil k0)) ?_
            exact A.on (hO _ _ _ n255) (Le.mk [(0, 0)] hm rfl ⟨⟨_, rfl, rfl⟩, ⟨_, rfl, rfl⟩, ⟨_, rfl, rfl⟩, ⟨_, rfl, rfl⟩, ⟨_, rfl, rfl⟩, ⟨_, rfl, rfl⟩, trivial⟩ trivial ⟨⟨_, _, rfl, rfl, rfl⟩, trivial⟩)
          have n63 : W 15 #[true, true, true, true, true, true, false, false, false, false, false, false, false, false, false, false, false, false, false, false, false] (mkSt [(0, one (Cell.ptr 0 0)), (1, one (cS a1)), (4, one (cS ([] : List UInt8))), (5, one (cI r3.1)), (49, one (cS b24)), (52, one (cU b25))] [] [(0, [Cell.sl true (List.map eB r14.2.b), cI r14.2.i, cI r14.2.h])] 1) := by
            refine hI _ _ _ ?_
            refine A.take 6 rfl (by kernel_rfl) (by kernel_rfl) (by kernel_rfl) rfl (Ca.conv Try.underlying5 Try.underlying3 rfl) (fun Q0 k0 => L.ofB Try.underlying5 Try.underlying3 hF rfl rfl rfl (L.nil k0)) ?_
            exact A.on (hO _ _ _ n127) (Le.mk [(0, 0)] hm rfl ⟨⟨_, rfl, rfl⟩, ⟨_, rfl, rfl⟩, ⟨_, rfl, rfl⟩, ⟨_, rfl, rfl⟩, ⟨_, rfl, rfl⟩, ⟨_, rfl, rfl⟩, trivial⟩ trivial ⟨⟨_, _, rfl, rfl, rfl⟩, trivial⟩)
          have n31 : W 16 #[true, true, true, true, true, false, false, false, false, false, false, false, false, false, false, false, false, false, false, false, false] (mkSt [(0, one (Cell.ptr 0 0)), (1, one (cS a1)), (4, one (cS ([] : List UInt8))), (5, one (cI r3.1)), (49, one (cS b24)), (50, one (cS a1)), (51, one (cI r3.1))] [] [(0, [Cell.sl true (List.map eB r14.2.b), cI r14.2.i, cI r14.2.h])] 1) := by
            refine hI _ _ _ ?_
            refine A.take 5 rfl (by kernel_rfl) (by kernel_rfl) (by kernel_rfl) rfl (Ca.index) (fun Q0 k0 => L.idxS Try.underlying9 hF rfl rfl rfl rfl hb25 (L.nil k0)) ?_
            exact A.on (hO _ _ _ n63) (Le.mk [(0, 0)] hm rfl ⟨⟨_, rfl, rfl⟩, ⟨_, rfl, rfl⟩, ⟨_, rfl, rfl⟩, ⟨_, rfl, rfl⟩, ⟨_, rfl, rfl⟩, ⟨_, rfl, rfl⟩, trivial⟩ trivial ⟨⟨_, _, rfl, rfl, rfl⟩, trivial⟩)
          have n15 : W 17 #[true, true, true, true, false, false, false, false, false, false, false, false, false, false, false, false, false, false, false, false, false] (mkSt [(0, one (Cell.ptr 0 0)), (1, one (cS a1)), (4, one (cS ([] : List UInt8))), (5, one (cI r3.1)), (49, one (cS b24)), (50, one (cS a1))] [] [(0, [Cell.sl true (List.map eB r14.2.b), cI r14.2.i, cI r14.2.h])] 1) := by
            refine hI _ _ _ ?_
            refine A.take 4 rfl (by kernel_rfl) (by kernel_rfl) (by kernel_rfl) rfl (Ca.move) (fun Q0 k0 => L.move hF rfl rfl rfl (L.nil k0)) ?_
            exact A.on (hO _ _ _ n31) (Le.mk [(0, 0)] hm rfl ⟨⟨_, rfl, rfl⟩, ⟨_, rfl, rfl⟩, ⟨_, rfl, rfl⟩, ⟨_, rfl, rfl⟩, ⟨_, rfl, rfl⟩, ⟨_, rfl, rfl⟩, ⟨_, rfl, rfl⟩, trivial⟩ trivial ⟨⟨_, _, rfl, rfl, rfl⟩, trivial⟩)
          have n7 : W 18 #[true, true, true, false, false, false, false, false, false, false, false, false, false, false, false, false, false, false, false, false, false] (mkSt [(0, one (Cell.ptr 0 0)), (1, one (cS a1)), (4, one (cS ([] : List UInt8))), (5, one (cI r3.1)), (49, one (cS b24))] [] [(0, [Cell.sl true (List.map eB r14.2.b), cI r14.2.i, cI r14.2.h])] 1) := by
            refine hI _ _ _ ?_
            refine A.take 3 rfl (by kernel_rfl) (by kernel_rfl) (by kernel_rfl) rfl (Ca.move) (fun Q0 k0 => L.move hF rfl rfl rfl (L.nil k0)) ?_
            exact A.on (hO _ _ _ n15) (Le.mk [(0, 0)] hm rfl ⟨⟨_, rfl, rfl⟩, ⟨_, rfl, rfl⟩, ⟨_, rfl, rfl⟩, ⟨_, rfl, rfl⟩, ⟨_, rfl, rfl⟩, ⟨_, rfl, rfl⟩, trivial⟩ trivial ⟨⟨_, _, rfl, rfl, rfl⟩, trivial⟩)
          have n3 : W 19 #[true, true, false, false, false, false, false, false, false, false, false, false, false, false, false, false, false, false, false, false, false] (mkSt [(0, one (Cell.ptr 0 0)), (1, one (cS a1)), (4, one (cS ([] : List UInt8))), (5, one (cI r3.1)), (47, one (cS a1)), (48, one (cI r3.1))] [] [(0, [Cell.sl true (List.map eB r14.2.b), cI r14.2.i, cI r14.2.h])] 1) := by
            refine hI _ _ _ ?_
            refine A.take 2 rfl (by kernel_rfl) (by kernel_rfl) (by kernel_rfl) rfl (Ca.slice) (fun Q0 k0 => L.cutS Try.underlying9 hF rfl rfl rfl rfl rfl hb24 (L.nil k0)) ?_
            exact A.on (hO _ _ _ n7) (Le.mk [(0, 0)] hm rfl ⟨⟨_, rfl, rfl⟩, ⟨_, rfl, rfl⟩, ⟨_, rfl, rfl⟩, ⟨_, rfl, rfl⟩, ⟨_, rfl, rfl⟩, trivial⟩ trivial ⟨⟨_, _, rfl, rfl, rfl⟩, trivial⟩)
          have n1 : W 20 #[true, false, false, false, false, false, false, false, false, false, false, false, false, false, false, false, false, false, false, false, false] (mkSt [(0, one (Cell.ptr 0 0)), (1, one (cS a1)), (4, one (cS ([] : List UInt8))), (5, one (cI r3.1)), (47, one (cS a1))] [] [(0, [Cell.sl true (List.map eB r14.2.b), cI r14.2.i, cI r14.2.h])] 1) := by
            refine hI _ _ _ ?_
            refine A.take 1 rfl (by kernel_rfl) (by kernel_rfl) (by kernel_rfl) rfl (Ca.move) (fun Q0 k0 => L.move hF rfl rfl rfl (L.nil k0)) ?_
            exact A.on (hO _ _ _ n3) (Le.mk [(0, 0)] hm rfl ⟨⟨_, rfl, rfl⟩, ⟨_, rfl, rfl⟩, ⟨_, rfl, rfl⟩, ⟨_, rfl, rfl⟩, ⟨_, rfl, rfl⟩, ⟨_, rfl, rfl⟩, trivial⟩ trivial ⟨⟨_, _, rfl, rfl, rfl⟩, trivial⟩)
          have n0 : W 21 #[false, false, false, false, false, false, false, false, false, false, false, false, false, false, false, false, false, false, false, false, false] (mkSt [(0, one (Cell.ptr 0 0)), (1, one (cS a1)), (4, one (cS ([] : List UInt8))), (5, one (cI r3.1))] [] [(0, [Cell.sl true (List.map eB r14.2.b), cI r14.2.i, cI r14.2.h])] 1) := by
            refine hI _ _ _ ?_
            refine A.take 0 rfl (by kernel_rfl) (by kernel_rfl) (by kernel_rfl) rfl (Ca.move) (fun Q0 k0 => L.move hF rfl rfl rfl (L.nil k0)) ?_
            exact A.on (hO _ _ _ n1) (Le.mk [(0, 0)] hm rfl ⟨⟨_, rfl, rfl⟩, ⟨_, rfl, rfl⟩, ⟨_, rfl, rfl⟩, ⟨_, rfl, rfl⟩, ⟨_, rfl, rfl⟩, trivial⟩ trivial ⟨⟨_, _, rfl, rfl, rfl⟩, trivial⟩)
          exact hI _ _ _ (A.on (hO _ _ _ n0) (Le.mk [(0, 0)] hm rfl ⟨⟨_, rfl, rfl⟩, ⟨_, rfl, rfl⟩, ⟨_, rfl, rfl⟩, ⟨_, rfl, rfl⟩, trivial⟩ trivial ⟨⟨_, _, rfl, rfl, rfl⟩, trivial⟩))
/-! ### Fspec_DrawReadFlags -/
def Fspec_DrawReadFlags (k : Nat) (a0 : List UInt8) : Option (List UInt8) := (Fspec_l1New k a0).bind fun r1 => (Fspec_l15Flags k r1).bind fun r2 => (Fspec_ShowFlags k r2.1).bind fun r3 => (Fspec_l1Once k (3 : Int) r2.2).bind fun r6 => cond r6.1 ((Fspec_l1Spoil k r3 r6.2).bind fun r7 => some r7.1) (some r3)
theorem ent41 : Enters Try.prog 41 := ⟨Try.f41, Try.func41, rfl, by decide⟩
set_option maxHeartbeats 8000000 in
set_option maxRecDepth 100000 in
theorem Fspec_DrawReadFlags_gives (k : Nat) (a0 : List UInt8) (r : List UInt8) (H : Fspec_DrawReadFlags k a0 = some r) : Gives Try.prog 41 [V.one (Cell.sl true (List.map eB a0))] [] [V.one (cS r)] [] := by
  refine Gives.intro Try.func41 rfl rfl rfl rfl ?_
  intro F hF hm
  unfold Fspec_DrawReadFlags at H
  obtain ⟨K, hK⟩ : ∃ K, k ≤ K := ⟨k, Nat.le_refl k⟩
  refine WpC.seq ?_
  refine WpC.regionL ?_
  refine L.assign hF rfl rfl rfl ?_
  refine L.nil ?_
  refine WpC.seq ?_
  refine WpC.regionL ?_
  refine L.move hF rfl rfl rfl ?_
  obtain ⟨r1, hr1, H⟩ := bindS H
  refine L.call [false] [] [] 1 hF rfl rfl rfl ent95 rfl rfl rfl rfl rfl (Fspec_l1New_gives k  a0 r1 hr1) rfl ?_
  refine L.assign hF rfl rfl rfl ?_
  refine L.nil ?_
  refine WpC.seq ?_
  refine WpC.regionL ?_
  refine L.move hF rfl rfl rfl ?_
  obtain ⟨r2, hr2, H⟩ := bindS H
  refine L.call [false] [] [1] 2 hF rfl rfl rfl ent96 rfl rfl rfl rfl rfl (Fspec_l15Flags_gives k  r1 r2 hr2) rfl ?_
  obtain ⟨r3, hr3, H⟩ := bindS H
  refine L.call [false] [] [] 6 hF rfl rfl rfl ent102 rfl rfl rfl rfl rfl (Fspec_ShowFlags_gives k  r2.1 r3 hr3) rfl ?_
  refine L.assign hF rfl rfl rfl ?_
  refine L.nil ?_
  refine WpC.seq ?_
  refine WpC.seq ?_
  refine WpC.regionL ?_
  refine L.move hF rfl rfl rfl ?_
  obtain ⟨r6, hr6, H⟩ := bindS H
  refine L.call [false, false] [] [1] 7 hF rfl rfl rfl ent98 rfl rfl rfl rfl rfl (Fspec_l1Once_gives k  (3 : Int) r2.2 r6 hr6) rfl ?_
  refine L.nil ?_
  refine WpC.cond rfl (fun hc => ?_) (fun hc => ?_)
  · replace H := condT hc H
    refine WpC.seq ?_
    refine WpC.regionL ?_
    refine L.move hF rfl rfl rfl ?_
    refine L.move hF rfl rfl rfl ?_
    obtain ⟨r7, hr7, H⟩ := bindS H
    refine L.call [false, false] [] [1] 11 hF rfl rfl rfl ent103 rfl rfl rfl rfl rfl (Fspec_l1Spoil_gives k  r3 r6.2 r7 hr7) rfl ?_
    refine L.assign hF rfl rfl rfl ?_
    refine L.nil ?_
    refine WpC.ret ?_
    cases H
    exact Leaves.ret rfl rfl rfl ⟨rfl, rfl⟩
  · replace H := condF hc H
    refine WpC.skip ?_
    refine WpC.seq ?_
    refine WpC.regionL ?_
    refine L.move hF rfl rfl rfl ?_
    refine L.assign hF rfl rfl rfl ?_
    refine L.nil ?_
    refine WpC.ret ?_
    cases H
    exact Leaves.ret rfl rfl rfl ⟨rfl, rfl⟩
/-! ### Fspec_ReadFlags -/
def Fspec_ReadFlags.l2 : Nat → (List UInt8) → Int → Option (Int × Bool)
  | 0, _, _ => none
  | k2 + 1, v19, v20 => cond (decide (v20 ≤ (255 : Int))) ((Fspec_ShowFlags k2 v20).bind fun r22 => cond (r22 == v19) (some (v20, true)) ((Fspec_ReadFlags.l2 k2) v19 (IntKind.i64.wrap (v20 + (1 : Int))))) (some ((0 : Int), false))
def Fspec_ReadFlags (k : Nat) (a0 : List UInt8) : Option (Int × Bool) := Fspec_ReadFlags.l2 k a0 (0 : Int)
theorem ent42 : Enters Try.prog 42 := ⟨Try.f42, Try.func42, rfl, by decide⟩
set_option maxHeartbeats 8000000 in
set_option maxRecDepth 100000 in
theorem Fspec_ReadFlags_gives (k : Nat) (a0 : List UInt8) (r : Int × Bool) (H : Fspec_ReadFlags k a0 = some r) : Gives Try.prog 42 [V.one (cS a0)] [] [V.one (cI r.1), V.one (cL r.2)] [] := by
  refine Gives.intro Try.func42 rfl rfl rfl rfl ?_
  intro F hF hm
  unfold Fspec_ReadFlags at H
  obtain ⟨K, hK⟩ : ∃ K, k ≤ K := ⟨k, Nat.le_refl k⟩
  refine WpC.seq ?_
  refine WpC.regionL ?_
  refine L.assign hF rfl rfl rfl ?_
  refine L.assign hF rfl rfl rfl ?_
  refine L.nil ?_
  refine WpC.seq ?_
  refine WpC.seq ?_
  refine WpC.regionL ?_
  refine L.assign hF rfl rfl rfl ?_
  refine L.nil ?_
  refine WpC.block ?_
  refine WpC.loopL (P := Try.prog) (fun n σ => ∃ v19 : List UInt8, ∃ v20 : Int, n ≤ K ∧ Fspec_ReadFlags.l2 n v19 v20 = some r ∧ σ = mkSt [(0, one (cS v19)), (4, one (cI v20))] [] [] 0) k ⟨_, ⟨a0, (0 : Int), by omega, H, rfl⟩, Le.mk [] hm rfl ⟨⟨_, rfl, rfl⟩, ⟨_, rfl, rfl⟩, trivial⟩ trivial trivial⟩ ?_
  clear H
  rintro k2 _ ⟨v19, v20, hk2, H, rfl⟩
  cases k2 with
  | zero => cases H
  | succ k2 =>
    rw [Fspec_ReadFlags.l2] at H
    refine WpC.seq ?_
    refine WpC.seq ?_
    refine WpC.regionL ?_
    refine L.move hF rfl rfl rfl ?_
    refine L.bin hF rfl rfl rfl rfl rfl rfl ?_
    refine L.nil ?_
    refine WpC.cond rfl (fun hc => ?_) (fun hc => ?_)
    · replace H := condT hc H
      refine WpC.skip ?_
      refine WpC.seq ?_
      refine WpC.block ?_
      refine WpC.seq ?_
      refine WpC.regionL ?_
      refine L.move hF rfl rfl rfl ?_
      obtain ⟨r22, hr22, H⟩ := bindS H
      refine L.call [false] [] [] 0 hF rfl rfl rfl ent102 rfl rfl rfl rfl rfl (Fspec_ShowFlags_gives k2  v20 r22 hr22) rfl ?_
      refine L.move hF rfl rfl rfl ?_
      refine L.binS hF rfl rfl rfl rfl rfl ?_
      refine L.nil ?_
      refine WpC.cond rfl (fun hc => ?_) (fun hc => ?_)
      · replace H := condT hc H
        refine WpC.seq ?_
        refine WpC.regionL ?_
        refine L.move hF rfl rfl rfl ?_
        refine L.assign hF rfl rfl rfl ?_
        refine L.assign hF rfl rfl rfl ?_
        refine L.nil ?_
        refine WpC.ret ?_
        cases H
        exact Leaves.ret rfl rfl rfl ⟨rfl, rfl⟩
      · replace H := condF hc H
        refine WpC.skip ?_
        refine WpC.regionL ?_
        refine L.move hF rfl rfl rfl ?_
        refine L.bin hF rfl rfl rfl rfl rfl rfl ?_
        refine L.assign hF rfl rfl rfl ?_
        refine L.nil ?_
        exact ⟨k2, _, by omega, ⟨v19, (IntKind.i64.wrap (v20 + (1 : Int))), by omega, H, rfl⟩, Le.mk [] hm rfl ⟨⟨_, rfl, rfl⟩, ⟨_, rfl, rfl⟩, trivial⟩ trivial trivial⟩
    · replace H := condF hc H
      refine WpC.exit ?_
      refine WpC.seq ?_
      refine WpC.regionL ?_
      refine L.assign hF rfl rfl rfl ?_
      refine L.assign hF rfl rfl rfl ?_
      refine L.nil ?_
      refine WpC.ret ?_
      cases H
      exact Leaves.ret rfl rfl rfl ⟨rfl, rfl⟩
/-! ### Flaws_FnFlagText -/
def Flaws_FnFlagText (k : Nat) (a0 : List UInt8) : Option Bool := (Flaws_big k a0).bind fun r2 => cond r2 (some true) ((Flaws_at k a0 (0 : Int)).bind fun r3 => (Flaws_at k a0 (1 : Int)).bind fun r4 => (Fimpl_ShowFlags k r3).bind fun r5 => (Fimpl_ReadFlags k r5).bind fun r6 => (Fspec_DrawReadFlags k a0).bind fun r7 => (Fimpl_ReadFlags k r7).bind fun r8 => (Fspec_ReadFlags k r7).bind fun r9 => cond r6.2 (cond (r6.1 == r3) ((Fimpl_ShowFlags k r3).bind fun r17 => (Fimpl_ShowFlags k r4).bind fun r18 => cond ((r17 == r18) == (r3 == r4)) (cond (r8.2 == r9.2) (cond (!r8.2) ((Fimpl_ShowFlags k (256 : Int)).bind fun r19 => cond (r19 == ([] : List UInt8)) ((Fimpl_FlagsOk k r3).bind fun r20 => some r20) (some false)) ((Fimpl_ShowFlags k r8.1).bind fun r21 => cond (r21 == r7) ((Fimpl_ShowFlags k (256 : Int)).bind fun r22 => cond (r22 == ([] : List UInt8)) ((Fimpl_FlagsOk k r3).bind fun r23 => some r23) (some false)) (some false))) (some false)) (some false)) (some false)) (some false))
theorem ent8 : Enters Try.prog 8 := ⟨Try.f8, Try.func8, rfl, by decide⟩
set_option maxHeartbeats 8000000 in
set_option maxRecDepth 100000 in
theorem Flaws_FnFlagText_gives (k : Nat) (a0 : List UInt8) (r : Bool) (H : Flaws_FnFlagText k a0 = some r) : Gives Try.prog 8 [V.one (Cell.sl true (List.map eB a0))] [] [V.one (cL r)] [] := by
  refine Gives.intro Try.func8 rfl rfl rfl rfl ?_
  intro F hF hm
  unfold Flaws_FnFlagText at H
  obtain ⟨K, hK⟩ : ∃ K, k ≤ K := ⟨k, Nat.le_refl k⟩
  refine WpC.seq ?_
  refine WpC.regionL ?_
  refine L.assign hF rfl rfl rfl ?_
  refine L.nil ?_
  refine WpC.seq ?_
  refine WpC.seq ?_
  refine WpC.regionL ?_
  refine L.move hF rfl rfl rfl ?_
  obtain ⟨r2, hr2, H⟩ := bindS H
  refine L.call [false] [] [] 1 hF rfl rfl rfl ent32 rfl rfl rfl rfl rfl (Flaws_big_gives k true a0 r2 hr2) rfl ?_
  refine L.nil ?_
  refine WpC.cond rfl (fun hc => ?_) (fun hc => ?_)
  · replace H := condT hc H
    refine WpC.seq ?_
    refine WpC.regionL ?_
    refine L.assign hF rfl rfl rfl ?_
    refine L.nil ?_
    refine WpC.ret ?_
    cases H
    exact Leaves.ret rfl rfl rfl ⟨rfl, rfl⟩
  · replace H := condF hc H
    refine WpC.skip ?_
    refine WpC.seq ?_
    refine WpC.regionL ?_
    refine L.move hF rfl rfl rfl ?_
    obtain ⟨r3, hr3, H⟩ := bindS H
    refine L.call [false, false] [] [] 2 hF rfl rfl rfl ent38 rfl rfl rfl rfl rfl (Flaws_at_gives k true a0 (0 : Int) r3 hr3) rfl ?_
    refine L.assign hF rfl rfl rfl ?_
    refine L.nil ?_
    refine WpC.seq ?_
    refine WpC.regionL ?_
    refine L.move hF rfl rfl rfl ?_
    obtain ⟨r4, hr4, H⟩ := bindS H
    refine L.call [false, false] [] [] 3 hF rfl rfl rfl ent38 rfl rfl rfl rfl rfl (Flaws_at_gives k true a0 (1 : Int) r4 hr4) rfl ?_
    refine L.assign hF rfl rfl rfl ?_
    refine L.nil ?_
    refine WpC.seq ?_
    refine WpC.regionL ?_
    refine L.move hF rfl rfl rfl ?_
    obtain ⟨r5, hr5, H⟩ := bindS H
    refine L.call [false] [] [] 4 hF rfl rfl rfl ent40 rfl rfl rfl rfl rfl (Fimpl_ShowFlags_gives k  r3 r5 hr5) rfl ?_
    obtain ⟨r6, hr6, H⟩ := bindS H
    refine L.call [false] [] [] 5 hF rfl rfl rfl ent39 rfl rfl rfl rfl rfl (Fimpl_ReadFlags_gives k  r5 r6 hr6) rfl ?_
    refine L.move hF rfl rfl rfl ?_
    refine L.extract hF rfl rfl rfl rfl ?_
    refine L.extract hF rfl rfl rfl rfl ?_
    refine L.assign hF rfl rfl rfl ?_
    refine L.assign hF rfl rfl rfl ?_
    refine L.nil ?_
    refine WpC.seq ?_
    refine WpC.regionL ?_
    refine L.move hF rfl rfl rfl ?_
    obtain ⟨r7, hr7, H⟩ := bindS H
    refine L.call [false] [] [] 7 hF rfl rfl rfl ent41 rfl rfl rfl rfl rfl (Fspec_DrawReadFlags_gives k  a0 r7 hr7) rfl ?_
    refine L.assign hF rfl rfl rfl ?_
    refine L.nil ?_
    refine WpC.seq ?_
    refine WpC.regionL ?_
    refine L.move hF rfl rfl rfl ?_
    obtain ⟨r8, hr8, H⟩ := bindS H
    refine L.call [false] [] [] 8 hF rfl rfl rfl ent39 rfl rfl rfl rfl rfl (Fimpl_ReadFlags_gives k  r7 r8 hr8) rfl ?_
    refine L.move hF rfl rfl rfl ?_
    refine L.extract hF rfl rfl rfl rfl ?_
    refine L.extract hF rfl rfl rfl rfl ?_
    refine L.assign hF rfl rfl rfl ?_
    refine L.assign hF rfl rfl rfl ?_
    refine L.nil ?_
    refine WpC.seq ?_
    refine WpC.regionL ?_
    refine L.move hF rfl rfl rfl ?_
    obtain ⟨r9, hr9, H⟩ := bindS H
    refine L.call [false] [] [] 10 hF rfl rfl rfl ent42 rfl rfl rfl rfl rfl (Fspec_ReadFlags_gives k  r7 r9 hr9) rfl ?_
    refine L.move hF rfl rfl rfl ?_
    refine L.extract hF rfl rfl rfl rfl ?_
    refine L.extract hF rfl rfl rfl rfl ?_
    refine L.assign hF rfl rfl rfl ?_
    refine L.assign hF rfl rfl rfl ?_
    refine L.nil ?_
    refine WpC.seq ?_
    refine WpC.regionL ?_
    refine L.move hF rfl rfl rfl ?_
    refine L.move hF rfl rfl rfl ?_
    refine L.split (fun hc => ?_) (fun hc => ?_)
    · replace H := condT hc H
      refine L.move hF rfl rfl rfl ?_
      refine L.move hF rfl rfl rfl ?_
      refine L.bin hF rfl rfl rfl rfl rfl rfl ?_
      refine L.pick hF rfl rfl rfl rfl ?_
      refine L.move hF rfl rfl rfl ?_
      refine L.split (fun hc => ?_) (fun hc => ?_)
      · replace H := condT hc H
        refine L.move hF rfl rfl rfl ?_
        obtain ⟨r17, hr17, H⟩ := bindS H
        refine L.call [false] [] [] 12 hF rfl rfl rfl ent40 rfl rfl rfl rfl rfl (Fimpl_ShowFlags_gives k  r3 r17 hr17) rfl ?_
        refine L.move hF rfl rfl rfl ?_
        obtain ⟨r18, hr18, H⟩ := bindS H
        refine L.call [false] [] [] 13 hF rfl rfl rfl ent40 rfl rfl rfl rfl rfl (Fimpl_ShowFlags_gives k  r4 r18 hr18) rfl ?_
        refine L.binS hF rfl rfl rfl rfl rfl ?_
        refine L.move hF rfl rfl rfl ?_
        refine L.move hF rfl rfl rfl ?_
        refine L.bin hF rfl rfl rfl rfl rfl rfl ?_
        refine L.eqL Try.underlying4 hF rfl rfl rfl rfl ?_
        refine L.pick hF rfl rfl rfl rfl ?_
        refine L.move hF rfl rfl rfl ?_
        refine L.split (fun hc => ?_) (fun hc => ?_)
        · replace H := condT hc H
          refine L.move hF rfl rfl rfl ?_
          refine L.move hF rfl rfl rfl ?_
          refine L.eqL Try.underlying4 hF rfl rfl rfl rfl ?_
          refine L.pick hF rfl rfl rfl rfl ?_
          refine L.move hF rfl rfl rfl ?_
          refine L.split (fun hc => ?_) (fun hc => ?_)
          · replace H := condT hc H
            refine L.move hF rfl rfl rfl ?_
            refine L.not hF rfl rfl rfl ?_
            refine L.move hF rfl rfl rfl ?_
            refine L.split (fun hc => ?_) (fun hc => ?_)
            · replace H := condT hc H
              refine L.off hF rfl rfl ?_
              refine L.off hF rfl rfl ?_
              refine L.off hF rfl rfl ?_
              refine L.off hF rfl rfl ?_
              refine L.pick hF rfl rfl rfl rfl ?_
              refine L.pick hF rfl rfl rfl rfl ?_
              refine L.move hF rfl rfl rfl ?_
              obtain ⟨r19, hr19, H⟩ := bindS H
              refine L.call [false] [] [] 14 hF rfl rfl rfl ent40 rfl rfl rfl rfl rfl (Fimpl_ShowFlags_gives k  (256 : Int) r19 hr19) rfl ?_
              refine L.binS hF rfl rfl rfl rfl rfl ?_
              refine L.pick hF rfl rfl rfl rfl ?_
              refine L.move hF rfl rfl rfl ?_
              refine L.split (fun hc => ?_) (fun hc => ?_)
              · replace H := condT hc H
                refine L.move hF rfl rfl rfl ?_
                obtain ⟨r20, hr20, H⟩ := bindS H
                refine L.call [false] [] [] 15 hF rfl rfl rfl ent43 rfl rfl rfl rfl rfl (Fimpl_FlagsOk_gives k  r3 r20 hr20) rfl ?_
                refine L.pick hF rfl rfl rfl rfl ?_
                refine L.assign hF rfl rfl rfl ?_
                refine L.nil ?_
                refine WpC.ret ?_
                cases H
                exact Leaves.ret rfl rfl rfl ⟨rfl, rfl⟩
              · replace H := condF hc H
                refine L.off hF rfl rfl ?_
                refine L.off hF rfl rfl ?_
                refine L.pick hF rfl rfl rfl rfl ?_
                refine L.assign hF rfl rfl rfl ?_
                refine L.nil ?_
                refine WpC.ret ?_
                cases H
                exact Leaves.ret rfl rfl rfl ⟨rfl, rfl⟩
            · replace H := condF hc H
              refine L.move hF rfl rfl rfl ?_
              obtain ⟨r21, hr21, H⟩ := bindS H
              refine L.call [false] [] [] 14 hF rfl rfl rfl ent40 rfl rfl rfl rfl rfl (Fimpl_ShowFlags_gives k  r8.1 r21 hr21) rfl ?_
              refine L.move hF rfl rfl rfl ?_
              refine L.binS hF rfl rfl rfl rfl rfl ?_
              refine L.pick hF rfl rfl rfl rfl ?_
              refine L.pick hF rfl rfl rfl rfl ?_
              refine L.move hF rfl rfl rfl ?_
              refine L.split (fun hc => ?_) (fun hc => ?_)
              · replace H := condT hc H
                obtain ⟨r22, hr22, H⟩ := bindS H
                refine L.call [false] [] [] 15 hF rfl rfl rfl ent40 rfl rfl rfl rfl rfl (Fimpl_ShowFlags_gives k  (256 : Int) r22 hr22) rfl ?_
                refine L.binS hF rfl rfl rfl rfl rfl ?_
                refine L.pick hF rfl rfl rfl rfl ?_
                refine L.move hF rfl rfl rfl ?_
                refine L.split (fun hc => ?_) (fun hc => ?_)
                · replace H := condT hc H
                  refine L.move hF rfl rfl rfl ?_
                  obtain ⟨r23, hr23, H⟩ := bindS H
                  refine L.call [false] [] [] 16 hF rfl rfl rfl ent43 rfl rfl rfl rfl rfl (Fimpl_FlagsOk_gives k  r3 r23 hr23) rfl ?_
                  refine L.pick hF rfl rfl rfl rfl ?_
                  refine L.assign hF rfl rfl rfl ?_
                  refine L.nil ?_
                  refine WpC.ret ?_
                  cases H
                  exact Leaves.ret rfl rfl rfl ⟨rfl, rfl⟩
                · replace H := condF hc H
                  refine L.off hF rfl rfl ?_
                  refine L.off hF rfl rfl ?_
                  refine L.pick hF rfl rfl rfl rfl ?_
                  refine L.assign hF rfl rfl rfl ?_
                  refine L.nil ?_
                  refine WpC.ret ?_
                  cases H
                  exact Leaves.ret rfl rfl rfl ⟨rfl, rfl⟩
              · replace H := condF hc H
                refine L.off hF rfl rfl ?_
                refine L.off hF rfl rfl ?_
                refine L.pick hF rfl rfl rfl rfl ?_
                refine L.move hF rfl rfl rfl ?_
                refine L.off hF rfl rfl ?_
                refine L.off hF rfl rfl ?_
                refine L.pick hF rfl rfl rfl rfl ?_
                refine L.assign hF rfl rfl rfl ?_
                refine L.nil ?_
                refine WpC.ret ?_
                cases H
                exact Leaves.ret rfl rfl rfl ⟨rfl, rfl⟩
          · replace H := condF hc H
            refine L.off hF rfl rfl ?_
            refine L.off hF rfl rfl ?_
            refine L.off hF rfl rfl ?_
            refine L.off hF rfl rfl ?_
            refine L.off hF rfl rfl ?_
            refine L.off hF rfl rfl ?_
            refine L.off hF rfl rfl ?_
            refine L.off hF rfl rfl ?_
            refine L.pick hF rfl rfl rfl rfl ?_
            refine L.move hF rfl rfl rfl ?_
            refine L.off hF rfl rfl ?_
            refine L.off hF rfl rfl ?_
            refine L.pick hF rfl rfl rfl rfl ?_
            refine L.move hF rfl rfl rfl ?_
            refine L.off hF rfl rfl ?_
            refine L.off hF rfl rfl ?_
            refine L.pick hF rfl rfl rfl rfl ?_
            refine L.assign hF rfl rfl rfl ?_
            refine L.nil ?_
            refine WpC.ret ?_
            cases H
            exact Leaves.ret rfl rfl rfl ⟨rfl, rfl⟩
        · replace H := condF hc H
          refine L.off hF rfl rfl ?_
          refine L.off hF rfl rfl ?_
          refine L.off hF rfl rfl ?_
          refine L.pick hF rfl rfl rfl rfl ?_
          refine L.move hF rfl rfl rfl ?_
          refine L.off hF rfl rfl ?_
          refine L.off hF rfl rfl ?_
          refine L.off hF rfl rfl ?_
          refine L.off hF rfl rfl ?_
          refine L.off hF rfl rfl ?_
          refine L.off hF rfl rfl ?_
          refine L.off hF rfl rfl ?_
          refine L.off hF rfl rfl ?_
          refine L.pick hF rfl rfl rfl rfl ?_
          refine L.move hF rfl rfl rfl ?_
          refine L.off hF rfl rfl ?_
          refine L.off hF rfl rfl ?_
          refine L.pick hF rfl rfl rfl rfl ?_
          refine L.move hF rfl rfl rfl ?_
          refine L.off hF rfl rfl ?_
          refine L.off hF rfl rfl ?_
          refine L.pick hF rfl rfl rfl rfl ?_
          refine L.assign hF rfl rfl rfl ?_
          refine L.nil ?_
          refine WpC.ret ?_
          cases H
          exact Leaves.ret rfl rfl rfl ⟨rfl, rfl⟩
      · replace H := condF hc H
        refine L.off hF rfl rfl ?_
        refine L.off hF rfl rfl ?_
        refine L.off hF rfl rfl ?_
        refine L.off hF rfl rfl ?_
        refine L.off hF rfl rfl ?_
        refine L.off hF rfl rfl ?_
        refine L.off hF rfl rfl ?_
        refine L.off hF rfl rfl ?_
        refine L.off hF rfl rfl ?_
        refine L.pick hF rfl rfl rfl rfl ?_
        refine L.move hF rfl rfl rfl ?_
        refine L.off hF rfl rfl ?_
        refine L.off hF rfl rfl ?_
        refine L.off hF rfl rfl ?_
        refine L.pick hF rfl rfl rfl rfl ?_
        refine L.move hF rfl rfl rfl ?_
        refine L.off hF rfl rfl ?_
        refine L.off hF rfl rfl ?_
        refine L.off hF rfl rfl ?_
        refine L.off hF rfl rfl ?_
        refine L.off hF rfl rfl ?_
        refine L.off hF rfl rfl ?_
        refine L.off hF rfl rfl ?_
        refine L.off hF rfl rfl ?_
        refine L.pick hF rfl rfl rfl rfl ?_
        refine L.move hF rfl rfl rfl ?_
        refine L.off hF rfl rfl ?_
        refine L.off hF rfl rfl ?_
        refine L.pick hF rfl rfl rfl rfl ?_
        refine L.move hF rfl rfl rfl ?_
        refine L.off hF rfl rfl ?_
        refine L.off hF rfl rfl ?_
        refine L.pick hF rfl rfl rfl rfl ?_
        refine L.assign hF rfl rfl rfl ?_
        refine L.nil ?_
        refine WpC.ret ?_
        cases H
        exact Leaves.ret rfl rfl rfl ⟨rfl, rfl⟩
    · replace H := condF hc H
      refine L.off hF rfl rfl ?_
      refine L.off hF rfl rfl ?_
      refine L.off hF rfl rfl ?_
      refine L.pick hF rfl rfl rfl rfl ?_
      refine L.move hF rfl rfl rfl ?_
      refine L.off hF rfl rfl ?_
      refine L.off hF rfl rfl ?_
      refine L.off hF rfl rfl ?_
      refine L.off hF rfl rfl ?_
      refine L.off hF rfl rfl ?_
      refine L.off hF rfl rfl ?_
      refine L.off hF rfl rfl ?_
      refine L.off hF rfl rfl ?_
      refine L.off hF rfl rfl ?_
      refine L.pick hF rfl rfl rfl rfl ?_
      refine L.move hF rfl rfl rfl ?_
      refine L.off hF rfl rfl ?_
      refine L.off hF rfl rfl ?_
      refine L.off hF rfl rfl ?_
      refine L.pick hF rfl rfl rfl rfl ?_
      refine L.move hF rfl rfl rfl ?_
      refine L.off hF rfl rfl ?_
      refine L.off hF rfl rfl ?_
      refine L.off hF rfl rfl ?_
      refine L.off hF rfl rfl ?_
      refine L.off hF rfl rfl ?_
      refine L.off hF rfl rfl ?_
      refine L.off hF rfl rfl ?_
      refine L.off hF rfl rfl ?_
      refine L.pick hF rfl rfl rfl rfl ?_
      refine L.move hF rfl rfl rfl ?_
      refine L.off hF rfl rfl ?_
      refine L.off hF rfl rfl ?_
      refine L.pick hF rfl rfl rfl rfl ?_
      refine L.move hF rfl rfl rfl ?_
      refine L.off hF rfl rfl ?_
      refine L.off hF rfl rfl ?_
      refine L.pick hF rfl rfl rfl rfl ?_
      refine L.assign hF rfl rfl rfl ?_
      refine L.nil ?_
      refine WpC.ret ?_
      cases H
      exact Leaves.ret rfl rfl rfl ⟨rfl, rfl⟩
theorem open35 : Go.MG.Opens Try.prog 35 (Go.MG.eR Go.MG.eB) (Go.MG.wfR (fun _ => True)) := Go.MG.Opens.slice Try.underlying35 (Go.MG.Opens.u8 Try.underlying5) (fun _ => (by kernel_rfl : Try.prog.cellsOf 5 = 1).symm) (fun _ => rfl) (fun _ => rfl) (by kernel_rfl)
end Go.Proofs.Ytflcaebmammlfaa.M
