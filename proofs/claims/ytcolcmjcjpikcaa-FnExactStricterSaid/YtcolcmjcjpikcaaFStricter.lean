import Derived.Test.YtcolcmjcjpikcaaFStricterx0
import Derived.Test.YtcolcmjcjpikcaaProg
namespace Go.Proofs.Ytcolcmjcjpikcaa.M
open Go Go.MG
set_option linter.unusedVariables false
set_option linter.unusedSimpArgs false
/-! ### Fimpl_Stricter_1 -/
def Fimpl_Stricter_1 (k : Nat) (a0 : Timpl_Rule) : Option Bool := cond (decide (a0.Kind ≤ (2 : Int))) (cond ((a0.Set.length : Int) == (0 : Int)) (some true) (cond (a0.Kind == (5 : Int)) (some (a0.N == (0 : Int))) (some false))) (cond (a0.Kind == (5 : Int)) (some (a0.N == (0 : Int))) (some false))
theorem ent171 : MG.Enters Try.prog 171 := ⟨Try.f171, Try.func171, rfl, by decide⟩
set_option maxHeartbeats 8000000 in
set_option maxRecDepth 100000 in
theorem Fimpl_Stricter_1_gives (k : Nat) (g0 : Bool) (a0 : Timpl_Rule) (r : Bool) (H : Fimpl_Stricter_1 k a0 = some r) : Gives Try.prog 171 [V.agg [cI a0.Kind, Cell.sl g0 (List.map eI a0.Set), cI a0.N]] [] [V.one (cL r)] [] := by
  refine Gives.intro Try.func171 rfl rfl rfl rfl ?_
  intro F hF hm
  unfold Fimpl_Stricter_1 at H
  obtain ⟨K, hK⟩ : ∃ K, k ≤ K := ⟨k, Nat.le_refl k⟩
  refine WpC.seq ?_
  refine WpC.regionL ?_
  refine L.box 3 hF rfl rfl rfl rfl ?_
  refine L.assign hF rfl rfl rfl ?_
  refine L.nil ?_
  refine WpC.seq ?_
  refine WpC.regionL ?_
  refine L.fieldAddr Try.underlying162 rfl info3 rfl hF rfl rfl rfl rfl rfl ?_
  refine L.loadPtr shape3 hF rfl rfl rfl rfl rfl rfl ?_
  refine L.bin hF rfl rfl rfl rfl rfl rfl ?_
  refine L.move hF rfl rfl rfl ?_
  refine L.split (fun hc => ?_) (fun hc => ?_)
  · replace H := condT hc H
    refine L.fieldAddr Try.underlying162 rfl info24 rfl hF rfl rfl rfl rfl rfl ?_
    refine L.loadPtr shape24 hF rfl rfl rfl rfl rfl rfl ?_
    refine L.lenR (xs := a0.Set) (e := eI) Try.underlying24 hF rfl rfl rfl rfl ?_
    refine L.bin hF rfl rfl rfl rfl rfl rfl ?_
    refine L.pick hF rfl rfl rfl rfl ?_
    refine L.move hF rfl rfl rfl ?_
    refine L.split (fun hc => ?_) (fun hc => ?_)
    · replace H := condT hc H
      refine L.off hF rfl rfl ?_
      refine L.off hF rfl rfl ?_
      refine L.off hF rfl rfl ?_
      refine L.off hF rfl rfl ?_
      refine L.off hF rfl rfl ?_
      refine L.off hF rfl rfl ?_
      refine L.off hF rfl rfl ?_
      refine L.off hF rfl rfl ?_
      refine L.pick hF rfl rfl rfl rfl ?_
      refine L.assign hF rfl rfl rfl ?_
      refine L.nil ?_
      refine WpC.ret ?_
      cases H
      exact Leaves.ret rfl rfl rfl ⟨rfl, rfl⟩
    · replace H := condF hc H
      refine L.fieldAddr Try.underlying162 rfl info3 rfl hF rfl rfl rfl rfl rfl ?_
      refine L.loadPtr shape3 hF rfl rfl rfl rfl rfl rfl ?_
      refine L.bin hF rfl rfl rfl rfl rfl rfl ?_
      refine L.move hF rfl rfl rfl ?_
      refine L.split (fun hc => ?_) (fun hc => ?_)
      · replace H := condT hc H
        refine L.fieldAddr Try.underlying162 rfl info3 rfl hF rfl rfl rfl rfl rfl ?_
        refine L.loadPtr shape3 hF rfl rfl rfl rfl rfl rfl ?_
        refine L.bin hF rfl rfl rfl rfl rfl rfl ?_
        refine L.pick hF rfl rfl rfl rfl ?_
        refine L.pick hF rfl rfl rfl rfl ?_
        refine L.assign hF rfl rfl rfl ?_
        refine L.nil ?_
        refine WpC.ret ?_
        cases H
        exact Leaves.ret rfl rfl rfl ⟨rfl, rfl⟩
      · replace H := condF hc H
        refine L.off hF rfl rfl ?_
        refine L.off hF rfl rfl ?_
        refine L.off hF rfl rfl ?_
        refine L.pick hF rfl rfl rfl rfl ?_
        refine L.pick hF rfl rfl rfl rfl ?_
        refine L.assign hF rfl rfl rfl ?_
        refine L.nil ?_
        refine WpC.ret ?_
        cases H
        exact Leaves.ret rfl rfl rfl ⟨rfl, rfl⟩
  · replace H := condF hc H
    refine L.off hF rfl rfl ?_
    refine L.off hF rfl rfl ?_
    refine L.off hF rfl rfl ?_
    refine L.off hF rfl rfl ?_
    refine L.pick hF rfl rfl rfl rfl ?_
    refine L.move hF rfl rfl rfl ?_
    refine L.fieldAddr Try.underlying162 rfl info3 rfl hF rfl rfl rfl rfl rfl ?_
    refine L.loadPtr shape3 hF rfl rfl rfl rfl rfl rfl ?_
    refine L.bin hF rfl rfl rfl rfl rfl rfl ?_
    refine L.move hF rfl rfl rfl ?_
    refine L.split (fun hc => ?_) (fun hc => ?_)
    · replace H := condT hc H
      refine L.fieldAddr Try.underlying162 rfl info3 rfl hF rfl rfl rfl rfl rfl ?_
      refine L.loadPtr shape3 hF rfl rfl rfl rfl rfl rfl ?_
      refine L.bin hF rfl rfl rfl rfl rfl rfl ?_
      refine L.pick hF rfl rfl rfl rfl ?_
      refine L.pick hF rfl rfl rfl rfl ?_
      refine L.assign hF rfl rfl rfl ?_
      refine L.nil ?_
      refine WpC.ret ?_
      cases H
      exact Leaves.ret rfl rfl rfl ⟨rfl, rfl⟩
    · replace H := condF hc H
      refine L.off hF rfl rfl ?_
      refine L.off hF rfl rfl ?_
      refine L.off hF rfl rfl ?_
      refine L.pick hF rfl rfl rfl rfl ?_
      refine L.pick hF rfl rfl rfl rfl ?_
      refine L.assign hF rfl rfl rfl ?_
      refine L.nil ?_
      refine WpC.ret ?_
      cases H
      exact Leaves.ret rfl rfl rfl ⟨rfl, rfl⟩
/-! ### Fslices_IndexFunc_Rule__impl_Stricter_1 -/
def Fslices_IndexFunc_Rule__impl_Stricter_1.l2 : Nat → (List Timpl_Rule) → Int → Int → Option Int
  | 0, _, _, _ => none
  | k2 + 1, v34, v35, v36 => cond (decide (v36 < v35)) ((at? v34 v36).bind fun b39 => (Fimpl_Stricter_1 k2 b39).bind fun r40 => cond r40 (some v36) ((Fslices_IndexFunc_Rule__impl_Stricter_1.l2 k2) v34 v35 (IntKind.i64.wrap (v36 + (1 : Int))))) (some (-1 : Int))
def Fslices_IndexFunc_Rule__impl_Stricter_1 (k : Nat) (a0 : List Timpl_Rule) : Option Int := Fslices_IndexFunc_Rule__impl_Stricter_1.l2 k a0 (a0.length : Int) (0 : Int)
set_option maxHeartbeats 8000000 in
set_option maxRecDepth 100000 in
theorem Fslices_IndexFunc_Rule__impl_Stricter_1_gives (k : Nat) (g0 : Bool) (a0 : List Timpl_Rule) (r : Int) (H : Fslices_IndexFunc_Rule__impl_Stricter_1 k a0 = some r) : Gives Try.prog 172 [V.one (Cell.sl g0 (List.map eTimpl_Rule a0)), V.one (Cell.clo 171 [])] [] [V.one (cI r)] [] := by
  refine Gives.intro Try.func172 rfl rfl rfl rfl ?_
  intro F hF hm
  unfold Fslices_IndexFunc_Rule__impl_Stricter_1 at H
  obtain ⟨K, hK⟩ : ∃ K, k ≤ K := ⟨k, Nat.le_refl k⟩
  refine WpC.seq ?_
  refine WpC.regionL ?_
  refine L.assign hF rfl rfl rfl ?_
  refine L.nil ?_
  refine WpC.seq ?_
  refine WpC.seq ?_
  refine WpC.regionL ?_
  refine L.move hF rfl rfl rfl ?_
  refine L.lenR (xs := a0) (e := eTimpl_Rule) Try.underlying44 hF rfl rfl rfl rfl ?_
  refine L.move hF rfl rfl rfl ?_
  refine L.nil ?_
  refine WpC.block ?_
  refine WpC.loopL (P := Try.prog) (fun n σ => ∃ v34 : List Timpl_Rule, ∃ v35 : Int, ∃ v36 : Int, n ≤ K ∧ Fslices_IndexFunc_Rule__impl_Stricter_1.l2 n v34 v35 v36 = some r ∧ σ = mkSt [(0, MG.one (Cell.sl g0 (List.map eTimpl_Rule v34))), (1, MG.one (Cell.clo 171 [])), (7, MG.one (cI v35)), (8, MG.one (cI v36))] [] [] 0) k ⟨_, ⟨a0, (a0.length : Int), (0 : Int), by omega, H, rfl⟩, Le.mk [] hm rfl ⟨⟨_, rfl, rfl⟩, ⟨_, rfl, rfl⟩, ⟨_, rfl, rfl⟩, ⟨_, rfl, rfl⟩, trivial⟩ trivial trivial⟩ ?_
  clear H
  rintro k2 _ ⟨v34, v35, v36, hk2, H, rfl⟩
  cases k2 with
  | zero => cases H
  | succ k2 =>
    rw [Fslices_IndexFunc_Rule__impl_Stricter_1.l2] at H
    refine WpC.seq ?_
    refine WpC.regionL ?_
    refine L.bin hF rfl rfl rfl rfl rfl rfl ?_
    refine L.nil ?_
    refine WpC.seq ?_
    refine WpC.cond rfl (fun hc => ?_) (fun hc => ?_)
    · replace H := condT hc H
      refine WpC.skip ?_
      refine WpC.seq ?_
      refine WpC.block ?_
      refine WpC.seq ?_
      refine WpC.regionL ?_
      refine L.move hF rfl rfl rfl ?_
      refine L.assign hF rfl rfl rfl ?_
      refine L.nil ?_
      refine WpC.seq ?_
      refine WpC.regionL ?_
      refine L.move hF rfl rfl rfl ?_
      refine L.move hF rfl rfl rfl ?_
      refine L.move hF rfl rfl rfl ?_
      obtain ⟨b39, hb39, H⟩ := bindS H
      refine L.idxR (xs := v34) (e := eTimpl_Rule) Try.underlying44 info162 hF rfl rfl rfl rfl rfl hb39 rfl rfl ?_
      refine L.loadPe shape162 hF rfl rfl rfl rfl rfl ?_
      obtain ⟨r40, hr40, H⟩ := bindS H
      refine L.call [false] [] [] 0 hF rfl rfl rfl ent171 rfl rfl rfl rfl rfl (Fimpl_Stricter_1_gives k2 true b39 r40 hr40) rfl ?_
      refine L.nil ?_
      refine WpC.cond rfl (fun hc => ?_) (fun hc => ?_)
      · replace H := condT hc H
        refine WpC.seq ?_
        refine WpC.regionL ?_
        refine L.move hF rfl rfl rfl ?_
        refine L.assign hF rfl rfl rfl ?_
        refine L.nil ?_
        refine WpC.ret ?_
        cases H
        exact Leaves.ret rfl rfl rfl ⟨rfl, rfl⟩
      · replace H := condF hc H
        refine WpC.skip ?_
        refine WpC.regionL ?_
        refine L.bin hF rfl rfl rfl rfl rfl rfl ?_
        refine L.move hF rfl rfl rfl ?_
        refine L.nil ?_
        exact ⟨k2, _, by omega, ⟨v34, v35, (IntKind.i64.wrap (v36 + (1 : Int))), by omega, H, rfl⟩, Le.mk [] hm rfl ⟨⟨_, rfl, rfl⟩, ⟨_, rfl, rfl⟩, ⟨_, rfl, rfl⟩, ⟨_, rfl, rfl⟩, trivial⟩ trivial trivial⟩
    · replace H := condF hc H
      refine WpC.exit ?_
      refine WpC.seq ?_
      refine WpC.regionL ?_
      refine L.assign hF rfl rfl rfl ?_
      refine L.nil ?_
      refine WpC.ret ?_
      cases H
      exact Leaves.ret rfl rfl rfl ⟨rfl, rfl⟩
/-! ### Fslices_ContainsFunc_Rule__impl_Stricter_1 -/
def Fslices_ContainsFunc_Rule__impl_Stricter_1 (k : Nat) (a0 : List Timpl_Rule) : Option Bool := (Fslices_IndexFunc_Rule__impl_Stricter_1 k a0).bind fun r1 => some (decide (r1 ≥ (0 : Int)))
set_option maxHeartbeats 8000000 in
set_option maxRecDepth 100000 in
theorem Fslices_ContainsFunc_Rule__impl_Stricter_1_gives (k : Nat) (g0 : Bool) (a0 : List Timpl_Rule) (r : Bool) (H : Fslices_ContainsFunc_Rule__impl_Stricter_1 k a0 = some r) : Gives Try.prog 170 [V.one (Cell.sl g0 (List.map eTimpl_Rule a0)), V.one (Cell.clo 171 [])] [] [V.one (cL r)] [] := by
  refine Gives.intro Try.func170 rfl rfl rfl rfl ?_
  intro F hF hm
  unfold Fslices_ContainsFunc_Rule__impl_Stricter_1 at H
  obtain ⟨K, hK⟩ : ∃ K, k ≤ K := ⟨k, Nat.le_refl k⟩
  refine WpC.seq ?_
  refine WpC.regionL ?_
  refine L.assign hF rfl rfl rfl ?_
  refine L.nil ?_
  refine WpC.seq ?_
  refine WpC.regionL ?_
  refine L.move hF rfl rfl rfl ?_
  refine L.move hF rfl rfl rfl ?_
  obtain ⟨r1, hr1, H⟩ := bindS H
  refine L.call [false, false] [] [] 2 hF rfl rfl rfl ent172 rfl rfl rfl rfl rfl (Fslices_IndexFunc_Rule__impl_Stricter_1_gives k g0 a0 r1 hr1) rfl ?_
  refine L.bin hF rfl rfl rfl rfl rfl rfl ?_
  refine L.assign hF rfl rfl rfl ?_
  refine L.nil ?_
  refine WpC.ret ?_
  cases H
  exact Leaves.ret rfl rfl rfl ⟨rfl, rfl⟩
/-! ### Fimpl_Stricter_2 -/
def Fimpl_Stricter_2 (k : Nat) (a0 : Timpl_Rule) (o0 : Timpl_Rule) : Option Bool := some (a0.Kind == o0.Kind)
theorem ent173 : MG.Enters Try.prog 173 := ⟨Try.f173, Try.func173, rfl, by decide⟩
set_option maxHeartbeats 8000000 in
set_option maxRecDepth 100000 in
theorem Fimpl_Stricter_2_gives (k : Nat) (g0 : Bool) (a0 : Timpl_Rule) (o0 : Timpl_Rule) (r : Bool) (H : Fimpl_Stricter_2 k a0 o0 = some r) : Gives Try.prog 173 [V.agg [cI a0.Kind, Cell.sl g0 (List.map eI a0.Set), cI a0.N], V.one (Cell.ptr 0 0)] [[cI o0.Kind, Cell.sl true (List.map eI o0.Set), cI o0.N]] [V.one (cL r)] [[cI o0.Kind, Cell.sl true (List.map eI o0.Set), cI o0.N]] := by
  refine Gives.intro Try.func173 rfl rfl rfl rfl ?_
  intro F hF hm
  unfold Fimpl_Stricter_2 at H
  obtain ⟨K, hK⟩ : ∃ K, k ≤ K := ⟨k, Nat.le_refl k⟩
  refine WpC.seq ?_
  refine WpC.regionL ?_
  refine L.box 8 hF rfl rfl rfl rfl ?_
  refine L.assign hF rfl rfl rfl ?_
  refine L.nil ?_
  refine WpC.seq ?_
  refine WpC.regionL ?_
  refine L.fieldAddr Try.underlying162 rfl info3 rfl hF rfl rfl rfl rfl rfl ?_
  refine L.loadPtr shape3 hF rfl rfl rfl rfl rfl rfl ?_
  refine L.fieldAddr Try.underlying162 rfl info3 rfl hF rfl rfl rfl rfl rfl ?_
  refine L.loadPtr shape3 hF rfl rfl rfl rfl rfl rfl ?_
  refine L.bin hF rfl rfl rfl rfl rfl rfl ?_
  refine L.assign hF rfl rfl rfl ?_
  refine L.nil ?_
  refine WpC.ret ?_
  cases H
  exact Leaves.ret rfl rfl rfl ⟨rfl, rfl⟩
/-! ### Fslices_IndexFunc_Rule__impl_Stricter_2 -/
def Fslices_IndexFunc_Rule__impl_Stricter_2.l2 : Nat → (List Timpl_Rule) → Int → Int → Int → (List Int) → Int → Option (Int × Timpl_Rule)
  | 0, _, _, _, _, _, _ => none
  | k2 + 1, v49, v50, v51, v52, v53, v54 => cond (decide (v51 < v50)) ((at? v49 v51).bind fun b57 => (Fimpl_Stricter_2 k2 b57 (⟨v52, v53, v54⟩ : Timpl_Rule)).bind fun r58 => cond r58 (some (v51, (⟨v52, v53, v54⟩ : Timpl_Rule))) ((Fslices_IndexFunc_Rule__impl_Stricter_2.l2 k2) v49 v50 (IntKind.i64.wrap (v51 + (1 : Int))) v52 v53 v54)) (some ((-1 : Int), (⟨v52, v53, v54⟩ : Timpl_Rule)))
def Fslices_IndexFunc_Rule__impl_Stricter_2 (k : Nat) (a0 : List Timpl_Rule) (o0 : Timpl_Rule) : Option (Int × Timpl_Rule) := Fslices_IndexFunc_Rule__impl_Stricter_2.l2 k a0 (a0.length : Int) (0 : Int) o0.Kind o0.Set o0.N
set_option maxHeartbeats 8000000 in
set_option maxRecDepth 100000 in
theorem Fslices_IndexFunc_Rule__impl_Stricter_2_gives (k : Nat) (g0 : Bool) (a0 : List Timpl_Rule) (o0 : Timpl_Rule) (r : Int × Timpl_Rule) (H : Fslices_IndexFunc_Rule__impl_Stricter_2 k a0 o0 = some r) : Gives Try.prog 172 [V.one (Cell.sl g0 (List.map eTimpl_Rule a0)), V.one (Cell.clo 173 [Cell.ptr 0 0])] [[cI o0.Kind, Cell.sl true (List.map eI o0.Set), cI o0.N]] [V.one (cI r.1)] [[cI r.2.Kind, Cell.sl true (List.map eI r.2.Set), cI r.2.N]] := by
  refine Gives.intro Try.func172 rfl rfl rfl rfl ?_
  intro F hF hm
  unfold Fslices_IndexFunc_Rule__impl_Stricter_2 at H
  obtain ⟨K, hK⟩ : ∃ K, k ≤ K := ⟨k, Nat.le_refl k⟩
  refine WpC.seq ?_
  refine WpC.regionL ?_
  refine L.assign hF rfl rfl rfl ?_
  refine L.nil ?_
  refine WpC.seq ?_
  refine WpC.seq ?_
  refine WpC.regionL ?_
  refine L.move hF rfl rfl rfl ?_
  refine L.lenR (xs := a0) (e := eTimpl_Rule) Try.underlying44 hF rfl rfl rfl rfl ?_
  refine L.move hF rfl rfl rfl ?_
  refine L.nil ?_
  refine WpC.block ?_
  refine WpC.loopL (P := Try.prog) (fun n σ => ∃ v49 : List Timpl_Rule, ∃ v50 : Int, ∃ v51 : Int, ∃ v52 : Int, ∃ v53 : List Int, ∃ v54 : Int, n ≤ K ∧ Fslices_IndexFunc_Rule__impl_Stricter_2.l2 n v49 v50 v51 v52 v53 v54 = some r ∧ σ = mkSt [(0, MG.one (Cell.sl g0 (List.map eTimpl_Rule v49))), (1, MG.one (Cell.clo 173 [Cell.ptr 0 0])), (7, MG.one (cI v50)), (8, MG.one (cI v51))] [] [(0, [cI v52, Cell.sl true (List.map eI v53), cI v54])] 1) k ⟨_, ⟨a0, (a0.length : Int), (0 : Int), o0.Kind, o0.Set, o0.N, by omega, H, rfl⟩, Le.mk [(0, 0)] hm rfl ⟨⟨_, rfl, rfl⟩, ⟨_, rfl, rfl⟩, ⟨_, rfl, rfl⟩, ⟨_, rfl, rfl⟩, trivial⟩ trivial ⟨⟨_, _, rfl, rfl, rfl⟩, trivial⟩⟩ ?_
  clear H
  rintro k2 _ ⟨v49, v50, v51, v52, v53, v54, hk2, H, rfl⟩
  cases k2 with
  | zero => cases H
  | succ k2 =>
    rw [Fslices_IndexFunc_Rule__impl_Stricter_2.l2] at H
    refine WpC.seq ?_
    refine WpC.regionL ?_
    refine L.bin hF rfl rfl rfl rfl rfl rfl ?_
    refine L.nil ?_
    refine WpC.seq ?_
    refine WpC.cond rfl (fun hc => ?_) (fun hc => ?_)
    · replace H := condT hc H
      refine WpC.skip ?_
      refine WpC.seq ?_
      refine WpC.block ?_
      refine WpC.seq ?_
      refine WpC.regionL ?_
      refine L.move hF rfl rfl rfl ?_
      refine L.assign hF rfl rfl rfl ?_
      refine L.nil ?_
      refine WpC.seq ?_
      refine WpC.regionL ?_
      refine L.move hF rfl rfl rfl ?_
      refine L.move hF rfl rfl rfl ?_
      refine L.move hF rfl rfl rfl ?_
      obtain ⟨b57, hb57, H⟩ := bindS H
      refine L.idxR (xs := v49) (e := eTimpl_Rule) Try.underlying44 info162 hF rfl rfl rfl rfl rfl hb57 rfl rfl ?_
      refine L.loadPe shape162 hF rfl rfl rfl rfl rfl ?_
      obtain ⟨r58, hr58, H⟩ := bindS H
      refine L.call [false] [] [0] 1 hF rfl rfl rfl ent173 rfl rfl rfl rfl rfl (Fimpl_Stricter_2_gives k2 true b57 (⟨v52, v53, v54⟩ : Timpl_Rule) r58 hr58) rfl ?_
      refine L.nil ?_
      refine WpC.cond rfl (fun hc => ?_) (fun hc => ?_)
      · replace H := condT hc H
        refine WpC.seq ?_
        refine WpC.regionL ?_
        refine L.move hF rfl rfl rfl ?_
        refine L.assign hF rfl rfl rfl ?_
        refine L.nil ?_
        refine WpC.ret ?_
        cases H
        exact Leaves.ret rfl rfl rfl ⟨rfl, rfl⟩
      · replace H := condF hc H
        refine WpC.skip ?_
        refine WpC.regionL ?_
        refine L.bin hF rfl rfl rfl rfl rfl rfl ?_
        refine L.move hF rfl rfl rfl ?_
        refine L.nil ?_
        exact ⟨k2, _, by omega, ⟨v49, v50, (IntKind.i64.wrap (v51 + (1 : Int))), v52, v53, v54, by omega, H, rfl⟩, Le.mk [(0, 0)] hm rfl ⟨⟨_, rfl, rfl⟩, ⟨_, rfl, rfl⟩, ⟨_, rfl, rfl⟩, ⟨_, rfl, rfl⟩, trivial⟩ trivial ⟨⟨_, _, rfl, rfl, rfl⟩, trivial⟩⟩
    · replace H := condF hc H
      refine WpC.exit ?_
      refine WpC.seq ?_
      refine WpC.regionL ?_
      refine L.assign hF rfl rfl rfl ?_
      refine L.nil ?_
      refine WpC.ret ?_
      cases H
      exact Leaves.ret rfl rfl rfl ⟨rfl, rfl⟩
/-! ### Fimpl_isWithin_1 -/
def Fimpl_isWithin_1 (k : Nat) (a0 : Int) (o0 : List Int) : Option Bool := (Fslices_Contains_int k o0 a0).bind fun r1 => some (!r1)
theorem ent259 : MG.Enters Try.prog 259 := ⟨Try.f259, Try.func259, rfl, by decide⟩
set_option maxHeartbeats 8000000 in
set_option maxRecDepth 100000 in
theorem Fimpl_isWithin_1_gives (k : Nat) (a0 : Int) (o0 : List Int) (r : Bool) (H : Fimpl_isWithin_1 k a0 o0 = some r) : Gives Try.prog 259 [V.one (cI a0), V.one (Cell.ptr 0 0)] [[Cell.sl true (List.map eI o0)]] [V.one (cL r)] [[Cell.sl true (List.map eI o0)]] := by
  refine Gives.intro Try.func259 rfl rfl rfl rfl ?_
  intro F hF hm
  unfold Fimpl_isWithin_1 at H
  obtain ⟨K, hK⟩ : ∃ K, k ≤ K := ⟨k, Nat.le_refl k⟩
  refine WpC.seq ?_
  refine WpC.regionL ?_
  refine L.assign hF rfl rfl rfl ?_
  refine L.nil ?_
  refine WpC.seq ?_
  refine WpC.regionL ?_
  refine L.loadPtr shape24 hF rfl rfl rfl rfl rfl rfl ?_
  refine L.move hF rfl rfl rfl ?_
  obtain ⟨r1, hr1, H⟩ := bindS H
  refine L.call [false, false] [] [] 4 hF rfl rfl rfl ent260 rfl rfl rfl rfl rfl (Fslices_Contains_int_gives k true o0 a0 r1 hr1) rfl ?_
  refine L.not hF rfl rfl rfl ?_
  refine L.assign hF rfl rfl rfl ?_
  refine L.nil ?_
  refine WpC.ret ?_
  cases H
  exact Leaves.ret rfl rfl rfl ⟨rfl, rfl⟩
/-! ### Fslices_IndexFunc_int__impl_isWithin_1 -/
def Fslices_IndexFunc_int__impl_isWithin_1.l2 : Nat → (List Int) → Int → Int → (List Int) → Option (Int × List Int)
  | 0, _, _, _, _ => none
  | k2 + 1, v39, v40, v41, v42 => cond (decide (v41 < v40)) ((at? v39 v41).bind fun b45 => (Fimpl_isWithin_1 k2 b45 v42).bind fun r46 => cond r46 (some (v41, v42)) ((Fslices_IndexFunc_int__impl_isWithin_1.l2 k2) v39 v40 (IntKind.i64.wrap (v41 + (1 : Int))) v42)) (some ((-1 : Int), v42))
def Fslices_IndexFunc_int__impl_isWithin_1 (k : Nat) (a0 : List Int) (o0 : List Int) : Option (Int × List Int) := Fslices_IndexFunc_int__impl_isWithin_1.l2 k a0 (a0.length : Int) (0 : Int) o0
theorem ent129 : MG.Enters Try.prog 129 := ⟨Try.f129, Try.func129, rfl, by decide⟩
set_option maxHeartbeats 8000000 in
set_option maxRecDepth 100000 in
theorem Fslices_IndexFunc_int__impl_isWithin_1_gives (k : Nat) (g0 : Bool) (a0 : List Int) (o0 : List Int) (r : Int × List Int) (H : Fslices_IndexFunc_int__impl_isWithin_1 k a0 o0 = some r) : Gives Try.prog 129 [V.one (Cell.sl g0 (List.map eI a0)), V.one (Cell.clo 259 [Cell.ptr 0 0])] [[Cell.sl true (List.map eI o0)]] [V.one (cI r.1)] [[Cell.sl true (List.map eI r.2)]] := by
  refine Gives.intro Try.func129 rfl rfl rfl rfl ?_
  intro F hF hm
  unfold Fslices_IndexFunc_int__impl_isWithin_1 at H
  obtain ⟨K, hK⟩ : ∃ K, k ≤ K := ⟨k, Nat.le_refl k⟩
  refine WpC.seq ?_
  refine WpC.regionL ?_
  refine L.assign hF rfl rfl rfl ?_
  refine L.nil ?_
  refine WpC.seq ?_
  refine WpC.seq ?_
  refine WpC.regionL ?_
  refine L.move hF rfl rfl rfl ?_
  refine L.lenR (xs := a0) (e := eI) Try.underlying24 hF rfl rfl rfl rfl ?_
  refine L.move hF rfl rfl rfl ?_
  refine L.nil ?_
  refine WpC.block ?_
  refine WpC.loopL (P := Try.prog) (fun n σ => ∃ v39 : List Int, ∃ v40 : Int, ∃ v41 : Int, ∃ v42 : List Int, n ≤ K ∧ Fslices_IndexFunc_int__impl_isWithin_1.l2 n v39 v40 v41 v42 = some r ∧ σ = mkSt [(0, MG.one (Cell.sl g0 (List.map eI v39))), (1, MG.one (Cell.clo 259 [Cell.ptr 0 0])), (7, MG.one (cI v40)), (8, MG.one (cI v41))] [] [(0, [Cell.sl true (List.map eI v42)])] 1) k ⟨_, ⟨a0, (a0.length : Int), (0 : Int), o0, by omega, H, rfl⟩, Le.mk [(0, 0)] hm rfl ⟨⟨_, rfl, rfl⟩, ⟨_, rfl, rfl⟩, ⟨_, rfl, rfl⟩, ⟨_, rfl, rfl⟩, trivial⟩ trivial ⟨⟨_, _, rfl, rfl, rfl⟩, trivial⟩⟩ ?_
  clear H
  rintro k2 _ ⟨v39, v40, v41, v42, hk2, H, rfl⟩
  cases k2 with
  | zero => cases H
  | succ k2 =>
    rw [Fslices_IndexFunc_int__impl_isWithin_1.l2] at H
    refine WpC.seq ?_
    refine WpC.regionL ?_
    refine L.bin hF rfl rfl rfl rfl rfl rfl ?_
    refine L.nil ?_
    refine WpC.seq ?_
    refine WpC.cond rfl (fun hc => ?_) (fun hc => ?_)
    · replace H := condT hc H
      refine WpC.skip ?_
      refine WpC.seq ?_
      refine WpC.block ?_
      refine WpC.seq ?_
      refine WpC.regionL ?_
      refine L.move hF rfl rfl rfl ?_
      refine L.assign hF rfl rfl rfl ?_
      refine L.nil ?_
      refine WpC.seq ?_
      refine WpC.regionL ?_
      refine L.move hF rfl rfl rfl ?_
      refine L.move hF rfl rfl rfl ?_
      refine L.move hF rfl rfl rfl ?_
      obtain ⟨b45, hb45, H⟩ := bindS H
      refine L.idxR (xs := v39) (e := eI) Try.underlying24 info3 hF rfl rfl rfl rfl rfl hb45 rfl rfl ?_
      refine L.loadPe shape3 hF rfl rfl rfl rfl rfl ?_
      obtain ⟨r46, hr46, H⟩ := bindS H
      refine L.call [false] [] [0] 1 hF rfl rfl rfl ent259 rfl rfl rfl rfl rfl (Fimpl_isWithin_1_gives k2  b45 v42 r46 hr46) rfl ?_
      refine L.nil ?_
      refine WpC.cond rfl (fun hc => ?_) (fun hc => ?_)
      · replace H := condT hc H
        refine WpC.seq ?_
        refine WpC.regionL ?_
        refine L.move hF rfl rfl rfl ?_
        refine L.assign hF rfl rfl rfl ?_
        refine L.nil ?_
        refine WpC.ret ?_
        cases H
        exact Leaves.ret rfl rfl rfl ⟨rfl, rfl⟩
      · replace H := condF hc H
        refine WpC.skip ?_
        refine WpC.regionL ?_
        refine L.bin hF rfl rfl rfl rfl rfl rfl ?_
        refine L.move hF rfl rfl rfl ?_
        refine L.nil ?_
        exact ⟨k2, _, by omega, ⟨v39, v40, (IntKind.i64.wrap (v41 + (1 : Int))), v42, by omega, H, rfl⟩, Le.mk [(0, 0)] hm rfl ⟨⟨_, rfl, rfl⟩, ⟨_, rfl, rfl⟩, ⟨_, rfl, rfl⟩, ⟨_, rfl, rfl⟩, trivial⟩ trivial ⟨⟨_, _, rfl, rfl, rfl⟩, trivial⟩⟩
    · replace H := condF hc H
      refine WpC.exit ?_
      refine WpC.seq ?_
      refine WpC.regionL ?_
      refine L.assign hF rfl rfl rfl ?_
      refine L.nil ?_
      refine WpC.ret ?_
      cases H
      exact Leaves.ret rfl rfl rfl ⟨rfl, rfl⟩
/-! ### Fslices_ContainsFunc_int__impl_isWithin_1 -/
def Fslices_ContainsFunc_int__impl_isWithin_1 (k : Nat) (a0 : List Int) (o0 : List Int) : Option (Bool × List Int) := (Fslices_IndexFunc_int__impl_isWithin_1 k a0 o0).bind fun r1 => some ((decide (r1.1 ≥ (0 : Int))), r1.2)
theorem ent258 : MG.Enters Try.prog 258 := ⟨Try.f258, Try.func258, rfl, by decide⟩
set_option maxHeartbeats 8000000 in
set_option maxRecDepth 100000 in
theorem Fslices_ContainsFunc_int__impl_isWithin_1_gives (k : Nat) (g0 : Bool) (a0 : List Int) (o0 : List Int) (r : Bool × List Int) (H : Fslices_ContainsFunc_int__impl_isWithin_1 k a0 o0 = some r) : Gives Try.prog 258 [V.one (Cell.sl g0 (List.map eI a0)), V.one (Cell.clo 259 [Cell.ptr 0 0])] [[Cell.sl true (List.map eI o0)]] [V.one (cL r.1)] [[Cell.sl true (List.map eI r.2)]] := by
  refine Gives.intro Try.func258 rfl rfl rfl rfl ?_
  intro F hF hm
  unfold Fslices_ContainsFunc_int__impl_isWithin_1 at H
  obtain ⟨K, hK⟩ : ∃ K, k ≤ K := ⟨k, Nat.le_refl k⟩
  refine WpC.seq ?_
  refine WpC.regionL ?_
  refine L.assign hF rfl rfl rfl ?_
  refine L.nil ?_
  refine WpC.seq ?_
  refine WpC.regionL ?_
  refine L.move hF rfl rfl rfl ?_
  refine L.move hF rfl rfl rfl ?_
  obtain ⟨r1, hr1, H⟩ := bindS H
  refine L.call [false, false] [] [0] 4 hF rfl rfl rfl ent129 rfl rfl rfl rfl rfl (Fslices_IndexFunc_int__impl_isWithin_1_gives k g0 a0 o0 r1 hr1) rfl ?_
  refine L.bin hF rfl rfl rfl rfl rfl rfl ?_
  refine L.assign hF rfl rfl rfl ?_
  refine L.nil ?_
  refine WpC.ret ?_
  cases H
  exact Leaves.ret rfl rfl rfl ⟨rfl, rfl⟩
/-! ### Fimpl_isWithin -/
def Fimpl_isWithin (k : Nat) (a0 : List Int) (a1 : List Int) : Option Bool := (Fslices_ContainsFunc_int__impl_isWithin_1 k a0 a1).bind fun r1 => some (!r1.1)
theorem ent174 : MG.Enters Try.prog 174 := ⟨Try.f174, Try.func174, rfl, by decide⟩
set_option maxHeartbeats 8000000 in
set_option maxRecDepth 100000 in
theorem Fimpl_isWithin_gives (k : Nat) (g0 : Bool) (a0 : List Int) (a1 : List Int) (r : Bool) (H : Fimpl_isWithin k a0 a1 = some r) : Gives Try.prog 174 [V.one (Cell.sl g0 (List.map eI a0)), V.one (Cell.sl true (List.map eI a1))] [] [V.one (cL r)] [] := by
  refine Gives.intro Try.func174 rfl rfl rfl rfl ?_
  intro F hF hm
  unfold Fimpl_isWithin at H
  obtain ⟨K, hK⟩ : ∃ K, k ≤ K := ⟨k, Nat.le_refl k⟩
  refine WpC.seq ?_
  refine WpC.regionL ?_
  refine L.box 2 hF rfl rfl rfl rfl ?_
  refine L.assign hF rfl rfl rfl ?_
  refine L.nil ?_
  refine WpC.seq ?_
  refine WpC.regionL ?_
  refine L.move hF rfl rfl rfl ?_
  refine L.makeFunc hF rfl rfl rfl ?_
  obtain ⟨r1, hr1, H⟩ := bindS H
  refine L.call [false, false] [] [2] 3 hF rfl rfl rfl ent258 rfl rfl rfl rfl rfl (Fslices_ContainsFunc_int__impl_isWithin_1_gives k g0 a0 a1 r1 hr1) rfl ?_
  refine L.not hF rfl rfl rfl ?_
  refine L.assign hF rfl rfl rfl ?_
  refine L.nil ?_
  refine WpC.ret ?_
  cases H
  exact Leaves.ret rfl rfl rfl ⟨rfl, rfl⟩
/-! ### Fimpl_Stricter -/
def Fimpl_Stricter.j19 (cl17 : (List Timpl_Rule) → (List Timpl_Rule) → Int → Int → Option Bool) (k : Nat) (v248 : List Timpl_Rule) (v249 : List Timpl_Rule) (v250 : Int) (v251 : Int) : Option Bool := cl17 v248 v249 v250 (IntKind.i64.wrap (v251 + (1 : Int)))
def Fimpl_Stricter.j20 (cl17 : (List Timpl_Rule) → (List Timpl_Rule) → Int → Int → Option Bool) (k : Nat) (v255 : List Timpl_Rule) (v256 : Int) (v257 : List Timpl_Rule) (v258 : Int) (v259 : Int) (v260 : Int) (v261 : List Int) (v262 : Int) (v263 : Int) (v264 : List Int) (v265 : Int) : Option Bool := cond (v260 == (3 : Int)) ((Fimpl_isWithin k v261 v264).bind fun r266 => cond (!r266) (some false) (Fimpl_Stricter.j19 cl17 k v255 v257 v258 v259)) (cond (decide (v256 < (0 : Int))) (some false) (cond (decide (v265 > v262)) (some false) ((Fimpl_isWithin k v264 v261).bind fun r268 => cond (!r268) (some false) (Fimpl_Stricter.j19 cl17 k v255 v257 v258 v259))))
def Fimpl_Stricter.l17 : Nat → (List Timpl_Rule) → (List Timpl_Rule) → Int → Int → Option Bool
  | 0, _, _, _, _ => none
  | k17 + 1, v226, v227, v228, v229 => cond (decide (v229 < v228)) ((at? v227 v229).bind fun b252 => (Fslices_IndexFunc_Rule__impl_Stricter_2 k17 v226 b252).bind fun r253 => cond (decide (r253.1 ≥ (0 : Int))) ((at? v226 r253.1).bind fun b269 => Fimpl_Stricter.j20 (Fimpl_Stricter.l17 k17) k17 v226 r253.1 v227 v228 v229 r253.2.Kind r253.2.Set r253.2.N b269.Kind b269.Set b269.N) (Fimpl_Stricter.j20 (Fimpl_Stricter.l17 k17) k17 v226 r253.1 v227 v228 v229 r253.2.Kind r253.2.Set r253.2.N (0 : Int) [] (0 : Int))) (some true)
def Fimpl_Stricter (k : Nat) (a0 : List Timpl_Rule) (a1 : List Timpl_Rule) : Option Bool := (Fimpl_RulesOk k a0).bind fun r7 => cond (!r7) (some false) ((Fimpl_RulesOk k a1).bind fun r8 => cond (!r8) (some false) ((Fimpl_normal k a0).bind fun r9 => (Fslices_ContainsFunc_Rule__impl_Stricter_1 k r9).bind fun r11 => cond r11 (some true) ((Fimpl_normal k a1).bind fun r141 => Fimpl_Stricter.l17 k r9 r141 (r141.length : Int) (0 : Int))))
theorem ent86 : MG.Enters Try.prog 86 := ⟨Try.f86, Try.func86, rfl, by decide⟩
set_option maxHeartbeats 8000000 in
set_option maxRecDepth 100000 in
theorem Fimpl_Stricter_gives (k : Nat) (g0 : Bool) (g1 : Bool) (a0 : List Timpl_Rule) (a1 : List Timpl_Rule) (r : Bool) (H : Fimpl_Stricter k a0 a1 = some r) : Gives Try.prog 86 [V.one (Cell.sl g0 (List.map eTimpl_Rule a0)), V.one (Cell.sl g1 (List.map eTimpl_Rule a1))] [] [V.one (cL r)] [] := by
  refine Gives.intro Try.func86 rfl rfl rfl rfl ?_
  intro F hF hm
  unfold Fimpl_Stricter at H
  obtain ⟨K, hK⟩ : ∃ K, k ≤ K := ⟨k, Nat.le_refl k⟩
  refine WpC.seq ?_
  refine WpC.regionL ?_
  refine L.assign hF rfl rfl rfl ?_
  refine L.nil ?_
  refine WpC.seq ?_
  refine WpC.seq ?_
  refine WpC.regionL ?_
  refine L.move hF rfl rfl rfl ?_
  obtain ⟨r7, hr7, H⟩ := bindS H
  refine L.call [false] [] [] 2 hF rfl rfl rfl ent123 rfl rfl rfl rfl rfl (Fimpl_RulesOk_gives k g0 a0 r7 hr7) rfl ?_
  refine L.not hF rfl rfl rfl ?_
  refine L.move hF rfl rfl rfl ?_
  refine L.split (fun hc => ?_) (fun hc => ?_)
  · replace H := condT hc H
    refine L.off hF rfl rfl ?_
    refine L.off hF rfl rfl ?_
    refine L.off hF rfl rfl ?_
    refine L.pick hF rfl rfl rfl rfl ?_
    refine L.nil ?_
    refine WpC.cond rfl (fun _ => ?_) (fun hc => by cases hc)
    refine WpC.seq ?_
    refine WpC.regionL ?_
    refine L.assign hF rfl rfl rfl ?_
    refine L.nil ?_
    refine WpC.ret ?_
    cases H
    exact Leaves.ret rfl rfl rfl ⟨rfl, rfl⟩
  · replace H := condF hc H
    refine L.move hF rfl rfl rfl ?_
    obtain ⟨r8, hr8, H⟩ := bindS H
    refine L.call [false] [] [] 3 hF rfl rfl rfl ent123 rfl rfl rfl rfl rfl (Fimpl_RulesOk_gives k g1 a1 r8 hr8) rfl ?_
    refine L.not hF rfl rfl rfl ?_
    refine L.pick hF rfl rfl rfl rfl ?_
    refine L.nil ?_
    refine WpC.cond rfl (fun hc => ?_) (fun hc => ?_)
    · replace H := condT hc H
      refine WpC.seq ?_
      refine WpC.regionL ?_
      refine L.assign hF rfl rfl rfl ?_
      refine L.nil ?_
      refine WpC.ret ?_
      cases H
      exact Leaves.ret rfl rfl rfl ⟨rfl, rfl⟩
    · replace H := condF hc H
      refine WpC.skip ?_
      refine WpC.seq ?_
      refine WpC.regionL ?_
      refine L.move hF rfl rfl rfl ?_
      obtain ⟨r9, hr9, H⟩ := bindS H
      refine L.call [false] [] [] 4 hF rfl rfl rfl ent167 rfl rfl rfl rfl rfl (Fimpl_normal_gives k g0 a0 r9 hr9) rfl ?_
      refine L.assign hF rfl rfl rfl ?_
      refine L.nil ?_
      refine WpC.seq ?_
      refine WpC.seq ?_
      refine WpC.regionL ?_
      refine L.move hF rfl rfl rfl ?_
      obtain ⟨r11, hr11, H⟩ := bindS H
      refine L.call [false, false] [4] [] 5 hF rfl rfl rfl ent170 rfl rfl rfl rfl rfl (Fslices_ContainsFunc_Rule__impl_Stricter_1_gives k false r9 r11 hr11) rfl ?_
      refine L.nil ?_
      refine WpC.cond rfl (fun hc => ?_) (fun hc => ?_)
      · replace H := condT hc H
        refine WpC.seq ?_
        refine WpC.regionL ?_
        refine L.assign hF rfl rfl rfl ?_
        refine L.nil ?_
        refine WpC.ret ?_
        cases H
        exact Leaves.ret rfl rfl rfl ⟨rfl, rfl⟩
      · replace H := condF hc H
        refine WpC.skip ?_
        refine WpC.seq ?_
        refine WpC.seq ?_
        refine WpC.regionL ?_
        refine L.move hF rfl rfl rfl ?_
        obtain ⟨r141, hr141, H⟩ := bindS H
        refine L.call [false] [] [] 6 hF rfl rfl rfl ent167 rfl rfl rfl rfl rfl (Fimpl_normal_gives k g1 a1 r141 hr141) rfl ?_
        refine L.lenR (xs := r141) (e := eTimpl_Rule) Try.underlying44 hF rfl rfl rfl rfl ?_
        refine L.move hF rfl rfl rfl ?_
        refine L.nil ?_
        refine WpC.block ?_
        refine WpC.loopL (P := Try.prog) (fun n σ => ∃ v226 : List Timpl_Rule, ∃ v227 : List Timpl_Rule, ∃ v228 : Int, ∃ v229 : Int, n ≤ K ∧ Fimpl_Stricter.l17 n v226 v227 v228 v229 = some r ∧ σ = mkSt [(5, MG.one (Cell.own 0)), (23, MG.one (Cell.own 1)), (24, MG.one (cI v228)), (25, MG.one (cI v229))] [(0, ⟨3, List.map eTimpl_Rule v226⟩), (1, ⟨3, List.map eTimpl_Rule v227⟩)] [] 2) k ⟨_, ⟨r9, r141, (r141.length : Int), (0 : Int), by omega, H, rfl⟩, Le.mk [(0, 4), (1, 6)] hm rfl ⟨⟨_, rfl, rfl⟩, ⟨_, rfl, rfl⟩, ⟨_, rfl, rfl⟩, ⟨_, rfl, rfl⟩, trivial⟩ ⟨⟨_, rfl, rfl⟩, ⟨_, rfl, rfl⟩, trivial⟩ trivial⟩ ?_
        clear H
        rintro k17 _ ⟨v226, v227, v228, v229, hk17, H, rfl⟩
        cases k17 with
        | zero => cases H
        | succ k17 =>
          rw [Fimpl_Stricter.l17] at H
          refine WpC.seq ?_
          refine WpC.regionL ?_
          refine L.bin hF rfl rfl rfl rfl rfl rfl ?_
          refine L.nil ?_
          refine WpC.seq ?_
          refine WpC.cond rfl (fun hc => ?_) (fun hc => ?_)
          · replace H := condT hc H
            refine WpC.skip ?_
            refine WpC.join (fun σ => ∃ kj19 : Nat, ∃ v248 : List Timpl_Rule, ∃ v249 : List Timpl_Rule, ∃ v250 : Int, ∃ v251 : Int, kj19 ≤ K ∧ Fimpl_Stricter.j19 (Fimpl_Stricter.l17 k17) kj19 v248 v249 v250 v251 = some r ∧ σ = mkSt [(5, MG.one (Cell.own 0)), (23, MG.one (Cell.own 1)), (24, MG.one (cI v250)), (25, MG.one (cI v251))] [(0, ⟨3, List.map eTimpl_Rule v248⟩), (1, ⟨3, List.map eTimpl_Rule v249⟩)] [] 2) ?_ ?_
            · rintro _ ⟨kj19, v248, v249, v250, v251, hkj19, H, rfl⟩
              unfold Fimpl_Stricter.j19 at H
              refine WpC.regionL ?_
              refine L.bin hF rfl rfl rfl rfl rfl rfl ?_
              refine L.move hF rfl rfl rfl ?_
              refine L.nil ?_
              exact ⟨k17, _, by omega, ⟨v248, v249, v250, (IntKind.i64.wrap (v251 + (1 : Int))), by omega, H, rfl⟩, Le.mk [(0, 0), (1, 1)] hm rfl ⟨⟨_, rfl, rfl⟩, ⟨_, rfl, rfl⟩, ⟨_, rfl, rfl⟩, ⟨_, rfl, rfl⟩, trivial⟩ ⟨⟨_, rfl, rfl⟩, ⟨_, rfl, rfl⟩, trivial⟩ trivial⟩
            · refine WpC.block ?_
              refine WpC.seq ?_
              refine WpC.regionL ?_
              obtain ⟨b252, hb252, H⟩ := bindS H
              refine L.idxR (xs := v227) (e := eTimpl_Rule) Try.underlying44 info162 hF rfl rfl rfl rfl rfl hb252 rfl rfl ?_
              refine L.loadEp (xs := v227) (e := eTimpl_Rule) shape162 hF rfl rfl rfl rfl (at?_get hb252).2 rfl rfl ?_
              refine L.alloc 2 info162 rfl hF rfl rfl rfl rfl ?_
              refine L.storePtr shape162 hF rfl rfl rfl rfl rfl rfl rfl ?_
              refine L.nil ?_
              refine WpC.seq ?_
              refine WpC.regionL ?_
              refine L.move hF rfl rfl rfl ?_
              refine L.makeFunc hF rfl rfl rfl ?_
              obtain ⟨r253, hr253, H⟩ := bindS H
              refine L.call [false, false] [0] [2] 3 hF rfl rfl rfl ent172 rfl rfl rfl rfl rfl (Fslices_IndexFunc_Rule__impl_Stricter_2_gives k17 false v226 b252 r253 hr253) rfl ?_
              refine L.assign hF rfl rfl rfl ?_
              refine L.nil ?_
              refine WpC.seq ?_
              refine WpC.regionL ?_
              refine L.buildF built162 hF rfl rfl rfl rfl ?_
              refine L.alloc 7 info162 rfl hF rfl rfl rfl rfl ?_
              refine L.storePtr shape162 hF rfl rfl rfl rfl rfl rfl rfl ?_
              refine L.nil ?_
              refine WpC.join (fun σ => ∃ kj20 : Nat, ∃ v255 : List Timpl_Rule, ∃ v256 : Int, ∃ v257 : List Timpl_Rule, ∃ v258 : Int, ∃ v259 : Int, ∃ v260 : Int, ∃ v261 : List Int, ∃ v262 : Int, ∃ v263 : Int, ∃ v264 : List Int, ∃ v265 : Int, kj20 ≤ K ∧ Fimpl_Stricter.j20 (Fimpl_Stricter.l17 k17) kj20 v255 v256 v257 v258 v259 v260 v261 v262 v263 v264 v265 = some r ∧ σ = mkSt [(5, MG.one (Cell.own 0)), (7, MG.one (Cell.ptr 1 0)), (8, MG.one (cI v256)), (9, MG.one (Cell.ptr 2 0)), (23, MG.one (Cell.own 3)), (24, MG.one (cI v258)), (25, MG.one (cI v259))] [(0, ⟨3, List.map eTimpl_Rule v255⟩), (3, ⟨3, List.map eTimpl_Rule v257⟩)] [(1, [cI v260, Cell.sl true (List.map eI v261), cI v262]), (2, [cI v263, Cell.sl true (List.map eI v264), cI v265])] 4) ?_ ?_
              · rintro _ ⟨kj20, v255, v256, v257, v258, v259, v260, v261, v262, v263, v264, v265, hkj20, H, rfl⟩
                unfold Fimpl_Stricter.j20 at H
                refine WpC.block ?_
                refine WpC.seq ?_
                refine WpC.regionL ?_
                refine L.fieldAddr Try.underlying162 rfl info3 rfl hF rfl rfl rfl rfl rfl ?_
                refine L.loadPtr shape3 hF rfl rfl rfl rfl rfl rfl ?_
                refine L.bin hF rfl rfl rfl rfl rfl rfl ?_
                refine L.assign hF rfl rfl rfl ?_
                refine L.nil ?_
                refine WpC.cond rfl (fun hc => ?_) (fun hc => ?_)
                · replace H := condT hc H
                  refine WpC.seq ?_
                  refine WpC.regionL ?_
                  refine L.fieldAddr Try.underlying162 rfl info24 rfl hF rfl rfl rfl rfl rfl ?_
                  refine L.loadPtr shape24 hF rfl rfl rfl rfl rfl rfl ?_
                  refine L.fieldAddr Try.underlying162 rfl info24 rfl hF rfl rfl rfl rfl rfl ?_
                  refine L.loadPtr shape24 hF rfl rfl rfl rfl rfl rfl ?_
                  obtain ⟨r266, hr266, H⟩ := bindS H
                  refine L.call [false, false] [] [] 4 hF rfl rfl rfl ent174 rfl rfl rfl rfl rfl (Fimpl_isWithin_gives kj20 true v261 v264 r266 hr266) rfl ?_
                  refine L.not hF rfl rfl rfl ?_
                  refine L.nil ?_
                  refine WpC.cond rfl (fun hc => ?_) (fun hc => ?_)
                  · replace H := condT hc H
                    refine WpC.seq ?_
                    refine WpC.regionL ?_
                    refine L.assign hF rfl rfl rfl ?_
                    refine L.nil ?_
                    refine WpC.ret ?_
                    cases H
                    exact Leaves.ret rfl rfl rfl ⟨rfl, rfl⟩
                  · replace H := condF hc H
                    refine WpC.skip ?_
                    exact ⟨_, ⟨kj20, v255, v257, v258, v259, by omega, H, rfl⟩, Le.mk [(0, 0), (1, 3)] hm rfl ⟨⟨_, rfl, rfl⟩, ⟨_, rfl, rfl⟩, ⟨_, rfl, rfl⟩, ⟨_, rfl, rfl⟩, trivial⟩ ⟨⟨_, rfl, rfl⟩, ⟨_, rfl, rfl⟩, trivial⟩ trivial⟩
                · replace H := condF hc H
                  refine WpC.seq ?_
                  refine WpC.regionL ?_
                  refine L.move hF rfl rfl rfl ?_
                  refine L.bin hF rfl rfl rfl rfl rfl rfl ?_
                  refine L.move hF rfl rfl rfl ?_
                  refine L.split (fun hc => ?_) (fun hc => ?_)
                  · replace H := condT hc H
                    refine L.off hF rfl rfl ?_
                    refine L.off hF rfl rfl ?_
                    refine L.off hF rfl rfl ?_
                    refine L.off hF rfl rfl ?_
                    refine L.off hF rfl rfl ?_
                    refine L.pick hF rfl rfl rfl rfl ?_
                    refine L.move hF rfl rfl rfl ?_
                    refine L.off hF rfl rfl ?_
                    refine L.off hF rfl rfl ?_
                    refine L.off hF rfl rfl ?_
                    refine L.off hF rfl rfl ?_
                    refine L.off hF rfl rfl ?_
                    refine L.off hF rfl rfl ?_
                    refine L.pick hF rfl rfl rfl rfl ?_
                    refine L.assign hF rfl rfl rfl ?_
                    refine L.nil ?_
                    refine WpC.cond rfl (fun _ => ?_) (fun hc => by cases hc)
                    refine WpC.seq ?_
                    refine WpC.regionL ?_
                    refine L.assign hF rfl rfl rfl ?_
                    refine L.nil ?_
                    refine WpC.ret ?_
                    cases H
                    exact Leaves.ret rfl rfl rfl ⟨rfl, rfl⟩
                  · replace H := condF hc H
                    refine L.fieldAddr Try.underlying162 rfl info3 rfl hF rfl rfl rfl rfl rfl ?_
                    refine L.loadPtr shape3 hF rfl rfl rfl rfl rfl rfl ?_
                    refine L.fieldAddr Try.underlying162 rfl info3 rfl hF rfl rfl rfl rfl rfl ?_
                    refine L.loadPtr shape3 hF rfl rfl rfl rfl rfl rfl ?_
                    refine L.bin hF rfl rfl rfl rfl rfl rfl ?_
                    refine L.pick hF rfl rfl rfl rfl ?_
                    refine L.move hF rfl rfl rfl ?_
                    refine L.split (fun hc => ?_) (fun hc => ?_)
                    · replace H := condT hc H
                      refine L.off hF rfl rfl ?_
                      refine L.off hF rfl rfl ?_
                      refine L.off hF rfl rfl ?_
                      refine L.off hF rfl rfl ?_
                      refine L.off hF rfl rfl ?_
                      refine L.off hF rfl rfl ?_
                      refine L.pick hF rfl rfl rfl rfl ?_
                      refine L.assign hF rfl rfl rfl ?_
                      refine L.nil ?_
                      refine WpC.cond rfl (fun _ => ?_) (fun hc => by cases hc)
                      refine WpC.seq ?_
                      refine WpC.regionL ?_
                      refine L.assign hF rfl rfl rfl ?_
                      refine L.nil ?_
                      refine WpC.ret ?_
                      cases H
                      exact Leaves.ret rfl rfl rfl ⟨rfl, rfl⟩
                    · replace H := condF hc H
                      refine L.fieldAddr Try.underlying162 rfl info24 rfl hF rfl rfl rfl rfl rfl ?_
                      refine L.loadPtr shape24 hF rfl rfl rfl rfl rfl rfl ?_
                      refine L.fieldAddr Try.underlying162 rfl info24 rfl hF rfl rfl rfl rfl rfl ?_
                      refine L.loadPtr shape24 hF rfl rfl rfl rfl rfl rfl ?_
                      obtain ⟨r268, hr268, H⟩ := bindS H
                      refine L.call [false, false] [] [] 4 hF rfl rfl rfl ent174 rfl rfl rfl rfl rfl (Fimpl_isWithin_gives kj20 true v264 v261 r268 hr268) rfl ?_
                      refine L.not hF rfl rfl rfl ?_
                      refine L.pick hF rfl rfl rfl rfl ?_
                      refine L.assign hF rfl rfl rfl ?_
                      refine L.nil ?_
                      refine WpC.cond rfl (fun hc => ?_) (fun hc => ?_)
                      · replace H := condT hc H
                        refine WpC.seq ?_
                        refine WpC.regionL ?_
                        refine L.assign hF rfl rfl rfl ?_
                        refine L.nil ?_
                        refine WpC.ret ?_
                        cases H
                        exact Leaves.ret rfl rfl rfl ⟨rfl, rfl⟩
                      · replace H := condF hc H
                        refine WpC.skip ?_
                        exact ⟨_, ⟨kj20, v255, v257, v258, v259, by omega, H, rfl⟩, Le.mk [(0, 0), (1, 3)] hm rfl ⟨⟨_, rfl, rfl⟩, ⟨_, rfl, rfl⟩, ⟨_, rfl, rfl⟩, ⟨_, rfl, rfl⟩, trivial⟩ ⟨⟨_, rfl, rfl⟩, ⟨_, rfl, rfl⟩, trivial⟩ trivial⟩
              · refine WpC.seq ?_
                refine WpC.regionL ?_
                refine L.move hF rfl rfl rfl ?_
                refine L.bin hF rfl rfl rfl rfl rfl rfl ?_
                refine L.nil ?_
                refine WpC.cond rfl (fun hc => ?_) (fun hc => ?_)
                · replace H := condT hc H
                  refine WpC.regionL ?_
                  refine L.move hF rfl rfl rfl ?_
                  refine L.move hF rfl rfl rfl ?_
                  obtain ⟨b269, hb269, H⟩ := bindS H
                  refine L.idxR (xs := v226) (e := eTimpl_Rule) Try.underlying44 info162 hF rfl rfl rfl rfl rfl hb269 rfl rfl ?_
                  refine L.loadEp (xs := v226) (e := eTimpl_Rule) shape162 hF rfl rfl rfl rfl (at?_get hb269).2 rfl rfl ?_
                  refine L.storePtr shape162 hF rfl rfl rfl rfl rfl rfl rfl ?_
                  refine L.nil ?_
                  exact ⟨_, ⟨k17, v226, r253.1, v227, v228, v229, r253.2.Kind, r253.2.Set, r253.2.N, b269.Kind, b269.Set, b269.N, by omega, H, rfl⟩, Le.mk [(0, 0), (1, 2), (2, 7), (3, 1)] hm rfl ⟨⟨_, rfl, rfl⟩, ⟨_, rfl, rfl⟩, ⟨_, rfl, rfl⟩, ⟨_, rfl, rfl⟩, ⟨_, rfl, rfl⟩, ⟨_, rfl, rfl⟩, ⟨_, rfl, rfl⟩, trivial⟩ ⟨⟨_, rfl, rfl⟩, ⟨_, rfl, rfl⟩, trivial⟩ ⟨⟨_, _, rfl, rfl, rfl⟩, ⟨_, _, rfl, rfl, rfl⟩, trivial⟩⟩
                · replace H := condF hc H
                  refine WpC.skip ?_
                  exact ⟨_, ⟨k17, v226, r253.1, v227, v228, v229, r253.2.Kind, r253.2.Set, r253.2.N, (0 : Int), [], (0 : Int), by omega, H, rfl⟩, (Le.emptyB 7 1 true rfl rfl).trans (Le.mk [(0, 0), (1, 2), (2, 7), (3, 1)] hm rfl ⟨⟨_, rfl, rfl⟩, ⟨_, rfl, rfl⟩, ⟨_, rfl, rfl⟩, ⟨_, rfl, rfl⟩, ⟨_, rfl, rfl⟩, ⟨_, rfl, rfl⟩, ⟨_, rfl, rfl⟩, trivial⟩ ⟨⟨_, rfl, rfl⟩, ⟨_, rfl, rfl⟩, trivial⟩ ⟨⟨_, _, rfl, rfl, rfl⟩, ⟨_, _, rfl, rfl, rfl⟩, trivial⟩)⟩
          · replace H := condF hc H
            refine WpC.exit ?_
            refine WpC.seq ?_
            refine WpC.regionL ?_
            refine L.assign hF rfl rfl rfl ?_
            refine L.nil ?_
            refine WpC.ret ?_
            cases H
            exact Leaves.ret rfl rfl rfl ⟨rfl, rfl⟩
/-! ### Flaws_eqIntS -/
def Flaws_eqIntS.l2 : Nat → (List Int) → (List Int) → Int → Option Bool
  | 0, _, _, _ => none
  | k2 + 1, v34, v35, v36 => cond (decide (v36 < (v34.length : Int))) ((at? v34 v36).bind fun b39 => (at? v35 v36).bind fun b40 => cond (b39 != b40) (some false) ((Flaws_eqIntS.l2 k2) v34 v35 (IntKind.i64.wrap (v36 + (1 : Int))))) (some true)
def Flaws_eqIntS (k : Nat) (a0 : List Int) (a1 : List Int) : Option Bool := cond ((a0.length : Int) != (a1.length : Int)) (some false) (Flaws_eqIntS.l2 k a0 a1 (0 : Int))
theorem ent26 : MG.Enters Try.prog 26 := ⟨Try.f26, Try.func26, rfl, by decide⟩
set_option maxHeartbeats 8000000 in
set_option maxRecDepth 100000 in
theorem Flaws_eqIntS_gives (k : Nat) (g0 : Bool) (g1 : Bool) (a0 : List Int) (a1 : List Int) (r : Bool) (H : Flaws_eqIntS k a0 a1 = some r) : Gives Try.prog 26 [V.one (Cell.sl g0 (List.map eI a0)), V.one (Cell.sl g1 (List.map eI a1))] [] [V.one (cL r)] [] := by
  refine Gives.intro Try.func26 rfl rfl rfl rfl ?_
  intro F hF hm
  unfold Flaws_eqIntS at H
  obtain ⟨K, hK⟩ : ∃ K, k ≤ K := ⟨k, Nat.le_refl k⟩
  refine WpC.seq ?_
  refine WpC.regionL ?_
  refine L.assign hF rfl rfl rfl ?_
  refine L.nil ?_
  refine WpC.seq ?_
  refine WpC.seq ?_
  refine WpC.regionL ?_
  refine L.move hF rfl rfl rfl ?_
  refine L.lenR (xs := a0) (e := eI) Try.underlying24 hF rfl rfl rfl rfl ?_
  refine L.move hF rfl rfl rfl ?_
  refine L.lenR (xs := a1) (e := eI) Try.underlying24 hF rfl rfl rfl rfl ?_
  refine L.bin hF rfl rfl rfl rfl rfl rfl ?_
  refine L.nil ?_
  refine WpC.cond rfl (fun hc => ?_) (fun hc => ?_)
  · replace H := condT hc H
    refine WpC.seq ?_
    refine WpC.regionL ?_
    refine L.assign hF rfl rfl rfl ?_
    refine L.nil ?_
    refine WpC.ret ?_
    cases H
    exact Leaves.ret rfl rfl rfl ⟨rfl, rfl⟩
  · replace H := condF hc H
    refine WpC.skip ?_
    refine WpC.seq ?_
    refine WpC.seq ?_
    refine WpC.regionL ?_
    refine L.assign hF rfl rfl rfl ?_
    refine L.nil ?_
    refine WpC.block ?_
    refine WpC.loopL (P := Try.prog) (fun n σ => ∃ v34 : List Int, ∃ v35 : List Int, ∃ v36 : Int, n ≤ K ∧ Flaws_eqIntS.l2 n v34 v35 v36 = some r ∧ σ = mkSt [(0, MG.one (Cell.sl g0 (List.map eI v34))), (1, MG.one (Cell.sl g1 (List.map eI v35))), (5, MG.one (cI v36))] [] [] 0) k ⟨_, ⟨a0, a1, (0 : Int), by omega, H, rfl⟩, Le.mk [] hm rfl ⟨⟨_, rfl, rfl⟩, ⟨_, rfl, rfl⟩, ⟨_, rfl, rfl⟩, trivial⟩ trivial trivial⟩ ?_
    clear H
    rintro k2 _ ⟨v34, v35, v36, hk2, H, rfl⟩
    cases k2 with
    | zero => cases H
    | succ k2 =>
      rw [Flaws_eqIntS.l2] at H
      refine WpC.seq ?_
      refine WpC.seq ?_
      refine WpC.regionL ?_
      refine L.move hF rfl rfl rfl ?_
      refine L.move hF rfl rfl rfl ?_
      refine L.lenR (xs := v34) (e := eI) Try.underlying24 hF rfl rfl rfl rfl ?_
      refine L.bin hF rfl rfl rfl rfl rfl rfl ?_
      refine L.nil ?_
      refine WpC.cond rfl (fun hc => ?_) (fun hc => ?_)
      · replace H := condT hc H
        refine WpC.skip ?_
        refine WpC.seq ?_
        refine WpC.block ?_
        refine WpC.seq ?_
        refine S.begin mixed (by kernel_rfl) ?_
        refine S.st 0 rfl rfl ((Ca.move).quiet) (fun Q0 k0 => L.move hF rfl rfl rfl (L.nil k0)) ?_
        refine S.st 1 rfl rfl ((Ca.move).quiet) (fun Q0 k0 => L.move hF rfl rfl rfl (L.nil k0)) ?_
        obtain ⟨b39, hb39, H⟩ := bindS H
        refine S.st 2 rfl rfl ((Ca.indexAddr).quiet) (fun Q0 k0 => L.idxR (xs := v34) (e := eI) Try.underlying24 info3 hF rfl rfl rfl rfl rfl hb39 rfl rfl (L.nil k0)) ?_
        refine S.st 3 rfl rfl (Qu.load) (fun Q0 k0 => L.loadPe shape3 hF rfl rfl rfl rfl rfl (L.nil k0)) ?_
        refine S.st 4 rfl rfl ((Ca.move).quiet) (fun Q0 k0 => L.move hF rfl rfl rfl (L.nil k0)) ?_
        refine S.st 5 rfl rfl ((Ca.move).quiet) (fun Q0 k0 => L.move hF rfl rfl rfl (L.nil k0)) ?_
        obtain ⟨b40, hb40, H⟩ := bindS H
        refine S.st 6 rfl rfl ((Ca.indexAddr).quiet) (fun Q0 k0 => L.idxR (xs := v35) (e := eI) Try.underlying24 info3 hF rfl rfl rfl rfl rfl hb40 rfl rfl (L.nil k0)) ?_
        refine S.st 7 rfl rfl (Qu.load) (fun Q0 k0 => L.loadPe shape3 hF rfl rfl rfl rfl rfl (L.nil k0)) ?_
        refine S.st 8 rfl rfl ((Ca.bin rfl rfl (calm_int _ _ _ _ _ _ _ _)).quiet) (fun Q0 k0 => L.bin hF rfl rfl rfl rfl rfl rfl (L.nil k0)) ?_
        refine S.nil ?_
        refine WpC.cond rfl (fun hc => ?_) (fun hc => ?_)
        · replace H := condT hc H
          refine WpC.seq ?_
          refine WpC.regionL ?_
          refine L.assign hF rfl rfl rfl ?_
          refine L.nil ?_
          refine WpC.ret ?_
          cases H
          exact Leaves.ret rfl rfl rfl ⟨rfl, rfl⟩
        · replace H := condF hc H
          refine WpC.skip ?_
          refine WpC.regionL ?_
          refine L.move hF rfl rfl rfl ?_
          refine L.bin hF rfl rfl rfl rfl rfl rfl ?_
          refine L.assign hF rfl rfl rfl ?_
          refine L.nil ?_
          exact ⟨k2, _, by omega, ⟨v34, v35, (IntKind.i64.wrap (v36 + (1 : Int))), by omega, H, rfl⟩, Le.mk [] hm rfl ⟨⟨_, rfl, rfl⟩, ⟨_, rfl, rfl⟩, ⟨_, rfl, rfl⟩, trivial⟩ trivial trivial⟩
      · replace H := condF hc H
        refine WpC.exit ?_
        refine WpC.seq ?_
        refine WpC.regionL ?_
        refine L.assign hF rfl rfl rfl ?_
        refine L.nil ?_
        refine WpC.ret ?_
        cases H
        exact Leaves.ret rfl rfl rfl ⟨rfl, rfl⟩
/-! ### Flaws_eqRule -/
def Flaws_eqRule (k : Nat) (a0 : Timpl_Rule) (a1 : Timpl_Rule) : Option Bool := cond (a0.Kind != a1.Kind) (some false) ((Flaws_eqIntS k a0.Set a1.Set).bind fun r2 => cond (!r2) (some false) (cond (a0.N != a1.N) (some false) (some true)))
theorem ent120 : MG.Enters Try.prog 120 := ⟨Try.f120, Try.func120, rfl, by decide⟩
set_option maxHeartbeats 8000000 in
set_option maxRecDepth 100000 in
theorem Flaws_eqRule_gives (k : Nat) (g0 : Bool) (g1 : Bool) (a0 : Timpl_Rule) (a1 : Timpl_Rule) (r : Bool) (H : Flaws_eqRule k a0 a1 = some r) : Gives Try.prog 120 [V.agg [cI a0.Kind, Cell.sl g0 (List.map eI a0.Set), cI a0.N], V.agg [cI a1.Kind, Cell.sl g1 (List.map eI a1.Set), cI a1.N]] [] [V.one (cL r)] [] := by
  refine Gives.intro Try.func120 rfl rfl rfl rfl ?_
  intro F hF hm
  unfold Flaws_eqRule at H
  obtain ⟨K, hK⟩ : ∃ K, k ≤ K := ⟨k, Nat.le_refl k⟩
  refine WpC.seq ?_
  refine WpC.regionL ?_
  refine L.box 6 hF rfl rfl rfl rfl ?_
  refine L.box 7 hF rfl rfl rfl rfl ?_
  refine L.assign hF rfl rfl rfl ?_
  refine L.nil ?_
  refine WpC.seq ?_
  refine WpC.seq ?_
  refine WpC.regionL ?_
  refine L.fieldAddr Try.underlying162 rfl info3 rfl hF rfl rfl rfl rfl rfl ?_
  refine L.loadPtr shape3 hF rfl rfl rfl rfl rfl rfl ?_
  refine L.fieldAddr Try.underlying162 rfl info3 rfl hF rfl rfl rfl rfl rfl ?_
  refine L.loadPtr shape3 hF rfl rfl rfl rfl rfl rfl ?_
  refine L.bin hF rfl rfl rfl rfl rfl rfl ?_
  refine L.nil ?_
  refine WpC.cond rfl (fun hc => ?_) (fun hc => ?_)
  · replace H := condT hc H
    refine WpC.seq ?_
    refine WpC.regionL ?_
    refine L.assign hF rfl rfl rfl ?_
    refine L.nil ?_
    refine WpC.ret ?_
    cases H
    exact Leaves.ret rfl rfl rfl ⟨rfl, rfl⟩
  · replace H := condF hc H
    refine WpC.skip ?_
    refine WpC.seq ?_
    refine WpC.seq ?_
    refine WpC.regionL ?_
    refine L.fieldAddr Try.underlying162 rfl info24 rfl hF rfl rfl rfl rfl rfl ?_
    refine L.loadPtr shape24 hF rfl rfl rfl rfl rfl rfl ?_
    refine L.fieldAddr Try.underlying162 rfl info24 rfl hF rfl rfl rfl rfl rfl ?_
    refine L.loadPtr shape24 hF rfl rfl rfl rfl rfl rfl ?_
    obtain ⟨r2, hr2, H⟩ := bindS H
    refine L.call [false, false] [] [] 8 hF rfl rfl rfl ent26 rfl rfl rfl rfl rfl (Flaws_eqIntS_gives k g0 g1 a0.Set a1.Set r2 hr2) rfl ?_
    refine L.not hF rfl rfl rfl ?_
    refine L.nil ?_
    refine WpC.cond rfl (fun hc => ?_) (fun hc => ?_)
    · replace H := condT hc H
      refine WpC.seq ?_
      refine WpC.regionL ?_
      refine L.assign hF rfl rfl rfl ?_
      refine L.nil ?_
      refine WpC.ret ?_
      cases H
      exact Leaves.ret rfl rfl rfl ⟨rfl, rfl⟩
    · replace H := condF hc H
      refine WpC.skip ?_
      refine WpC.seq ?_
      refine WpC.seq ?_
      refine WpC.regionL ?_
      refine L.fieldAddr Try.underlying162 rfl info3 rfl hF rfl rfl rfl rfl rfl ?_
      refine L.loadPtr shape3 hF rfl rfl rfl rfl rfl rfl ?_
      refine L.fieldAddr Try.underlying162 rfl info3 rfl hF rfl rfl rfl rfl rfl ?_
      refine L.loadPtr shape3 hF rfl rfl rfl rfl rfl rfl ?_
      refine L.bin hF rfl rfl rfl rfl rfl rfl ?_
      refine L.nil ?_
      refine WpC.cond rfl (fun hc => ?_) (fun hc => ?_)
      · replace H := condT hc H
        refine WpC.seq ?_
        refine WpC.regionL ?_
        refine L.assign hF rfl rfl rfl ?_
        refine L.nil ?_
        refine WpC.ret ?_
        cases H
        exact Leaves.ret rfl rfl rfl ⟨rfl, rfl⟩
      · replace H := condF hc H
        refine WpC.skip ?_
        refine WpC.seq ?_
        refine WpC.regionL ?_
        refine L.assign hF rfl rfl rfl ?_
        refine L.nil ?_
        refine WpC.ret ?_
        cases H
        exact Leaves.ret rfl rfl rfl ⟨rfl, rfl⟩
/-! ### Flaws_eqRuleS -/
def Flaws_eqRuleS.l2 : Nat → (List Timpl_Rule) → (List Timpl_Rule) → Int → Option Bool
  | 0, _, _, _ => none
  | k2 + 1, v44, v45, v46 => cond (decide (v46 < (v44.length : Int))) ((at? v44 v46).bind fun b50 => (at? v45 v46).bind fun b51 => (Flaws_eqRule k2 b50 b51).bind fun r52 => cond (!r52) (some false) ((Flaws_eqRuleS.l2 k2) v44 v45 (IntKind.i64.wrap (v46 + (1 : Int))))) (some true)
def Flaws_eqRuleS (k : Nat) (a0 : List Timpl_Rule) (a1 : List Timpl_Rule) : Option Bool := cond ((a0.length : Int) != (a1.length : Int)) (some false) (Flaws_eqRuleS.l2 k a0 a1 (0 : Int))
theorem ent42 : MG.Enters Try.prog 42 := ⟨Try.f42, Try.func42, rfl, by decide⟩
set_option maxHeartbeats 8000000 in
set_option maxRecDepth 100000 in
theorem Flaws_eqRuleS_gives (k : Nat) (g0 : Bool) (g1 : Bool) (a0 : List Timpl_Rule) (a1 : List Timpl_Rule) (r : Bool) (H : Flaws_eqRuleS k a0 a1 = some r) : Gives Try.prog 42 [V.one (Cell.sl g0 (List.map eTimpl_Rule a0)), V.one (Cell.sl g1 (List.map eTimpl_Rule a1))] [] [V.one (cL r)] [] := by
  refine Gives.intro Try.func42 rfl rfl rfl rfl ?_
  intro F hF hm
  unfold Flaws_eqRuleS at H
  obtain ⟨K, hK⟩ : ∃ K, k ≤ K := ⟨k, Nat.le_refl k⟩
  refine WpC.seq ?_
  refine WpC.regionL ?_
  refine L.assign hF rfl rfl rfl ?_
  refine L.nil ?_
  refine WpC.seq ?_
  refine WpC.seq ?_
  refine WpC.regionL ?_
  refine L.move hF rfl rfl rfl ?_
  refine L.lenR (xs := a0) (e := eTimpl_Rule) Try.underlying44 hF rfl rfl rfl rfl ?_
  refine L.move hF rfl rfl rfl ?_
  refine L.lenR (xs := a1) (e := eTimpl_Rule) Try.underlying44 hF rfl rfl rfl rfl ?_
  refine L.bin hF rfl rfl rfl rfl rfl rfl ?_
  refine L.nil ?_
  refine WpC.cond rfl (fun hc => ?_) (fun hc => ?_)
  · replace H := condT hc H
    refine WpC.seq ?_
    refine WpC.regionL ?_
    refine L.assign hF rfl rfl rfl ?_
    refine L.nil ?_
    refine WpC.ret ?_
    cases H
    exact Leaves.ret rfl rfl rfl ⟨rfl, rfl⟩
  · replace H := condF hc H
    refine WpC.skip ?_
    refine WpC.seq ?_
    refine WpC.seq ?_
    refine WpC.regionL ?_
    refine L.assign hF rfl rfl rfl ?_
    refine L.nil ?_
    refine WpC.block ?_
    refine WpC.loopL (P := Try.prog) (fun n σ => ∃ v44 : List Timpl_Rule, ∃ v45 : List Timpl_Rule, ∃ v46 : Int, n ≤ K ∧ Flaws_eqRuleS.l2 n v44 v45 v46 = some r ∧ σ = mkSt [(0, MG.one (Cell.sl g0 (List.map eTimpl_Rule v44))), (1, MG.one (Cell.sl g1 (List.map eTimpl_Rule v45))), (5, MG.one (cI v46))] [] [] 0) k ⟨_, ⟨a0, a1, (0 : Int), by omega, H, rfl⟩, Le.mk [] hm rfl ⟨⟨_, rfl, rfl⟩, ⟨_, rfl, rfl⟩, ⟨_, rfl, rfl⟩, trivial⟩ trivial trivial⟩ ?_
    clear H
    rintro k2 _ ⟨v44, v45, v46, hk2, H, rfl⟩
    cases k2 with
    | zero => cases H
    | succ k2 =>
      rw [Flaws_eqRuleS.l2] at H
      refine WpC.seq ?_
      refine WpC.seq ?_
      refine WpC.regionL ?_
      refine L.move hF rfl rfl rfl ?_
      refine L.move hF rfl rfl rfl ?_
      refine L.lenR (xs := v44) (e := eTimpl_Rule) Try.underlying44 hF rfl rfl rfl rfl ?_
      refine L.bin hF rfl rfl rfl rfl rfl rfl ?_
      refine L.nil ?_
      refine WpC.cond rfl (fun hc => ?_) (fun hc => ?_)
      · replace H := condT hc H
        refine WpC.skip ?_
        refine WpC.seq ?_
        refine WpC.block ?_
        refine WpC.seq ?_
        obtain ⟨b50, hb50, H⟩ := bindS H
        obtain ⟨b51, hb51, H⟩ := bindS H
        obtain ⟨r52, hr52, H⟩ := bindS H
        refine A.begin mixed rfl rfl ?_
        intro W hI hO
        have n255 : W 2 #[true, true, true, true, true, true, true, true, false, false] (mkSt [(0, MG.one (Cell.sl g0 (List.map eTimpl_Rule v44))), (1, MG.one (Cell.sl g1 (List.map eTimpl_Rule v45))), (5, MG.one (cI v46)), (20, agg [cI b50.Kind, Cell.sl true (List.map eI b50.Set), cI b50.N]), (24, agg [cI b51.Kind, Cell.sl true (List.map eI b51.Set), cI b51.N])] [] [] 0) := by
          refine hI _ _ _ ?_
          refine A.all [8] (by kernel_rfl) rfl ⟨⟨_, rfl, ?_⟩, trivial⟩
          refine L.call [false, false] [] [] 0 hF rfl rfl rfl ent120 rfl rfl rfl rfl rfl (Flaws_eqRule_gives k2 true true b50 b51 r52 hr52) rfl ?_
          refine L.nil ?_
          refine A.take 9 rfl (by kernel_rfl) (by kernel_rfl) (by kernel_rfl) rfl (Ca.un rfl rfl) (fun Q0 k0 => L.not hF rfl rfl rfl (L.nil k0)) ?_
          refine A.le (τ := mkSt [(0, MG.one (Cell.sl g0 (List.map eTimpl_Rule v44))), (1, MG.one (Cell.sl g1 (List.map eTimpl_Rule v45))), (5, MG.one (cI v46)), (26, MG.one (cL (!r52)))] [] [] 0) (Le.mk [] hm rfl ⟨⟨_, rfl, rfl⟩, ⟨_, rfl, rfl⟩, ⟨_, rfl, rfl⟩, ⟨_, rfl, rfl⟩, trivial⟩ trivial trivial) ?_
          refine A.done (by kernel_rfl) ?_
          refine WpC.cond rfl (fun hc => ?_) (fun hc => ?_)
          · replace H := condT hc H
            refine WpC.seq ?_
            refine WpC.regionL ?_
            refine L.assign hF rfl rfl rfl ?_
            refine L.nil ?_
            refine WpC.ret ?_
            cases H
            exact Leaves.ret rfl rfl rfl ⟨rfl, rfl⟩
          · replace H := condF hc H
            refine WpC.skip ?_
            refine WpC.regionL ?_
            refine L.move hF rfl rfl rfl ?_
            refine L.bin hF rfl rfl rfl rfl rfl rfl ?_
            refine L.assign hF rfl rfl rfl ?_
            refine L.nil ?_
            exact ⟨k2, _, by omega, ⟨v44, v45, (IntKind.i64.wrap (v46 + (1 : Int))), by omega, H, rfl⟩, Le.mk [] hm rfl ⟨⟨_, rfl, rfl⟩, ⟨_, rfl, rfl⟩, ⟨_, rfl, rfl⟩, trivial⟩ trivial trivial⟩
        refine hI _ _ _ ?_
        refine A.take 0 rfl (by kernel_rfl) (by kernel_rfl) (by kernel_rfl) rfl (Ca.move) (fun Q0 k0 => L.move hF rfl rfl rfl (L.nil k0)) ?_
        refine A.take 1 rfl (by kernel_rfl) (by kernel_rfl) (by kernel_rfl) rfl (Ca.move) (fun Q0 k0 => L.move hF rfl rfl rfl (L.nil k0)) ?_
        refine A.take 2 rfl (by kernel_rfl) (by kernel_rfl) (by kernel_rfl) rfl (Ca.indexAddr) (fun Q0 k0 => L.idxR (xs := v44) (e := eTimpl_Rule) Try.underlying44 info162 hF rfl rfl rfl rfl rfl hb50 rfl rfl (L.nil k0)) ?_
        refine A.take 4 rfl (by kernel_rfl) (by kernel_rfl) (by kernel_rfl) rfl (Ca.move) (fun Q0 k0 => L.move hF rfl rfl rfl (L.nil k0)) ?_
        refine A.take 5 rfl (by kernel_rfl) (by kernel_rfl) (by kernel_rfl) rfl (Ca.move) (fun Q0 k0 => L.move hF rfl rfl rfl (L.nil k0)) ?_
        refine A.take 6 rfl (by kernel_rfl) (by kernel_rfl) (by kernel_rfl) rfl (Ca.indexAddr) (fun Q0 k0 => L.idxR (xs := v45) (e := eTimpl_Rule) Try.underlying44 info162 hF rfl rfl rfl rfl rfl hb51 rfl rfl (L.nil k0)) ?_
        refine A.all [3, 7] (by kernel_rfl) rfl ⟨⟨_, rfl, ?_⟩, ⟨_, rfl, ?_⟩, trivial⟩
        · refine L.loadPe shape162 hF rfl rfl rfl rfl rfl ?_
          refine L.nil ?_
          refine A.all [7] (by kernel_rfl) rfl ⟨⟨_, rfl, ?_⟩, trivial⟩
          refine L.loadPe shape162 hF rfl rfl rfl rfl rfl ?_
          refine L.nil ?_
          exact A.on (hO _ _ _ n255) (Le.mk [] hm rfl ⟨⟨_, rfl, rfl⟩, ⟨_, rfl, rfl⟩, ⟨_, rfl, rfl⟩, ⟨_, rfl, rfl⟩, ⟨_, rfl, rfl⟩, trivial⟩ trivial trivial)
        · refine L.loadPe shape162 hF rfl rfl rfl rfl rfl ?_
          refine L.nil ?_
          refine A.all [3] (by kernel_rfl) rfl ⟨⟨_, rfl, ?_⟩, trivial⟩
          refine L.loadPe shape162 hF rfl rfl rfl rfl rfl ?_
          refine L.nil ?_
          exact A.on (hO _ _ _ n255) (Le.mk [] hm rfl ⟨⟨_, rfl, rfl⟩, ⟨_, rfl, rfl⟩, ⟨_, rfl, rfl⟩, ⟨_, rfl, rfl⟩, ⟨_, rfl, rfl⟩, trivial⟩ trivial trivial)
      · replace H := condF hc H
        refine WpC.exit ?_
        refine WpC.seq ?_
        refine WpC.regionL ?_
        refine L.assign hF rfl rfl rfl ?_
        refine L.nil ?_
        refine WpC.ret ?_
        cases H
        exact Leaves.ret rfl rfl rfl ⟨rfl, rfl⟩
/-! ### Flaws_FnExactStricter -/
def Flaws_FnExactStricter (k : Nat) (a0 : List Tlaws_Rule) (a1 : List Tlaws_Rule) : Option Bool := (Flaws_szRuleS k a0 (1048576 : Int)).bind fun r1 => cond (decide (r1 < (0 : Int))) (some true) ((Flaws_szRuleS k a1 r1).bind fun r2 => cond (decide (r2 < (0 : Int))) (some true) ((Flaws_toRuleS k a0).bind fun r3 => (Flaws_toRuleS k a1).bind fun r4 => (Fspec_Stricter k r3 r4).bind fun r5 => (Flaws_toRuleS k a0).bind fun r6 => (Flaws_toRuleS k a1).bind fun r7 => (Fimpl_Stricter k r6 r7).bind fun r8 => cond (r8 != r5) (some false) ((Flaws_toRuleS k a0).bind fun r11 => (Flaws_eqRuleS k r6 r11).bind fun r12 => cond (!r12) (some false) ((Flaws_toRuleS k a1).bind fun r15 => (Flaws_eqRuleS k r7 r15).bind fun r16 => cond (!r16) (some false) (some true)))))
theorem ent18 : MG.Enters Try.prog 18 := ⟨Try.f18, Try.func18, rfl, by decide⟩
set_option maxHeartbeats 8000000 in
set_option maxRecDepth 100000 in
theorem Flaws_FnExactStricter_gives (k : Nat) (g0 : Bool) (g1 : Bool) (a0 : List Tlaws_Rule) (a1 : List Tlaws_Rule) (r : Bool) (H : Flaws_FnExactStricter k a0 a1 = some r) : Gives Try.prog 18 [V.one (Cell.sl g0 (List.map eTlaws_Rule a0)), V.one (Cell.sl g1 (List.map eTlaws_Rule a1))] [] [V.one (cL r)] [] := by
  refine Gives.intro Try.func18 rfl rfl rfl rfl ?_
  intro F hF hm
  unfold Flaws_FnExactStricter at H
  obtain ⟨K, hK⟩ : ∃ K, k ≤ K := ⟨k, Nat.le_refl k⟩
  refine WpC.seq ?_
  refine WpC.regionL ?_
  refine L.assign hF rfl rfl rfl ?_
  refine L.nil ?_
  refine WpC.seq ?_
  refine WpC.regionL ?_
  refine L.assign hF rfl rfl rfl ?_
  refine L.nil ?_
  refine WpC.seq ?_
  refine WpC.regionL ?_
  refine L.move hF rfl rfl rfl ?_
  refine L.move hF rfl rfl rfl ?_
  obtain ⟨r1, hr1, H⟩ := bindS H
  refine L.call [false, false] [] [] 2 hF rfl rfl rfl ent79 rfl rfl rfl rfl rfl (Flaws_szRuleS_gives k g0 a0 (1048576 : Int) r1 hr1) rfl ?_
  refine L.assign hF rfl rfl rfl ?_
  refine L.nil ?_
  refine WpC.seq ?_
  refine WpC.seq ?_
  refine WpC.regionL ?_
  refine L.move hF rfl rfl rfl ?_
  refine L.bin hF rfl rfl rfl rfl rfl rfl ?_
  refine L.nil ?_
  refine WpC.cond rfl (fun hc => ?_) (fun hc => ?_)
  · replace H := condT hc H
    refine WpC.seq ?_
    refine WpC.regionL ?_
    refine L.assign hF rfl rfl rfl ?_
    refine L.nil ?_
    refine WpC.ret ?_
    cases H
    exact Leaves.ret rfl rfl rfl ⟨rfl, rfl⟩
  · replace H := condF hc H
    refine WpC.skip ?_
    refine WpC.seq ?_
    refine WpC.regionL ?_
    refine L.move hF rfl rfl rfl ?_
    refine L.move hF rfl rfl rfl ?_
    obtain ⟨r2, hr2, H⟩ := bindS H
    refine L.call [false, false] [] [] 3 hF rfl rfl rfl ent79 rfl rfl rfl rfl rfl (Flaws_szRuleS_gives k g1 a1 r1 r2 hr2) rfl ?_
    refine L.assign hF rfl rfl rfl ?_
    refine L.nil ?_
    refine WpC.seq ?_
    refine WpC.seq ?_
    refine WpC.regionL ?_
    refine L.move hF rfl rfl rfl ?_
    refine L.bin hF rfl rfl rfl rfl rfl rfl ?_
    refine L.nil ?_
    refine WpC.cond rfl (fun hc => ?_) (fun hc => ?_)
    · replace H := condT hc H
      refine WpC.seq ?_
      refine WpC.regionL ?_
      refine L.assign hF rfl rfl rfl ?_
      refine L.nil ?_
      refine WpC.ret ?_
      cases H
      exact Leaves.ret rfl rfl rfl ⟨rfl, rfl⟩
    · replace H := condF hc H
      refine WpC.skip ?_
      refine WpC.seq ?_
      refine WpC.regionL ?_
      refine L.move hF rfl rfl rfl ?_
      obtain ⟨r3, hr3, H⟩ := bindS H
      refine L.call [false] [] [] 4 hF rfl rfl rfl ent81 rfl rfl rfl rfl rfl (Flaws_toRuleS_gives k g0 a0 r3 hr3) rfl ?_
      refine L.move hF rfl rfl rfl ?_
      obtain ⟨r4, hr4, H⟩ := bindS H
      refine L.call [false] [] [] 5 hF rfl rfl rfl ent81 rfl rfl rfl rfl rfl (Flaws_toRuleS_gives k g1 a1 r4 hr4) rfl ?_
      obtain ⟨r5, hr5, H⟩ := bindS H
      refine L.call [false, false] [4, 5] [] 6 hF rfl rfl rfl ent85 rfl rfl rfl rfl rfl (Fspec_Stricter_gives k false false r3 r4 r5 hr5) rfl ?_
      refine L.assign hF rfl rfl rfl ?_
      refine L.nil ?_
      refine WpC.seq ?_
      refine WpC.regionL ?_
      refine L.move hF rfl rfl rfl ?_
      obtain ⟨r6, hr6, H⟩ := bindS H
      refine L.call [false] [] [] 7 hF rfl rfl rfl ent81 rfl rfl rfl rfl rfl (Flaws_toRuleS_gives k g0 a0 r6 hr6) rfl ?_
      refine L.assign hF rfl rfl rfl ?_
      refine L.nil ?_
      refine WpC.seq ?_
      refine WpC.regionL ?_
      refine L.move hF rfl rfl rfl ?_
      obtain ⟨r7, hr7, H⟩ := bindS H
      refine L.call [false] [] [] 8 hF rfl rfl rfl ent81 rfl rfl rfl rfl rfl (Flaws_toRuleS_gives k g1 a1 r7 hr7) rfl ?_
      refine L.assign hF rfl rfl rfl ?_
      refine L.nil ?_
      refine WpC.seq ?_
      refine WpC.regionL ?_
      refine L.move hF rfl rfl rfl ?_
      refine L.move hF rfl rfl rfl ?_
      obtain ⟨r8, hr8, H⟩ := bindS H
      refine L.call [false, false] [7, 8] [] 9 hF rfl rfl rfl ent86 rfl rfl rfl rfl rfl (Fimpl_Stricter_gives k false false r6 r7 r8 hr8) rfl ?_
      refine L.assign hF rfl rfl rfl ?_
      refine L.nil ?_
      refine WpC.seq ?_
      refine WpC.seq ?_
      refine WpC.regionL ?_
      refine L.move hF rfl rfl rfl ?_
      refine L.move hF rfl rfl rfl ?_
      refine L.neL Try.underlying4 hF rfl rfl rfl rfl ?_
      refine L.nil ?_
      refine WpC.cond rfl (fun hc => ?_) (fun hc => ?_)
      · replace H := condT hc H
        refine WpC.seq ?_
        refine WpC.regionL ?_
        refine L.assign hF rfl rfl rfl ?_
        refine L.nil ?_
        refine WpC.ret ?_
        cases H
        exact Leaves.ret rfl rfl rfl ⟨rfl, rfl⟩
      · replace H := condF hc H
        refine WpC.skip ?_
        refine WpC.seq ?_
        refine WpC.seq ?_
        refine WpC.regionL ?_
        refine L.move hF rfl rfl rfl ?_
        refine L.move hF rfl rfl rfl ?_
        obtain ⟨r11, hr11, H⟩ := bindS H
        refine L.call [false] [] [] 10 hF rfl rfl rfl ent81 rfl rfl rfl rfl rfl (Flaws_toRuleS_gives k g0 a0 r11 hr11) rfl ?_
        obtain ⟨r12, hr12, H⟩ := bindS H
        refine L.call [false, false] [7, 10] [] 11 hF rfl rfl rfl ent42 rfl rfl rfl rfl rfl (Flaws_eqRuleS_gives k false false r6 r11 r12 hr12) rfl ?_
        refine L.not hF rfl rfl rfl ?_
        refine L.nil ?_
        refine WpC.cond rfl (fun hc => ?_) (fun hc => ?_)
        · replace H := condT hc H
          refine WpC.seq ?_
          refine WpC.regionL ?_
          refine L.assign hF rfl rfl rfl ?_
          refine L.nil ?_
          refine WpC.ret ?_
          cases H
          exact Leaves.ret rfl rfl rfl ⟨rfl, rfl⟩
        · replace H := condF hc H
          refine WpC.skip ?_
          refine WpC.seq ?_
          refine WpC.seq ?_
          refine WpC.regionL ?_
          refine L.move hF rfl rfl rfl ?_
          refine L.move hF rfl rfl rfl ?_
          obtain ⟨r15, hr15, H⟩ := bindS H
          refine L.call [false] [] [] 12 hF rfl rfl rfl ent81 rfl rfl rfl rfl rfl (Flaws_toRuleS_gives k g1 a1 r15 hr15) rfl ?_
          obtain ⟨r16, hr16, H⟩ := bindS H
          refine L.call [false, false] [8, 12] [] 13 hF rfl rfl rfl ent42 rfl rfl rfl rfl rfl (Flaws_eqRuleS_gives k false false r7 r15 r16 hr16) rfl ?_
          refine L.not hF rfl rfl rfl ?_
          refine L.nil ?_
          refine WpC.cond rfl (fun hc => ?_) (fun hc => ?_)
          · replace H := condT hc H
            refine WpC.seq ?_
            refine WpC.regionL ?_
            refine L.assign hF rfl rfl rfl ?_
            refine L.nil ?_
            refine WpC.ret ?_
            cases H
            exact Leaves.ret rfl rfl rfl ⟨rfl, rfl⟩
          · replace H := condF hc H
            refine WpC.skip ?_
            refine WpC.seq ?_
            refine WpC.regionL ?_
            refine L.assign hF rfl rfl rfl ?_
            refine L.nil ?_
            refine WpC.ret ?_
            cases H
            exact Leaves.ret rfl rfl rfl ⟨rfl, rfl⟩
theorem open24 : Go.MG.Opens Try.prog 24 (Go.MG.eR Go.MG.eI) (Go.MG.wfR Go.MG.wfI) := Go.MG.Opens.slice Try.underlying24 (Go.MG.Opens.int Try.underlying3) (fun _ => (by kernel_rfl : Try.prog.cellsOf 3 = 1).symm) (fun _ => rfl) (fun _ => rfl) (by kernel_rfl)
def wfTlaws_Rule (x : Tlaws_Rule) : Prop := Go.MG.wfI x.Kind ∧ (Go.MG.wfR Go.MG.wfI) x.Set ∧ Go.MG.wfI x.N
theorem open202 : Go.MG.Opens Try.prog 202 eTlaws_Rule wfTlaws_Rule := by
  intro H enc W fuel cs x h
  obtain ⟨n, hp⟩ := Go.MG.struct_parts Try.underlying202 (by kernel_rfl : Try.prog.cellsOf 202 = 3) (by kernel_rfl) h
  obtain ⟨c0, k0, y0, rfl, h0, hp⟩ := hp
  obtain ⟨c1, k1, y1, rfl, h1, hp⟩ := hp
  obtain ⟨c2, k2, y2, rfl, h2, hp⟩ := hp
  obtain rfl := hp
  obtain ⟨a0, r0, w0⟩ := (Go.MG.Opens.int Try.underlying3) _ _ _ _ _ _ h0
  obtain ⟨a1, r1, w1⟩ := open24 _ _ _ _ _ _ h1
  obtain ⟨a2, r2, w2⟩ := (Go.MG.Opens.int Try.underlying3) _ _ _ _ _ _ h2
  exact ⟨⟨a0, a1, a2⟩, (r0.append (r1.append (r2.append (rfl : Go.MG.RCs _ [] [])))), w0, w1, w2⟩
theorem open98 : Go.MG.Opens Try.prog 98 (Go.MG.eR eTlaws_Rule) (Go.MG.wfR wfTlaws_Rule) := Go.MG.Opens.slice Try.underlying98 open202 (fun _ => (by kernel_rfl : Try.prog.cellsOf 202 = 3).symm) (fun _ => rfl) (fun _ => rfl) (by kernel_rfl)
end Go.Proofs.Ytcolcmjcjpikcaa.M
