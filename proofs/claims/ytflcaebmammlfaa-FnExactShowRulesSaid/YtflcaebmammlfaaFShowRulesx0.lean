import Derived.Test.YtflcaebmammlfaaMgZc
import Derived.Test.YtflcaebmammlfaaProg
namespace Go.Proofs.Ytflcaebmammlfaa.M
open Go Go.MG
set_option linter.unusedVariables false
set_option linter.unusedSimpArgs false
structure Tlaws_Rule where
  Kind : Int
  Set : List Int
  N : Int
def eTlaws_Rule (x : Tlaws_Rule) : List Cell := [cI x.Kind, Cell.sl true (List.map eI x.Set), cI x.N]
structure Timpl_Rule where
  Kind : Int
  Set : List Int
  N : Int
def eTimpl_Rule (x : Timpl_Rule) : List Cell := [cI x.Kind, Cell.sl true (List.map eI x.Set), cI x.N]
theorem mixed : Try.prog.follows .mixedOrders = true := by kernel_rfl
theorem shape3 : MG.shape Try.prog 3 = some (false, 1) := by kernel_rfl
theorem shape77 : MG.shape Try.prog 77 = some (false, 1) := by kernel_rfl
theorem shape131 : MG.shape Try.prog 131 = some (true, 3) := by kernel_rfl
theorem shape133 : MG.shape Try.prog 133 = some (true, 3) := by kernel_rfl
theorem info3 : Try.prog.info? 3 = some Try.t3 := by kernel_rfl
theorem info5 : Try.prog.info? 5 = some Try.t5 := by kernel_rfl
theorem info77 : Try.prog.info? 77 = some Try.t77 := by kernel_rfl
theorem info131 : Try.prog.info? 131 = some Try.t131 := by kernel_rfl
theorem info133 : Try.prog.info? 133 = some Try.t133 := by kernel_rfl
/-! ### Flaws_szIntS -/
def Flaws_szIntS (k : Nat) (a0 : List Int) (a1 : Int) : Option Int := cond (decide ((IntKind.i64.wrap (a1 - (a0.length : Int))) < (0 : Int))) (some (-1 : Int)) (some (IntKind.i64.wrap (a1 - (a0.length : Int))))
theorem ent135 : Enters Try.prog 135 := ⟨Try.f135, Try.func135, rfl, by decide⟩
set_option maxHeartbeats 8000000 in
set_option maxRecDepth 100000 in
theorem Flaws_szIntS_gives (k : Nat) (g0 : Bool) (a0 : List Int) (a1 : Int) (r : Int) (H : Flaws_szIntS k a0 a1 = some r) : Gives Try.prog 135 [V.one (Cell.sl g0 (List.map eI a0)), V.one (cI a1)] [] [V.one (cI r)] [] := by
  refine Gives.intro Try.func135 rfl rfl rfl rfl ?_
  intro F hF hm
  unfold Flaws_szIntS at H
  obtain ⟨K, hK⟩ : ∃ K, k ≤ K := ⟨k, Nat.le_refl k⟩
  refine WpC.seq ?_
  refine WpC.regionL ?_
  refine L.assign hF rfl rfl rfl ?_
  refine L.nil ?_
  refine WpC.seq ?_
  refine WpC.regionL ?_
  refine L.move hF rfl rfl rfl ?_
  refine L.move hF rfl rfl rfl ?_
  refine L.lenR (xs := a0) (e := eI) Try.underlying77 hF rfl rfl rfl rfl ?_
  refine L.bin hF rfl rfl rfl rfl rfl rfl ?_
  refine L.assign hF rfl rfl rfl ?_
  refine L.nil ?_
  refine WpC.seq ?_
  refine WpC.seq ?_
  refine WpC.regionL ?_
  refine L.move hF rfl rfl rfl ?_
  refine L.bin hF rfl rfl rfl rfl rfl rfl ?_
  refine L.nil ?_
  refine WpC.cond rfl (fun hc => ?_) (fun hc => ?_)
  · replace H := condT hc H
    refine WpC.seq ?_
    refine WpC.regionL ?_
    refine L.assign hF rfl rfl rfl ?_
    refine L.nil ?_
    refine WpC.ret ?_
    cases H
    exact Leaves.ret rfl rfl rfl ⟨rfl, rfl⟩
  · replace H := condF hc H
    refine WpC.skip ?_
    refine WpC.seq ?_
    refine WpC.regionL ?_
    refine L.move hF rfl rfl rfl ?_
    refine L.assign hF rfl rfl rfl ?_
    refine L.nil ?_
    refine WpC.ret ?_
    cases H
    exact Leaves.ret rfl rfl rfl ⟨rfl, rfl⟩
/-! ### Flaws_szRule -/
def Flaws_szRule (k : Nat) (a0 : Tlaws_Rule) (a1 : Int) : Option Int := (Flaws_szIntS k a0.Set a1).bind fun r1 => cond (decide (r1 < (0 : Int))) (some (-1 : Int)) (some r1)
theorem ent118 : Enters Try.prog 118 := ⟨Try.f118, Try.func118, rfl, by decide⟩
set_option maxHeartbeats 8000000 in
set_option maxRecDepth 100000 in
theorem Flaws_szRule_gives (k : Nat) (g0 : Bool) (a0 : Tlaws_Rule) (a1 : Int) (r : Int) (H : Flaws_szRule k a0 a1 = some r) : Gives Try.prog 118 [V.agg [cI a0.Kind, Cell.sl g0 (List.map eI a0.Set), cI a0.N], V.one (cI a1)] [] [V.one (cI r)] [] := by
  refine Gives.intro Try.func118 rfl rfl rfl rfl ?_
  intro F hF hm
  unfold Flaws_szRule at H
  obtain ⟨K, hK⟩ : ∃ K, k ≤ K := ⟨k, Nat.le_refl k⟩
  refine WpC.seq ?_
  refine WpC.regionL ?_
  refine L.box 4 hF rfl rfl rfl rfl ?_
  refine L.assign hF rfl rfl rfl ?_
  refine L.nil ?_
  refine WpC.seq ?_
  refine WpC.regionL ?_
  refine L.fieldAddr Try.underlying131 rfl info77 rfl hF rfl rfl rfl rfl rfl ?_
  refine L.loadPtr shape77 hF rfl rfl rfl rfl rfl rfl ?_
  refine L.move hF rfl rfl rfl ?_
  obtain ⟨r1, hr1, H⟩ := bindS H
  refine L.call [false, false] [] [] 5 hF rfl rfl rfl ent135 rfl rfl rfl rfl rfl (Flaws_szIntS_gives k g0 a0.Set a1 r1 hr1) rfl ?_
  refine L.assign hF rfl rfl rfl ?_
  refine L.nil ?_
  refine WpC.seq ?_
  refine WpC.seq ?_
  refine WpC.regionL ?_
  refine L.move hF rfl rfl rfl ?_
  refine L.bin hF rfl rfl rfl rfl rfl rfl ?_
  refine L.nil ?_
  refine WpC.cond rfl (fun hc => ?_) (fun hc => ?_)
  · replace H := condT hc H
    refine WpC.seq ?_
    refine WpC.regionL ?_
    refine L.assign hF rfl rfl rfl ?_
    refine L.nil ?_
    refine WpC.ret ?_
    cases H
    exact Leaves.ret rfl rfl rfl ⟨rfl, rfl⟩
  · replace H := condF hc H
    refine WpC.skip ?_
    refine WpC.seq ?_
    refine WpC.regionL ?_
    refine L.move hF rfl rfl rfl ?_
    refine L.assign hF rfl rfl rfl ?_
    refine L.nil ?_
    refine WpC.ret ?_
    cases H
    exact Leaves.ret rfl rfl rfl ⟨rfl, rfl⟩
/-! ### Flaws_szRuleS -/
def Flaws_szRuleS.l2 : Nat → (List Tlaws_Rule) → Int → Int → Option Int
  | 0, _, _, _ => none
  | k2 + 1, v34, v35, v36 => cond (decide (v36 < (v34.length : Int))) ((at? v34 v36).bind fun b39 => (Flaws_szRule k2 b39 v35).bind fun r40 => cond (decide (r40 < (0 : Int))) (some (-1 : Int)) ((Flaws_szRuleS.l2 k2) v34 r40 (IntKind.i64.wrap (v36 + (1 : Int))))) (some v35)
def Flaws_szRuleS (k : Nat) (a0 : List Tlaws_Rule) (a1 : Int) : Option Int := cond (decide ((IntKind.i64.wrap (a1 - (a0.length : Int))) < (0 : Int))) (some (-1 : Int)) (Flaws_szRuleS.l2 k a0 (IntKind.i64.wrap (a1 - (a0.length : Int))) (0 : Int))
theorem ent61 : Enters Try.prog 61 := ⟨Try.f61, Try.func61, rfl, by decide⟩
set_option maxHeartbeats 8000000 in
set_option maxRecDepth 100000 in
theorem Flaws_szRuleS_gives (k : Nat) (g0 : Bool) (a0 : List Tlaws_Rule) (a1 : Int) (r : Int) (H : Flaws_szRuleS k a0 a1 = some r) : Gives Try.prog 61 [V.one (Cell.sl g0 (List.map eTlaws_Rule a0)), V.one (cI a1)] [] [V.one (cI r)] [] := by
  refine Gives.intro Try.func61 rfl rfl rfl rfl ?_
  intro F hF hm
  unfold Flaws_szRuleS at H
  obtain ⟨K, hK⟩ : ∃ K, k ≤ K := ⟨k, Nat.le_refl k⟩
  refine WpC.seq ?_
  refine WpC.regionL ?_
  refine L.assign hF rfl rfl rfl ?_
  refine L.nil ?_
  refine WpC.seq ?_
  refine WpC.regionL ?_
  refine L.move hF rfl rfl rfl ?_
  refine L.move hF rfl rfl rfl ?_
  refine L.lenR (xs := a0) (e := eTlaws_Rule) Try.underlying68 hF rfl rfl rfl rfl ?_
  refine L.bin hF rfl rfl rfl rfl rfl rfl ?_
  refine L.assign hF rfl rfl rfl ?_
  refine L.nil ?_
  refine WpC.seq ?_
  refine WpC.seq ?_
  refine WpC.regionL ?_
  refine L.move hF rfl rfl rfl ?_
  refine L.bin hF rfl rfl rfl rfl rfl rfl ?_
  refine L.nil ?_
  refine WpC.cond rfl (fun hc => ?_) (fun hc => ?_)
  · replace H := condT hc H
    refine WpC.seq ?_
    refine WpC.regionL ?_
    refine L.assign hF rfl rfl rfl ?_
    refine L.nil ?_
    refine WpC.ret ?_
    cases H
    exact Leaves.ret rfl rfl rfl ⟨rfl, rfl⟩
  · replace H := condF hc H
    refine WpC.skip ?_
    refine WpC.seq ?_
    refine WpC.seq ?_
    refine WpC.regionL ?_
    refine L.assign hF rfl rfl rfl ?_
    refine L.nil ?_
    refine WpC.block ?_
    refine WpC.loopL (P := Try.prog) (fun n σ => ∃ v34 : List Tlaws_Rule, ∃ v35 : Int, ∃ v36 : Int, n ≤ K ∧ Flaws_szRuleS.l2 n v34 v35 v36 = some r ∧ σ = mkSt [(0, one (Cell.sl g0 (List.map eTlaws_Rule v34))), (1, one (cI v35)), (5, one (cI v36))] [] [] 0) k ⟨_, ⟨a0, (IntKind.i64.wrap (a1 - (a0.length : Int))), (0 : Int), by omega, H, rfl⟩, Le.mk [] hm rfl ⟨⟨_, rfl, rfl⟩, ⟨_, rfl, rfl⟩, ⟨_, rfl, rfl⟩, trivial⟩ trivial trivial⟩ ?_
    clear H
    rintro k2 _ ⟨v34, v35, v36, hk2, H, rfl⟩
    cases k2 with
    | zero => cases H
    | succ k2 =>
      rw [Flaws_szRuleS.l2] at H
      refine WpC.seq ?_
      refine WpC.seq ?_
      refine WpC.regionL ?_
      refine L.move hF rfl rfl rfl ?_
      refine L.move hF rfl rfl rfl ?_
      refine L.lenR (xs := v34) (e := eTlaws_Rule) Try.underlying68 hF rfl rfl rfl rfl ?_
      refine L.bin hF rfl rfl rfl rfl rfl rfl ?_
      refine L.nil ?_
      refine WpC.cond rfl (fun hc => ?_) (fun hc => ?_)
      · replace H := condT hc H
        refine WpC.skip ?_
        refine WpC.seq ?_
        refine WpC.block ?_
        refine WpC.seq ?_
        refine WpC.regionL ?_
        refine L.move hF rfl rfl rfl ?_
        refine L.move hF rfl rfl rfl ?_
        obtain ⟨b39, hb39, H⟩ := bindS H
        refine L.idxR (xs := v34) (e := eTlaws_Rule) Try.underlying68 info131 hF rfl rfl rfl rfl rfl hb39 rfl rfl ?_
        refine L.loadPe shape131 hF rfl rfl rfl rfl rfl ?_
        refine L.move hF rfl rfl rfl ?_
        obtain ⟨r40, hr40, H⟩ := bindS H
        refine L.call [false, false] [] [] 0 hF rfl rfl rfl ent118 rfl rfl rfl rfl rfl (Flaws_szRule_gives k2 true b39 v35 r40 hr40) rfl ?_
        refine L.assign hF rfl rfl rfl ?_
        refine L.nil ?_
        refine WpC.seq ?_
        refine WpC.regionL ?_
        refine L.move hF rfl rfl rfl ?_
        refine L.bin hF rfl rfl rfl rfl rfl rfl ?_
        refine L.nil ?_
        refine WpC.cond rfl (fun hc => ?_) (fun hc => ?_)
        · replace H := condT hc H
          refine WpC.seq ?_
          refine WpC.regionL ?_
          refine L.assign hF rfl rfl rfl ?_
          refine L.nil ?_
          refine WpC.ret ?_
          cases H
          exact Leaves.ret rfl rfl rfl ⟨rfl, rfl⟩
        · replace H := condF hc H
          refine WpC.skip ?_
          refine WpC.regionL ?_
          refine L.move hF rfl rfl rfl ?_
          refine L.bin hF rfl rfl rfl rfl rfl rfl ?_
          refine L.assign hF rfl rfl rfl ?_
          refine L.nil ?_
          exact ⟨k2, _, by omega, ⟨v34, r40, (IntKind.i64.wrap (v36 + (1 : Int))), by omega, H, rfl⟩, Le.mk [] hm rfl ⟨⟨_, rfl, rfl⟩, ⟨_, rfl, rfl⟩, ⟨_, rfl, rfl⟩, trivial⟩ trivial trivial⟩
      · replace H := condF hc H
        refine WpC.exit ?_
        refine WpC.seq ?_
        refine WpC.regionL ?_
        refine L.move hF rfl rfl rfl ?_
        refine L.assign hF rfl rfl rfl ?_
        refine L.nil ?_
        refine WpC.ret ?_
        cases H
        exact Leaves.ret rfl rfl rfl ⟨rfl, rfl⟩
/-! ### Flaws_toIntS -/
def Flaws_toIntS.l2 : Nat → (List Int) → (List Int) → Int → Option (List Int)
  | 0, _, _, _ => none
  | k2 + 1, v35, v36, v37 => cond (decide (v37 < (v35.length : Int))) ((at? v35 v37).bind fun b40 => (at? v36 v37).bind fun b41 => (Flaws_toIntS.l2 k2) v35 (v36.set v37.toNat b40) (IntKind.i64.wrap (v37 + (1 : Int)))) (some v36)
def Flaws_toIntS (k : Nat) (a0 : List Int) : Option (List Int) := cond (decide (0 ≤ (a0.length : Int) ∧ (a0.length : Int) ≤ (a0.length : Int) ∧ 8 * (a0.length : Int) ≤ 281474976710656 ∧ (a0.length : Int) ≤ 9223372036854775807)) (Flaws_toIntS.l2 k a0 (List.replicate (a0.length : Int).toNat (0 : Int)) (0 : Int)) none
theorem ent137 : Enters Try.prog 137 := ⟨Try.f137, Try.func137, rfl, by decide⟩
set_option maxHeartbeats 8000000 in
set_option maxRecDepth 100000 in
theorem Flaws_toIntS_gives (k : Nat) (g0 : Bool) (a0 : List Int) (r : List Int) (H : Flaws_toIntS k a0 = some r) : Gives Try.prog 137 [V.one (Cell.sl g0 (List.map eI a0))] [] [V.one (Cell.ow 1 (List.map eI r))] [] := by
  refine Gives.intro Try.func137 rfl rfl rfl rfl ?_
  intro F hF hm
  unfold Flaws_toIntS at H
  obtain ⟨K, hK⟩ : ∃ K, k ≤ K := ⟨k, Nat.le_refl k⟩
  refine WpC.seq ?_
  refine WpC.regionL ?_
  refine L.assign hF rfl rfl rfl ?_
  refine L.nil ?_
  refine WpC.seq ?_
  refine WpC.regionL ?_
  refine L.move hF rfl rfl rfl ?_
  refine L.lenR (xs := a0) (e := eI) Try.underlying77 hF rfl rfl rfl rfl ?_
  obtain ⟨h1, H⟩ := condG H
  refine L.makeSlice (e := eI) 1 (0 : Int) Try.underlying77 info3 rfl rfl rfl hF rfl rfl rfl rfl (of_decide_eq_true h1) rfl rfl ?_
  refine L.assign hF rfl rfl rfl ?_
  refine L.nil ?_
  refine WpC.seq ?_
  refine WpC.seq ?_
  refine WpC.regionL ?_
  refine L.assign hF rfl rfl rfl ?_
  refine L.nil ?_
  refine WpC.block ?_
  refine WpC.loopL (P := Try.prog) (fun n σ => ∃ v35 : List Int, ∃ v36 : List Int, ∃ v37 : Int, n ≤ K ∧ Flaws_toIntS.l2 n v35 v36 v37 = some r ∧ σ = mkSt [(0, one (Cell.sl g0 (List.map eI v35))), (3, one (Cell.own 0)), (4, one (cI v37))] [(0, ⟨1, List.map eI v36⟩)] [] 1) k ⟨_, ⟨a0, (List.replicate (a0.length : Int).toNat (0 : Int)), (0 : Int), by omega, H, rfl⟩, Le.mk [(0, 1)] hm rfl ⟨⟨_, rfl, rfl⟩, ⟨_, rfl, rfl⟩, ⟨_, rfl, rfl⟩, trivial⟩ ⟨⟨_, rfl, rfl⟩, trivial⟩ trivial⟩ ?_
  clear H
  rintro k2 _ ⟨v35, v36, v37, hk2, H, rfl⟩
  cases k2 with
  | zero => cases H
  | succ k2 =>
    rw [Flaws_toIntS.l2] at H
    refine WpC.seq ?_
    refine WpC.seq ?_
    refine WpC.regionL ?_
    refine L.move hF rfl rfl rfl ?_
    refine L.move hF rfl rfl rfl ?_
    refine L.lenR (xs := v35) (e := eI) Try.underlying77 hF rfl rfl rfl rfl ?_
    refine L.bin hF rfl rfl rfl rfl rfl rfl ?_
    refine L.nil ?_
    refine WpC.cond rfl (fun hc => ?_) (fun hc => ?_)
    · replace H := condT hc H
      refine WpC.skip ?_
      refine WpC.seq ?_
      refine WpC.block ?_
      refine WpC.regionL ?_
      refine L.move hF rfl rfl rfl ?_
      refine L.move hF rfl rfl rfl ?_
      refine L.move hF rfl rfl rfl ?_
      refine L.move hF rfl rfl rfl ?_
      obtain ⟨b40, hb40, H⟩ := bindS H
      refine L.idxR (xs := v35) (e := eI) Try.underlying77 info3 hF rfl rfl rfl rfl rfl hb40 rfl rfl ?_
      refine L.loadPe shape3 hF rfl rfl rfl rfl rfl ?_
      obtain ⟨b41, hb41, H⟩ := bindS H
      refine L.idxR (xs := v36) (e := eI) Try.underlying77 info3 hF rfl rfl rfl rfl rfl hb41 rfl rfl ?_
      refine L.storeEp (xs := v36) (e := eI) (a' := b40) shape3 hF rfl rfl rfl rfl rfl rfl rfl (at?_get hb41).2 rfl rfl ?_
      refine L.nil ?_
      refine WpC.regionL ?_
      refine L.move hF rfl rfl rfl ?_
      refine L.bin hF rfl rfl rfl rfl rfl rfl ?_
      refine L.assign hF rfl rfl rfl ?_
      refine L.nil ?_
      exact ⟨k2, _, by omega, ⟨v35, (v36.set v37.toNat b40), (IntKind.i64.wrap (v37 + (1 : Int))), by omega, H, rfl⟩, Le.mk [(0, 0)] hm rfl ⟨⟨_, rfl, rfl⟩, ⟨_, rfl, rfl⟩, ⟨_, rfl, rfl⟩, trivial⟩ ⟨⟨_, rfl, rfl⟩, trivial⟩ trivial⟩
    · replace H := condF hc H
      refine WpC.exit ?_
      refine WpC.seq ?_
      refine WpC.regionL ?_
      refine L.move hF rfl rfl rfl ?_
      refine L.assign hF rfl rfl rfl ?_
      refine L.nil ?_
      refine WpC.ret ?_
      cases H
      exact Leaves.ret rfl rfl rfl ⟨rfl, rfl⟩
/-! ### Flaws_toRule -/
def Flaws_toRule (k : Nat) (a0 : Tlaws_Rule) : Option Timpl_Rule := (Flaws_toIntS k a0.Set).bind fun r1 => some (⟨a0.Kind, r1, a0.N⟩ : Timpl_Rule)
theorem ent120 : Enters Try.prog 120 := ⟨Try.f120, Try.func120, rfl, by decide⟩
set_option maxHeartbeats 8000000 in
set_option maxRecDepth 100000 in
theorem Flaws_toRule_gives (k : Nat) (g0 : Bool) (a0 : Tlaws_Rule) (r : Timpl_Rule) (H : Flaws_toRule k a0 = some r) : Gives Try.prog 120 [V.agg [cI a0.Kind, Cell.sl g0 (List.map eI a0.Set), cI a0.N]] [] [V.agg [cI r.Kind, Cell.ow 1 (List.map eI r.Set), cI r.N]] [] := by
  refine Gives.intro Try.func120 rfl rfl rfl rfl ?_
  intro F hF hm
  unfold Flaws_toRule at H
  obtain ⟨K, hK⟩ : ∃ K, k ≤ K := ⟨k, Nat.le_refl k⟩
  refine WpC.seq ?_
  refine WpC.regionL ?_
  refine L.box 3 hF rfl rfl rfl rfl ?_
  refine L.alloc 4 info133 rfl hF rfl rfl rfl rfl ?_
  refine L.nil ?_
  refine WpC.seq ?_
  refine WpC.regionL ?_
  refine L.alloc 5 info133 rfl hF rfl rfl rfl rfl ?_
  refine L.nil ?_
  refine WpC.seq ?_
  refine WpC.regionL ?_
  refine L.fieldAddr Try.underlying131 rfl info3 rfl hF rfl rfl rfl rfl rfl ?_
  refine L.loadPtr shape3 hF rfl rfl rfl rfl rfl rfl ?_
  refine L.fieldAddr Try.underlying133 rfl info3 rfl hF rfl rfl rfl rfl rfl ?_
  refine L.storePtr shape3 hF rfl rfl rfl rfl rfl rfl rfl ?_
  refine L.nil ?_
  refine WpC.seq ?_
  refine WpC.regionL ?_
  refine L.fieldAddr Try.underlying131 rfl info77 rfl hF rfl rfl rfl rfl rfl ?_
  refine L.loadPtr shape77 hF rfl rfl rfl rfl rfl rfl ?_
  obtain ⟨r1, hr1, H⟩ := bindS H
  refine L.call [false] [] [] 6 hF rfl rfl rfl ent137 rfl rfl rfl rfl rfl (Flaws_toIntS_gives k g0 a0.Set r1 hr1) rfl ?_
  refine L.fieldAddr Try.underlying133 rfl info77 rfl hF rfl rfl rfl rfl rfl ?_
  refine L.storePtr shape77 hF rfl rfl rfl rfl rfl rfl rfl ?_
  refine L.nil ?_
  refine WpC.seq ?_
  refine WpC.regionL ?_
  refine L.fieldAddr Try.underlying131 rfl info3 rfl hF rfl rfl rfl rfl rfl ?_
  refine L.loadPtr shape3 hF rfl rfl rfl rfl rfl rfl ?_
  refine L.fieldAddr Try.underlying133 rfl info3 rfl hF rfl rfl rfl rfl rfl ?_
  refine L.storePtr shape3 hF rfl rfl rfl rfl rfl rfl rfl ?_
  refine L.nil ?_
  refine WpC.seq ?_
  refine WpC.regionL ?_
  refine L.loadPtr shape133 hF rfl rfl rfl rfl rfl rfl ?_
  refine L.storePtr shape133 hF rfl rfl rfl rfl rfl rfl rfl ?_
  refine L.nil ?_
  refine WpC.ret ?_
  cases H
  exact Leaves.ret rfl rfl rfl ⟨rfl, rfl⟩
/-! ### Flaws_toRuleS -/
def Flaws_toRuleS.l2 : Nat → (List Tlaws_Rule) → (List Timpl_Rule) → Int → Option (List Timpl_Rule)
  | 0, _, _, _ => none
  | k2 + 1, v45, v46, v47 => cond (decide (v47 < (v45.length : Int))) ((at? v45 v47).bind fun b51 => (Flaws_toRule k2 b51).bind fun r52 => (at? v46 v47).bind fun b53 => (Flaws_toRuleS.l2 k2) v45 (v46.set v47.toNat r52) (IntKind.i64.wrap (v47 + (1 : Int)))) (some v46)
def Flaws_toRuleS (k : Nat) (a0 : List Tlaws_Rule) : Option (List Timpl_Rule) := cond (decide (0 ≤ (a0.length : Int) ∧ (a0.length : Int) ≤ (a0.length : Int) ∧ 40 * (a0.length : Int) ≤ 281474976710656 ∧ (a0.length : Int) ≤ 9223372036854775807)) (Flaws_toRuleS.l2 k a0 (List.replicate (a0.length : Int).toNat (⟨(0 : Int), [], (0 : Int)⟩ : Timpl_Rule)) (0 : Int)) none
theorem ent63 : Enters Try.prog 63 := ⟨Try.f63, Try.func63, rfl, by decide⟩
set_option maxHeartbeats 8000000 in
set_option maxRecDepth 100000 in
theorem Flaws_toRuleS_gives (k : Nat) (g0 : Bool) (a0 : List Tlaws_Rule) (r : List Timpl_Rule) (H : Flaws_toRuleS k a0 = some r) : Gives Try.prog 63 [V.one (Cell.sl g0 (List.map eTlaws_Rule a0))] [] [V.one (Cell.ow 3 (List.map eTimpl_Rule r))] [] := by
  refine Gives.intro Try.func63 rfl rfl rfl rfl ?_
  intro F hF hm
  unfold Flaws_toRuleS at H
  obtain ⟨K, hK⟩ : ∃ K, k ≤ K := ⟨k, Nat.le_refl k⟩
  refine WpC.seq ?_
  refine WpC.regionL ?_
  refine L.assign hF rfl rfl rfl ?_
  refine L.nil ?_
  refine WpC.seq ?_
  refine WpC.regionL ?_
  refine L.move hF rfl rfl rfl ?_
  refine L.lenR (xs := a0) (e := eTlaws_Rule) Try.underlying68 hF rfl rfl rfl rfl ?_
  obtain ⟨h1, H⟩ := condG H
  refine L.makeSliceN (e := eTimpl_Rule) 1 (⟨(0 : Int), [], (0 : Int)⟩ : Timpl_Rule) Try.underlying71 info133 rfl rfl rfl hF rfl rfl rfl rfl (of_decide_eq_true h1) rfl rfl ⟨rfl, rfl⟩ ?_
  refine L.assign hF rfl rfl rfl ?_
  refine L.nil ?_
  refine WpC.seq ?_
  refine WpC.seq ?_
  refine WpC.regionL ?_
  refine L.assign hF rfl rfl rfl ?_
  refine L.nil ?_
  refine WpC.block ?_
  refine WpC.loopL (P := Try.prog) (fun n σ => ∃ v45 : List Tlaws_Rule, ∃ v46 : List Timpl_Rule, ∃ v47 : Int, n ≤ K ∧ Flaws_toRuleS.l2 n v45 v46 v47 = some r ∧ σ = mkSt [(0, one (Cell.sl g0 (List.map eTlaws_Rule v45))), (3, one (Cell.own 0)), (4, one (cI v47))] [(0, ⟨3, List.map eTimpl_Rule v46⟩)] [] 1) k ⟨_, ⟨a0, (List.replicate (a0.length : Int).toNat (⟨(0 : Int), [], (0 : Int)⟩ : Timpl_Rule)), (0 : Int), by omega, H, rfl⟩, Le.mk [(0, 1)] hm rfl ⟨⟨_, rfl, rfl⟩, ⟨_, rfl, rfl⟩, ⟨_, rfl, rfl⟩, trivial⟩ ⟨⟨_, rfl, rfl⟩, trivial⟩ trivial⟩ ?_
  clear H
  rintro k2 _ ⟨v45, v46, v47, hk2, H, rfl⟩
  cases k2 with
  | zero => cases H
  | succ k2 =>
    rw [Flaws_toRuleS.l2] at H
    refine WpC.seq ?_
    refine WpC.seq ?_
    refine WpC.regionL ?_
    refine L.move hF rfl rfl rfl ?_
    refine L.move hF rfl rfl rfl ?_
    refine L.lenR (xs := v45) (e := eTlaws_Rule) Try.underlying68 hF rfl rfl rfl rfl ?_
    refine L.bin hF rfl rfl rfl rfl rfl rfl ?_
    refine L.nil ?_
    refine WpC.cond rfl (fun hc => ?_) (fun hc => ?_)
    · replace H := condT hc H
      refine WpC.skip ?_
      refine WpC.seq ?_
      refine WpC.block ?_
      refine WpC.regionL ?_
      refine L.move hF rfl rfl rfl ?_
      refine L.move hF rfl rfl rfl ?_
      refine L.move hF rfl rfl rfl ?_
      refine L.move hF rfl rfl rfl ?_
      obtain ⟨b51, hb51, H⟩ := bindS H
      refine L.idxR (xs := v45) (e := eTlaws_Rule) Try.underlying68 info131 hF rfl rfl rfl rfl rfl hb51 rfl rfl ?_
      refine L.loadPe shape131 hF rfl rfl rfl rfl rfl ?_
      obtain ⟨r52, hr52, H⟩ := bindS H
      refine L.call [false] [] [] 1 hF rfl rfl rfl ent120 rfl rfl rfl rfl rfl (Flaws_toRule_gives k2 true b51 r52 hr52) rfl ?_
      obtain ⟨b53, hb53, H⟩ := bindS H
      refine L.idxR (xs := v46) (e := eTimpl_Rule) Try.underlying71 info133 hF rfl rfl rfl rfl rfl hb53 rfl rfl ?_
      refine L.storeEp (xs := v46) (e := eTimpl_Rule) (a' := r52) shape133 hF rfl rfl rfl rfl rfl rfl rfl (at?_get hb53).2 rfl rfl ?_
      refine L.nil ?_
      refine WpC.regionL ?_
      refine L.move hF rfl rfl rfl ?_
      refine L.bin hF rfl rfl rfl rfl rfl rfl ?_
      refine L.assign hF rfl rfl rfl ?_
      refine L.nil ?_
      exact ⟨k2, _, by omega, ⟨v45, (v46.set v47.toNat r52), (IntKind.i64.wrap (v47 + (1 : Int))), by omega, H, rfl⟩, Le.mk [(0, 0)] hm rfl ⟨⟨_, rfl, rfl⟩, ⟨_, rfl, rfl⟩, ⟨_, rfl, rfl⟩, trivial⟩ ⟨⟨_, rfl, rfl⟩, trivial⟩ trivial⟩
    · replace H := condF hc H
      refine WpC.exit ?_
      refine WpC.seq ?_
      refine WpC.regionL ?_
      refine L.move hF rfl rfl rfl ?_
      refine L.assign hF rfl rfl rfl ?_
      refine L.nil ?_
      refine WpC.ret ?_
      cases H
      exact Leaves.ret rfl rfl rfl ⟨rfl, rfl⟩
/-! ### Fspec_l1In -/
def Fspec_l1In (k : Nat) (a0 : Int) (a1 : Int) (a2 : Int) : Option Bool := cond (decide (a0 ≥ a1)) (some (decide (a0 ≤ a2))) (some false)
theorem ent92 : Enters Try.prog 92 := ⟨Try.f92, Try.func92, rfl, by decide⟩
set_option maxHeartbeats 8000000 in
set_option maxRecDepth 100000 in
theorem Fspec_l1In_gives (k : Nat) (a0 : Int) (a1 : Int) (a2 : Int) (r : Bool) (H : Fspec_l1In k a0 a1 a2 = some r) : Gives Try.prog 92 [V.one (cI a0), V.one (cI a1), V.one (cI a2)] [] [V.one (cL r)] [] := by
  refine Gives.intro Try.func92 rfl rfl rfl rfl ?_
  intro F hF hm
  unfold Fspec_l1In at H
  obtain ⟨K, hK⟩ : ∃ K, k ≤ K := ⟨k, Nat.le_refl k⟩
  refine WpC.seq ?_
  refine WpC.regionL ?_
  refine L.assign hF rfl rfl rfl ?_
  refine L.nil ?_
  refine WpC.seq ?_
  refine WpC.regionL ?_
  refine L.move hF rfl rfl rfl ?_
  refine L.move hF rfl rfl rfl ?_
  refine L.bin hF rfl rfl rfl rfl rfl rfl ?_
  refine L.move hF rfl rfl rfl ?_
  refine L.split (fun hc => ?_) (fun hc => ?_)
  · replace H := condT hc H
    refine L.move hF rfl rfl rfl ?_
    refine L.move hF rfl rfl rfl ?_
    refine L.bin hF rfl rfl rfl rfl rfl rfl ?_
    refine L.pick hF rfl rfl rfl rfl ?_
    refine L.assign hF rfl rfl rfl ?_
    refine L.nil ?_
    refine WpC.ret ?_
    cases H
    exact Leaves.ret rfl rfl rfl ⟨rfl, rfl⟩
  · replace H := condF hc H
    refine L.off hF rfl rfl ?_
    refine L.off hF rfl rfl ?_
    refine L.off hF rfl rfl ?_
    refine L.pick hF rfl rfl rfl rfl ?_
    refine L.assign hF rfl rfl rfl ?_
    refine L.nil ?_
    refine WpC.ret ?_
    cases H
    exact Leaves.ret rfl rfl rfl ⟨rfl, rfl⟩
/-! ### Fspec_l17Set -/
def Fspec_l17Set.j8 (cl7 : (List Int) → Int → Option Bool) (k : Nat) (v122 : List Int) (v123 : Int) (v124 : Bool) (v125 : Bool) (v126 : Bool) : Option Bool := cl7 v122 (IntKind.i64.wrap (v123 + (1 : Int)))
def Fspec_l17Set.l7 : Nat → (List Int) → Int → Option Bool
  | 0, _, _ => none
  | k7 + 1, v112, v113 => cond (decide (v113 < (v112.length : Int))) ((at? v112 v113).bind fun b131 => (Fspec_l1In k7 b131 (0 : Int) (30 : Int)).bind fun r132 => cond (!r132) (some false) (cond (decide (v113 > (0 : Int))) ((at? v112 (IntKind.i64.wrap (v113 - (1 : Int)))).bind fun b135 => (at? v112 v113).bind fun b136 => cond (decide (b135 ≥ b136)) (some false) (Fspec_l17Set.j8 (Fspec_l17Set.l7 k7) k7 v112 v113 (decide (v113 > (0 : Int))) true (decide (b135 ≥ b136)))) (Fspec_l17Set.j8 (Fspec_l17Set.l7 k7) k7 v112 v113 (decide (v113 > (0 : Int))) false false))) (some true)
def Fspec_l17Set (k : Nat) (a0 : List Int) : Option Bool := Fspec_l17Set.l7 k a0 (0 : Int)
theorem ent154 : Enters Try.prog 154 := ⟨Try.f154, Try.func154, rfl, by decide⟩
set_option maxHeartbeats 8000000 in
set_option maxRecDepth 100000 in
theorem Fspec_l17Set_gives (k : Nat) (g0 : Bool) (a0 : List Int) (r : Bool) (H : Fspec_l17Set k a0 = some r) : Gives Try.prog 154 [V.one (Cell.sl g0 (List.map eI a0))] [] [V.one (cL r)] [] := by
  refine Gives.intro Try.func154 rfl rfl rfl rfl ?_
  intro F hF hm
  unfold Fspec_l17Set at H
  obtain ⟨K, hK⟩ : ∃ K, k ≤ K := ⟨k, Nat.le_refl k⟩
  refine WpC.seq ?_
  refine WpC.regionL ?_
  refine L.assign hF rfl rfl rfl ?_
  refine L.nil ?_
  refine WpC.seq ?_
  refine WpC.seq ?_
  refine WpC.regionL ?_
  refine L.assign hF rfl rfl rfl ?_
  refine L.nil ?_
  refine WpC.block ?_
  refine WpC.loopL (P := Try.prog) (fun n σ => ∃ v112 : List Int, ∃ v113 : Int, n ≤ K ∧ Fspec_l17Set.l7 n v112 v113 = some r ∧ σ = mkSt [(0, one (Cell.sl g0 (List.map eI v112))), (3, one (cI v113))] [] [] 0) k ⟨_, ⟨a0, (0 : Int), by omega, H, rfl⟩, Le.mk [] hm rfl ⟨⟨_, rfl, rfl⟩, ⟨_, rfl, rfl⟩, trivial⟩ trivial trivial⟩ ?_
  clear H
  rintro k7 _ ⟨v112, v113, hk7, H, rfl⟩
  cases k7 with
  | zero => cases H
  | succ k7 =>
    rw [Fspec_l17Set.l7] at H
    refine WpC.seq ?_
    refine WpC.seq ?_
    refine WpC.regionL ?_
    refine L.move hF rfl rfl rfl ?_
    refine L.move hF rfl rfl rfl ?_
    refine L.lenR (xs := v112) (e := eI) Try.underlying77 hF rfl rfl rfl rfl ?_
    refine L.bin hF rfl rfl rfl rfl rfl rfl ?_
    refine L.nil ?_
    refine WpC.cond rfl (fun hc => ?_) (fun hc => ?_)
    · replace H := condT hc H
      refine WpC.skip ?_
      refine WpC.join (fun σ => ∃ kj8 : Nat, ∃ v122 : List Int, ∃ v123 : Int, ∃ v124 : Bool, ∃ v125 : Bool, ∃ v126 : Bool, kj8 ≤ K ∧ Fspec_l17Set.j8 (Fspec_l17Set.l7 k7) kj8 v122 v123 v124 v125 v126 = some r ∧ σ = mkSt [(0, one (Cell.sl g0 (List.map eI v122))), (3, one (cI v123)), (17, one (cI v123)), (18, one (cL v124)), (19, one (cL v125)), (30, one (cL v126))] [] [] 0) ?_ ?_
      · rintro _ ⟨kj8, v122, v123, v124, v125, v126, hkj8, H, rfl⟩
        unfold Fspec_l17Set.j8 at H
        refine WpC.regionL ?_
        refine L.move hF rfl rfl rfl ?_
        refine L.bin hF rfl rfl rfl rfl rfl rfl ?_
        refine L.assign hF rfl rfl rfl ?_
        refine L.nil ?_
        exact ⟨k7, _, by omega, ⟨v122, (IntKind.i64.wrap (v123 + (1 : Int))), by omega, H, rfl⟩, Le.mk [] hm rfl ⟨⟨_, rfl, rfl⟩, ⟨_, rfl, rfl⟩, trivial⟩ trivial trivial⟩
      · refine WpC.block ?_
        refine WpC.seq ?_
        obtain ⟨b131, hb131, H⟩ := bindS H
        obtain ⟨r132, hr132, H⟩ := bindS H
        rcases Bool.eq_false_or_eq_true ((!r132)) with hc133 | hc133
        · replace H := condT hc133 H
          refine A.begin mixed rfl rfl ?_
          intro W hI hO
          have n4194303 : W 0 #[true, true, true, true, true, true, true, true, true, true, true, true, true, true, true, true, true, true, true, true, true, true] (mkSt [(0, one (Cell.sl g0 (List.map eI v112))), (3, one (cI v113)), (17, Slot.tup []), (18, Slot.tup []), (19, Slot.tup []), (20, Slot.tup []), (21, Slot.tup []), (22, Slot.tup []), (23, Slot.tup []), (24, Slot.tup []), (25, Slot.tup []), (26, Slot.tup []), (27, Slot.tup []), (28, Slot.tup []), (29, Slot.tup []), (30, Slot.tup []), (31, one (cL true))] [] [] 0) := by
            refine hI _ _ _ (A.done (by kernel_rfl) ?_)
            refine WpC.cond rfl (fun _ => ?_) (fun hc => by cases hc)
            refine WpC.seq ?_
            refine WpC.regionL ?_
            refine L.assign hF rfl rfl rfl ?_
            refine L.nil ?_
            refine WpC.ret ?_
            cases H
            exact Leaves.ret rfl rfl rfl ⟨rfl, rfl⟩
          have n2097151 : W 1 #[true, true, true, true, true, true, true, true, true, true, true, true, true, true, true, true, true, true, true, true, true, false] (mkSt [(0, one (Cell.sl g0 (List.map eI v112))), (3, one (cI v113)), (16, one (cL true)), (17, Slot.tup []), (18, Slot.tup []), (19, Slot.tup []), (20, Slot.tup []), (21, Slot.tup []), (22, Slot.tup []), (23, Slot.tup []), (24, Slot.tup []), (25, Slot.tup []), (26, Slot.tup []), (27, Slot.tup []), (28, Slot.tup []), (29, Slot.tup []), (30, Slot.tup [])] [] [] 0) := by
            refine hI _ _ _ ?_
            refine A.take 21 rfl (by kernel_rfl) (by kernel_rfl) (by kernel_rfl) rfl (Ca.pick) (fun Q0 k0 => L.pick hF rfl rfl rfl rfl (L.nil k0)) ?_
            exact A.on (hO _ _ _ n4194303) (Le.mk [] hm rfl ⟨⟨_, rfl, rfl⟩, ⟨_, rfl, rfl⟩, ⟨_, rfl, rfl⟩, ⟨_, rfl, rfl⟩, ⟨_, rfl, rfl⟩, ⟨_, rfl, rfl⟩, ⟨_, rfl, rfl⟩, ⟨_, rfl, rfl⟩, ⟨_, rfl, rfl⟩, ⟨_, rfl, rfl⟩, ⟨_, rfl, rfl⟩, ⟨_, rfl, rfl⟩, ⟨_, rfl, rfl⟩, ⟨_, rfl, rfl⟩, ⟨_, rfl, rfl⟩, ⟨_, rfl, rfl⟩, ⟨_, rfl, rfl⟩, trivial⟩ trivial trivial)
          have n1048575 : W 2 #[true, true, true, true, true, true, true, true, true, true, true, true, true, true, true, true, true, true, true, true, false, false] (mkSt [(0, one (Cell.sl g0 (List.map eI v112))), (3, one (cI v113)), (16, one (cL true)), (17, Slot.tup []), (18, Slot.tup []), (19, Slot.tup []), (20, Slot.tup []), (21, Slot.tup []), (22, Slot.tup []), (23, Slot.tup []), (24, Slot.tup []), (25, Slot.tup []), (26, Slot.tup []), (27, Slot.tup []), (28, Slot.tup []), (29, Slot.tup [])] [] [] 0) := by
            refine hI _ _ _ ?_
            refine A.off 20 rfl (by kernel_rfl) (by kernel_rfl) (by kernel_rfl) rfl hF rfl rfl ?_
            exact A.on (hO _ _ _ n2097151) (Le.mk [] hm rfl ⟨⟨_, rfl, rfl⟩, ⟨_, rfl, rfl⟩, ⟨_, rfl, rfl⟩, ⟨_, rfl, rfl⟩, ⟨_, rfl, rfl⟩, ⟨_, rfl, rfl⟩, ⟨_, rfl, rfl⟩, ⟨_, rfl, rfl⟩, ⟨_, rfl, rfl⟩, ⟨_, rfl, rfl⟩, ⟨_, rfl, rfl⟩, ⟨_, rfl, rfl⟩, ⟨_, rfl, rfl⟩, ⟨_, rfl, rfl⟩, ⟨_, rfl, rfl⟩, ⟨_, rfl, rfl⟩, ⟨_, rfl, rfl⟩, trivial⟩ trivial trivial)
          have n524287 : W 3 #[true, true, true, true, true, true, true, true, true, true, true, true, true, true, true, true, true, true, true, false, false, false] (mkSt [(0, one (Cell.sl g0 (List.map eI v112))), (3, one (cI v113)), (16, one (cL true)), (17, Slot.tup []), (18, Slot.tup []), (19, Slot.tup []), (20, Slot.tup []), (21, Slot.tup []), (22, Slot.tup []), (23, Slot.tup []), (24, Slot.tup []), (25, Slot.tup []), (26, Slot.tup []), (27, Slot.tup []), (28, Slot.tup [])] [] [] 0) := by
            refine hI _ _ _ ?_
            refine A.off 19 rfl (by kernel_rfl) (by kernel_rfl) (by kernel_rfl) rfl hF rfl rfl ?_
            exact A.on (hO _ _ _ n1048575) (Le.mk [] hm rfl ⟨⟨_, rfl, rfl⟩, ⟨_, rfl, rfl⟩, ⟨_, rfl, rfl⟩, ⟨_, rfl, rfl⟩, ⟨_, rfl, rfl⟩, ⟨_, rfl, rfl⟩, ⟨_, rfl, rfl⟩, ⟨_, rfl, rfl⟩, ⟨_, rfl, rfl⟩, ⟨_, rfl, rfl⟩, ⟨_, rfl, rfl⟩, ⟨_, rfl, rfl⟩, ⟨_, rfl, rfl⟩, ⟨_, rfl, rfl⟩, ⟨_, rfl, rfl⟩, ⟨_, rfl, rfl⟩, trivial⟩ trivial trivial)
          have n262143 : W 4 #[true, true, true, true, true, true, true, true, true, true, true, true, true, true, true, true, true, true, false, false, false, false] (mkSt [(0, one (Cell.sl g0 (List.map eI v112))), (3, one (cI v113)), (16, one (cL true)), (17, Slot.tup []), (18, Slot.tup []), (19, Slot.tup []), (20, Slot.tup []), (21, Slot.tup []), (22, Slot.tup []), (23, Slot.tup []), (24, Slot.tup []), (25, Slot.tup []), (26, Slot.tup []), (27, Slot.tup [])] [] [] 0) := by
            refine hI _ _ _ ?_
            refine A.off 18 rfl (by kernel_rfl) (by kernel_rfl) (by kernel_rfl) rfl hF rfl rfl ?_
            exact A.on (hO _ _ _ n524287) (Le.mk [] hm rfl ⟨⟨_, rfl, rfl⟩, ⟨_, rfl, rfl⟩, ⟨_, rfl, rfl⟩, ⟨_, rfl, rfl⟩, ⟨_, rfl, rfl⟩, ⟨_, rfl, rfl⟩, ⟨_, rfl, rfl⟩, ⟨_, rfl, rfl⟩, ⟨_, rfl, rfl⟩, ⟨_, rfl, rfl⟩, ⟨_, rfl, rfl⟩, ⟨_, rfl, rfl⟩, ⟨_, rfl, rfl⟩, ⟨_, rfl, rfl⟩, ⟨_, rfl, rfl⟩, trivial⟩ trivial trivial)
          have n131071 : W 5 #[true, true, true, true, true, true, true, true, true, true, true, true, true, true, true, true, true, false, false, false, false, false] (mkSt [(0, one (Cell.sl g0 (List.map eI v112))), (3, one (cI v113)), (16, one (cL true)), (17, Slot.tup []), (18, Slot.tup []), (19, Slot.tup []), (20, Slot.tup []), (21, Slot.tup []), (22, Slot.tup []), (23, Slot.tup []), (24, Slot.tup []), (25, Slot.tup []), (26, Slot.tup [])] [] [] 0) := by
            refine hI _ _ _ ?_
            refine A.off 17 rfl (by kernel_rfl) (by kernel_rfl) (by kernel_rfl) rfl hF rfl rfl ?_
            exact A.on (hO _ _ _ n262143) (Le.mk [] hm rfl ⟨⟨_, rfl, rfl⟩, ⟨_, rfl, rfl⟩, ⟨_, rfl, rfl⟩, ⟨_, rfl, rfl⟩, ⟨_, rfl, rfl⟩, ⟨_, rfl, rfl⟩, ⟨_, rfl, rfl⟩, ⟨_, rfl, rfl⟩, ⟨_, rfl, rfl⟩, ⟨_, rfl, rfl⟩, ⟨_, rfl, rfl⟩, ⟨_, rfl, rfl⟩, ⟨_, rfl, rfl⟩, ⟨_, rfl, rfl⟩, trivial⟩ trivial trivial)
          have n65535 : W 6 #[true, true, true, true, true, true, true, true, true, true, true, true, true, true, true, true, false, false, false, false, false, false] (mkSt [(0, one (Cell.sl g0 (List.map eI v112))), (3, one (cI v113)), (16, one (cL true)), (17, Slot.tup []), (18, Slot.tup []), (19, Slot.tup []), (20, Slot.tup []), (21, Slot.tup []), (22, Slot.tup []), (23, Slot.tup []), (24, Slot.tup []), (25, Slot.tup [])] [] [] 0) := by
            refine hI _ _ _ ?_
            refine A.off 16 rfl (by kernel_rfl) (by kernel_rfl) (by kernel_rfl) rfl hF rfl rfl ?_
            exact A.on (hO _ _ _ n131071) (Le.mk [] hm rfl ⟨⟨_, rfl, rfl⟩, ⟨_, rfl, rfl⟩, ⟨_, rfl, rfl⟩, ⟨_, rfl, rfl⟩, ⟨_, rfl, rfl⟩, ⟨_, rfl, rfl⟩, ⟨_, rfl, rfl⟩, ⟨_, rfl, rfl⟩, ⟨_, rfl, rfl⟩, ⟨_, rfl, rfl⟩, ⟨_, rfl, rfl⟩, ⟨_, rfl, rfl⟩, ⟨_, rfl, rfl⟩, trivial⟩ trivial trivial)
          have n32767 : W 7 #[true, true, true, true, true, true, true, true, true, true, true, true, true, true, true, false, false, false, false, false, false, false] (mkSt [(0, one (Cell.sl g0 (List.map eI v112))), (3, one (cI v113)), (16, one (cL true)), (17, Slot.tup []), (18, Slot.tup []), (19, Slot.tup []), (20, Slot.tup []), (21, Slot.tup []), (22, Slot.tup []), (23, Slot.tup []), (24, Slot.tup [])] [] [] 0) := by
            refine hI _ _ _ ?_
            refine A.off 15 rfl (by kernel_rfl) (by kernel_rfl) (by kernel_rfl) rfl hF rfl rfl ?_
            exact A.on (hO _ _ _ n65535) (Le.mk [] hm rfl ⟨⟨_, rfl, rfl⟩, ⟨_, rfl, rfl⟩, ⟨_, rfl, rfl⟩, ⟨_, rfl, rfl⟩, ⟨_, rfl, rfl⟩, ⟨_, rfl, rfl⟩, ⟨_, rfl, rfl⟩, ⟨_, rfl, rfl⟩, ⟨_, rfl, rfl⟩, ⟨_, rfl, rfl⟩, ⟨_, rfl, rfl⟩, ⟨_, rfl, rfl⟩, trivial⟩ trivial trivial)
          have n16383 : W 8 #[true, true, true, true, true, true, true, true, true, true, true, true, true, true, false, false, false, false, false, false, false, false] (mkSt [(0, one (Cell.sl g0 (List.map eI v112))), (3, one (cI v113)), (16, one (cL true)), (17, Slot.tup []), (18, Slot.tup []), (19, Slot.tup []), (20, Slot.tup []), (21, Slot.tup []), (22, Slot.tup []), (23, Slot.tup [])] [] [] 0) := by
            refine hI _ _ _ ?_
            refine A.off 14 rfl (by kernel_rfl) (by kernel_rfl) (by kernel_rfl) rfl hF rfl rfl ?_
            exact A.on (hO _ _ _ n32767) (Le.mk [] hm rfl ⟨⟨_, rfl, rfl⟩, ⟨_, rfl, rfl⟩, ⟨_, rfl, rfl⟩, ⟨_, rfl, rfl⟩, ⟨_, rfl, rfl⟩, ⟨_, rfl, rfl⟩, ⟨_, rfl, rfl⟩, ⟨_, rfl, rfl⟩, ⟨_, rfl, rfl⟩, ⟨_, rfl, rfl⟩, ⟨_, rfl, rfl⟩, trivial⟩ trivial trivial)
          have n8191 : W 9 #[true, true, true, true, true, true, true, true, true, true, true, true, true, false, false, false, false, false, false, false, false, false] (mkSt [(0, one (Cell.sl g0 (List.map eI v112))), (3, one (cI v113)), (16, one (cL true)), (17, Slot.tup []), (18, Slot.tup []), (19, Slot.tup []), (20, Slot.tup []), (21, Slot.tup []), (22, Slot.tup [])] [] [] 0) := by
            refine hI _ _ _ ?_
            refine A.off 13 rfl (by kernel_rfl) (by kernel_rfl) (by kernel_rfl) rfl hF rfl rfl ?_
            exact A.on (hO _ _ _ n16383) (Le.mk [] hm rfl ⟨⟨_, rfl, rfl⟩, ⟨_, rfl, rfl⟩, ⟨_, rfl, rfl⟩, ⟨_, rfl, rfl⟩, ⟨_, rfl, rfl⟩, ⟨_, rfl, rfl⟩, ⟨_, rfl, rfl⟩, ⟨_, rfl, rfl⟩, ⟨_, rfl, rfl⟩, ⟨_, rfl, rfl⟩, trivial⟩ trivial trivial)
          have n4095 : W 10 #[true, true, true, true, true, true, true, true, true, true, true, true, false, false, false, false, false, false, false, false, false, false] (mkSt [(0, one (Cell.sl g0 (List.map eI v112))), (3, one (cI v113)), (16, one (cL true)), (17, Slot.tup []), (18, Slot.tup []), (19, Slot.tup []), (20, Slot.tup []), (21, Slot.tup [])] [] [] 0) := by
            refine hI _ _ _ ?_
            refine A.off 12 rfl (by kernel_rfl) (by kernel_rfl) (by kernel_rfl) rfl hF rfl rfl ?_
            exact A.on (hO _ _ _ n8191) (Le.mk [] hm rfl ⟨⟨_, rfl, rfl⟩, ⟨_, rfl, rfl⟩, ⟨_, rfl, rfl⟩, ⟨_, rfl, rfl⟩, ⟨_, rfl, rfl⟩, ⟨_, rfl, rfl⟩, ⟨_, rfl, rfl⟩, ⟨_, rfl, rfl⟩, ⟨_, rfl, rfl⟩, trivial⟩ trivial trivial)
          have n2047 : W 11 #[true, true, true, true, true, true, true, true, true, true, true, false, false, false, false, false, false, false, false, false, false, false] (mkSt [(0, one (Cell.sl g0 (List.map eI v112))), (3, one (cI v113)), (16, one (cL true)), (17, Slot.tup []), (18, Slot.tup []), (19, Slot.tup []), (20, Slot.tup [])] [] [] 0) := by
            refine hI _ _ _ ?_
            refine A.off 11 rfl (by kernel_rfl) (by kernel_rfl) (by kernel_rfl) rfl hF rfl rfl ?_
            exact A.on (hO _ _ _ n4095) (Le.mk [] hm rfl ⟨⟨_, rfl, rfl⟩, ⟨_, rfl, rfl⟩, ⟨_, rfl, rfl⟩, ⟨_, rfl, rfl⟩, ⟨_, rfl, rfl⟩, ⟨_, rfl, rfl⟩, ⟨_, rfl, rfl⟩, ⟨_, rfl, rfl⟩, trivial⟩ trivial trivial)
          have n1023 : W 12 #[true, true, true, true, true, true, true, true, true, true, false, false, false, false, false, false, false, false, false, false, false, false] (mkSt [(0, one (Cell.sl g0 (List.map eI v112))), (3, one (cI v113)), (16, one (cL true)), (17, Slot.tup []), (18, Slot.tup []), (19, Slot.tup [])] [] [] 0) := by
            refine hI _ _ _ ?_
            refine A.off 10 rfl (by kernel_rfl) (by kernel_rfl) (by kernel_rfl) rfl hF rfl rfl ?_
            exact A.on (hO _ _ _ n2047) (Le.mk [] hm rfl ⟨⟨_, rfl, rfl⟩, ⟨_, rfl, rfl⟩, ⟨_, rfl, rfl⟩, ⟨_, rfl, rfl⟩, ⟨_, rfl, rfl⟩, ⟨_, rfl, rfl⟩, ⟨_, rfl, rfl⟩, trivial⟩ trivial trivial)
          have n511 : W 13 #[true, true, true, true, true, true, true, true, true, false, false, false, false, false, false, false, false, false, false, false, false, false] (mkSt [(0, one (Cell.sl g0 (List.map eI v112))), (3, one (cI v113)), (16, one (cL true)), (17, Slot.tup []), (18, Slot.tup [])] [] [] 0) := by
            refine hI _ _ _ ?_
            refine A.off 9 rfl (by kernel_rfl) (by kernel_rfl) (by kernel_rfl) rfl hF rfl rfl ?_
            exact A.on (hO _ _ _ n1023) (Le.mk [] hm rfl ⟨⟨_, rfl, rfl⟩, ⟨_, rfl, rfl⟩, ⟨_, rfl, rfl⟩, ⟨_, rfl, rfl⟩, ⟨_, rfl, rfl⟩, ⟨_, rfl, rfl⟩, trivial⟩ trivial trivial)
          have n255 : W 14 #[true, true, true, true, true, true, true, true, false, false, false, false, false, false, false, false, false, false, false, false, false, false] (mkSt [(0, one (Cell.sl g0 (List.map eI v112))), (3, one (cI v113)), (16, one (cL true)), (17, Slot.tup [])] [] [] 0) := by
            refine hI _ _ _ ?_
            refine A.off 8 rfl (by kernel_rfl) (by kernel_rfl) (by kernel_rfl) rfl hF rfl rfl ?_
            exact A.on (hO _ _ _ n511) (Le.mk [] hm rfl ⟨⟨_, rfl, rfl⟩, ⟨_, rfl, rfl⟩, ⟨_, rfl, rfl⟩, ⟨_, rfl, rfl⟩, ⟨_, rfl, rfl⟩, trivial⟩ trivial trivial)
          have n127 : W 15 #[true, true, true, true, true, true, true, false, false, false, false, false, false, false, false, false, false, false, false, false, false, false] (mkSt [(0, one (Cell.sl g0 (List.map eI v112))), (3, one (cI v113)), (16, one (cL true))] [] [] 0) := by
            refine hI _ _ _ ?_
            refine A.off 7 rfl (by kernel_rfl) (by kernel_rfl) (by kernel_rfl) rfl hF rfl rfl ?_
            exact A.on (hO _ _ _ n255) (Le.mk [] hm rfl ⟨⟨_, rfl, rfl⟩, ⟨_, rfl, rfl⟩, ⟨_, rfl, rfl⟩, ⟨_, rfl, rfl⟩, trivial⟩ trivial trivial)
          have n63 : W 16 #[true, true, true, true, true, true, false, false, false, false, false, false, false, false, false, false, false, false, false, false, false, false] (mkSt [(0, one (Cell.sl g0 (List.map eI v112))), (3, one (cI v113)), (15, one (cL (!r132)))] [] [] 0) := by
            refine hI _ _ _ ?_
            refine A.take 6 rfl (by kernel_rfl) (by kernel_rfl) (by kernel_rfl) rfl (Ca.move) (fun Q0 k0 => L.move hF rfl rfl rfl (L.nil k0)) ?_
            exact A.on (hO _ _ _ n127) (Le.mk [] hm rfl ⟨⟨_, rfl, rfl⟩, ⟨_, rfl, rfl⟩, ⟨_, rfl, congrArg (fun b => some (one (cL b))) hc133⟩, trivial⟩ trivial trivial)
          have n31 : W 17 #[true, true, true, true, true, false, false, false, false, false, false, false, false, false, false, false, false, false, false, false, false, false] (mkSt [(0, one (Cell.sl g0 (List.map eI v112))), (3, one (cI v113)), (14, one (cL r132))] [] [] 0) := by
            refine hI _ _ _ ?_
            refine A.take 5 rfl (by kernel_rfl) (by kernel_rfl) (by kernel_rfl) rfl (Ca.un rfl rfl) (fun Q0 k0 => L.not hF rfl rfl rfl (L.nil k0)) ?_
            exact A.on (hO _ _ _ n63) (Le.mk [] hm rfl ⟨⟨_, rfl, rfl⟩, ⟨_, rfl, rfl⟩, ⟨_, rfl, rfl⟩, trivial⟩ trivial trivial)
          have n15 : W 18 #[true, true, true, true, false, false, false, false, false, false, false, false, false, false, false, false, false, false, false, false, false, false] (mkSt [(0, one (Cell.sl g0 (List.map eI v112))), (3, one (cI v113)), (13, one (cI b131))] [] [] 0) := by
            refine hI _ _ _ ?_
            refine A.all [4] (by kernel_rfl) rfl ⟨⟨_, rfl, ?_⟩, trivial⟩
            · refine L.call [false, false, false] [] [] 0 hF rfl rfl rfl ent92 rfl rfl rfl rfl rfl (Fspec_l1In_gives k7  b131 (0 : Int) (30 : Int) r132 hr132) rfl ?_
              refine L.nil ?_
              exact A.on (hO _ _ _ n31) (Le.mk [] hm rfl ⟨⟨_, rfl, rfl⟩, ⟨_, rfl, rfl⟩, ⟨_, rfl, rfl⟩, trivial⟩ trivial trivial)
          have n7 : W 19 #[true, true, true, false, false, false, false, false, false, false, false, false, false, false, false, false, false, false, false, false, false, false] (mkSt [(0, one (Cell.sl g0 (List.map eI v112))), (3, one (cI v113)), (12, one (Cell.pe g0 (eI b131) 0))] [] [] 0) := by
            refine hI _ _ _ ?_
            refine A.all [3] (by kernel_rfl) rfl ⟨⟨_, rfl, ?_⟩, trivial⟩
            · refine L.loadPe shape3 hF rfl rfl rfl rfl rfl ?_
              refine L.nil ?_
              exact A.on (hO _ _ _ n15) (Le.mk [] hm rfl ⟨⟨_, rfl, rfl⟩, ⟨_, rfl, rfl⟩, ⟨_, rfl, rfl⟩, trivial⟩ trivial trivial)
          have n3 : W 20 #[true, true, false, false, false, false, false, false, false, false, false, false, false, false, false, false, false, false, false, false, false, false] (mkSt [(0, one (Cell.sl g0 (List.map eI v112))), (3, one (cI v113)), (10, one (Cell.sl g0 (List.map eI v112))), (11, one (cI v113))] [] [] 0) := by
            refine hI _ _ _ ?_
            refine A.take 2 rfl (by kernel_rfl) (by kernel_rfl) (by kernel_rfl) rfl (Ca.indexAddr) (fun Q0 k0 => L.idxR (xs := v112) (e := eI) Try.underlying77 info3 hF rfl rfl rfl rfl rfl hb131 rfl rfl (L.nil k0)) ?_
            exact A.on (hO _ _ _ n7) (Le.mk [] hm rfl ⟨⟨_, rfl, rfl⟩, ⟨_, rfl, rfl⟩, ⟨_, rfl, rfl⟩, trivial⟩ trivial trivial)
          have n1 : W 21 #[true, false, false, false, false, false, false, false, false, false, false, false, false, false, false, false, false, false, false, false, false, false] (mkSt [(0, one (Cell.sl g0 (List.map eI v112))), (3, one (cI v113)), (10, one (Cell.sl g0 (List.map eI v112)))] [] [] 0) := by
            refine hI _ _ _ ?_
            refine A.take 1 rfl (by kernel_rfl) (by kernel_rfl) (by kernel_rfl) rfl (Ca.move) (fun Q0 k0 => L.move hF rfl rfl rfl (L.nil k0)) ?_
            exact A.on (hO _ _ _ n3) (Le.mk [] hm rfl ⟨⟨_, rfl, rfl⟩, ⟨_, rfl, rfl⟩, ⟨_, rfl, rfl⟩, ⟨_, rfl, rfl⟩, trivial⟩ trivial trivial)
          have n0 : W 22 #[false, false, false, false, false, false, false, false, false, false, false, false, false, false, false, false, false, false, false, false, false, false] (mkSt [(0, one (Cell.sl g0 (List.map eI v112))), (3, one (cI v113))] [] [] 0) := by
            refine hI _ _ _ ?_
            refine A.take 0 rfl (by kernel_rfl) (by kernel_rfl) (by kernel_rfl) rfl (Ca.move) (fun Q0 k0 => L.move hF rfl rfl rfl (L.nil k0)) ?_
            exact A.on (hO _ _ _ n1) (Le.mk [] hm rfl ⟨⟨_, rfl, rfl⟩, ⟨_, rfl, rfl⟩, ⟨_, rfl, rfl⟩, trivial⟩ trivial trivial)
          exact hI _ _ _ (A.on (hO _ _ _ n0) (Le.mk [] hm rfl ⟨⟨_, rfl, rfl⟩, ⟨_, rfl, rfl⟩, trivial⟩ trivial trivial))
        · replace H := condF hc133 H
          rcases Bool.eq_false_or_eq_true ((decide (v113 > (0 : Int)))) with hc134 | hc134
          · replace H := condT hc134 H
            obtain ⟨b135, hb135, H⟩ := bindS H
            obtain ⟨b136, hb136, H⟩ := bindS H
            refine A.begin mixed rfl rfl ?_
            intro W hI hO
            have n4194303 : W 0 #[true, true, true, true, true, true, true, true, true, true, true, true, true, true, true, true, true, true, true, true, true, true] (mkSt [(0, one (Cell.sl g0 (List.map eI v112))), (3, one (cI v113)), (17, one (cI v113)), (18, one (cL (decide (v113 > (0 : Int))))), (19, one (cL true)), (20, one (Cell.sl g0 (List.map eI v112))), (21, one (cI v113)), (22, one (cI (IntKind.i64.wrap (v113 - (1 : Int))))), (23, one (Cell.pe g0 (eI b135) 0)), (24, one (cI b135)), (25, one (Cell.sl g0 (List.map eI v112))), (26, one (cI v113)), (27, one (Cell.pe g0 (eI b136) 0)), (28, one (cI b136)), (29, one (cL (decide (b135 ≥ b136)))), (30, one (cL (decide (b135 ≥ b136)))), (31, one (cL (decide (b135 ≥ b136))))] [] [] 0) := by
              refine hI _ _ _ (A.done (by kernel_rfl) ?_)
              refine WpC.cond rfl (fun hc => ?_) (fun hc => ?_)
              · replace H := condT hc H
                refine WpC.seq ?_
                refine WpC.regionL ?_
                refine L.assign hF rfl rfl rfl ?_
                refine L.nil ?_
                refine WpC.ret ?_
                cases H
                exact Leaves.ret rfl rfl rfl ⟨rfl, rfl⟩
              · replace H := condF hc H
                refine WpC.skip ?_
                exact ⟨_, ⟨k7, v112, v113, (decide (v113 > (0 : Int))), true, (decide (b135 ≥ b136)), by omega, H, rfl⟩, Le.mk [] hm rfl ⟨⟨_, rfl, rfl⟩, ⟨_, rfl, rfl⟩, ⟨_, rfl, rfl⟩, ⟨_, rfl, rfl⟩, ⟨_, rfl, rfl⟩, ⟨_, rfl, rfl⟩, trivial⟩ trivial trivial⟩
            have n2097151 : W 1 #[true, true, true, true, true, true, true, true, true, true, true, true, true, true, true, true, true, true, true, true, true, false] (mkSt [(0, one (Cell.sl g0 (List.map eI v112))), (3, one (cI v113)), (16, one (cL false)), (17, one (cI v113)), (18, one (cL (decide (v113 > (0 : Int))))), (19, one (cL true)), (20, one (Cell.sl g0 (List.map eI v112))), (21, one (cI v113)), (22, one (cI (IntKind.i64.wrap (v113 - (1 : Int))))), (23, one (Cell.pe g0 (eI b135) 0)), (24, one (cI b135)), (25, one (Cell.sl g0 (List.map eI v112))), (26, one (cI v113)), (27, one (Cell.pe g0 (eI b136) 0)), (28, one (cI b136)), (29, one (cL (decide (b135 ≥ b136)))), (30, one (cL (decide (b135 ≥ b136))))] [] [] 0) := by
              refine hI _ _ _ ?_
              refine A.take 21 rfl (by kernel_rfl) (by kernel_rfl) (by kernel_rfl) rfl (Ca.pick) (fun Q0 k0 => L.pick hF rfl rfl rfl rfl (L.nil k0)) ?_
              exact A.on (hO _ _ _ n4194303) (Le.mk [] hm rfl ⟨⟨_, rfl, rfl⟩, ⟨_, rfl, rfl⟩, ⟨_, rfl, rfl⟩, ⟨_, rfl, rfl⟩, ⟨_, rfl, rfl⟩, ⟨_, rfl, rfl⟩, ⟨_, rfl, rfl⟩, ⟨_, rfl, rfl⟩, ⟨_, rfl, rfl⟩, ⟨_, rfl, rfl⟩, ⟨_, rfl, rfl⟩, ⟨_, rfl, rfl⟩, ⟨_, rfl, rfl⟩, ⟨_, rfl, rfl⟩, ⟨_, rfl, rfl⟩, ⟨_, rfl, rfl⟩, ⟨_, rfl, rfl⟩, trivial⟩ trivial trivial)
            have n1048575 : W 2 #[true, true, true, true, true, true, true, true, true, true, true, true, true, true, true, true, true, true, true, true, false, false] (mkSt [(0, one (Cell.sl g0 (List.map eI v112))), (3, one (cI v113)), (16, one (cL false)), (17, one (cI v113)), (18, one (cL (decide (v113 > (0 : Int))))), (19, one (cL true)), (20, one (Cell.sl g0 (List.map eI v112))), (21, one (cI v113)), (22, one (cI (IntKind.i64.wrap (v113 - (1 : Int))))), (23, one (Cell.pe g0 (eI b135) 0)), (24, one (cI b135)), (25, one (Cell.sl g0 (List.map eI v112))), (26, one (cI v113)), (27, one (Cell.pe g0 (eI b136) 0)), (28, one (cI b136)), (29, one (cL (decide (b135 ≥ b136))))] [] [] 0) := by
              refine hI _ _ _ ?_
              refine A.take 20 rfl (by kernel_rfl) (by kernel_rfl) (by kernel_rfl) rfl (Ca.pick) (fun Q0 k0 => L.pick hF rfl rfl rfl rfl (L.nil k0)) ?_
              exact A.on (hO _ _ _ n2097151) (Le.mk [] hm rfl ⟨⟨_, rfl, rfl⟩, ⟨_, rfl, rfl⟩, ⟨_, rfl, rfl⟩, ⟨_, rfl, rfl⟩, ⟨_, rfl, rfl⟩, ⟨_, rfl, rfl⟩, ⟨_, rfl, rfl⟩, ⟨_, rfl, rfl⟩, ⟨_, rfl, rfl⟩, ⟨_, rfl, rfl⟩, ⟨_, rfl, rfl⟩, ⟨_, rfl, rfl⟩, ⟨_, rfl, rfl⟩, ⟨_, rfl, rfl⟩, ⟨_, rfl, rfl⟩, ⟨_, rfl, rfl⟩, ⟨_, rfl, rfl⟩, trivial⟩ trivial trivial)
            have n524287 : W 3 #[true, true, true, true, true, true, true, true, true, true, true, true, true, true, true, true, true, true, true, false, false, false] (mkSt [(0, one (Cell.sl g0 (List.map eI v112))), (3, one (cI v113)), (16, one (cL false)), (17, one (cI v113)), (18, one (cL (decide (v113 > (0 : Int))))), (19, one (cL true)), (20, one (Cell.sl g0 (List.map eI v112))), (21, one (cI v113)), (22, one (cI (IntKind.i64.wrap (v113 - (1 : Int))))), (23, one (Cell.pe g0 (eI b135) 0)), (24, one (cI b135)), (25, one (Cell.sl g0 (List.map eI v112))), (26, one (cI v113)), (27, one (Cell.pe g0 (eI b136) 0)), (28, one (cI b136))] [] [] 0) := by
              refine hI _ _ _ ?_
              refine A.take 19 rfl (by kernel_rfl) (by kernel_rfl) (by kernel_rfl) rfl (Ca.bin rfl rfl (calm_int _ _ _ _ _ _ _ _)) (fun Q0 k0 => L.bin hF rfl rfl rfl rfl rfl rfl (L.nil k0)) ?_
              exact A.on (hO _ _ _ n1048575) (Le.mk [] hm rfl ⟨⟨_, rfl, rfl⟩, ⟨_, rfl, rfl⟩, ⟨_, rfl, rfl⟩, ⟨_, rfl, rfl⟩, ⟨_, rfl, rfl⟩, ⟨_, rfl, rfl⟩, ⟨_, rfl, rfl⟩, ⟨_, rfl, rfl⟩, ⟨_, rfl, rfl⟩, ⟨_, rfl, rfl⟩, ⟨_, rfl, rfl⟩, ⟨_, rfl, rfl⟩, ⟨_, rfl, rfl⟩, ⟨_, rfl, rfl⟩, ⟨_, rfl, rfl⟩, ⟨_, rfl, rfl⟩, trivial⟩ trivial trivial)
            have n507903 : W 4 #[true, true, true, true, true, true, true, true, true, true, true, true, true, true, false, true, true, true, true, false, false, false] (mkSt [(0, one (Cell.sl g0 (List.map eI v112))), (3, one (cI v113)), (16, one (cL false)), (17, one (cI v113)), (18, one (cL (decide (v113 > (0 : Int))))), (19, one (cL true)), (20, one (Cell.sl g0 (List.map eI v112))), (21, one (cI v113)), (22, one (cI (IntKind.i64.wrap (v113 - (1 : Int))))), (23, one (Cell.pe g0 (eI b135) 0)), (25, one (Cell.sl g0 (List.map eI v112))), (26, one (cI v113)), (27, one (Cell.pe g0 (eI b136) 0)), (28, one (cI b136))] [] [] 0) := by
              refine hI _ _ _ ?_
              refine A.all [14] (by kernel_rfl) rfl ⟨⟨_, rfl, ?_⟩, trivial⟩
              · refine L.loadPe shape3 hF rfl rfl rfl rfl rfl ?_
                refine L.nil ?_
                exact A.on (hO _ _ _ n524287) (Le.mk [] hm rfl ⟨⟨_, rfl, rfl⟩, ⟨_, rfl, rfl⟩, ⟨_, rfl, rfl⟩, ⟨_, rfl, rfl⟩, ⟨_, rfl, rfl⟩, ⟨_, rfl, rfl⟩, ⟨_, rfl, rfl⟩, ⟨_, rfl, rfl⟩, ⟨_, rfl, rfl⟩, ⟨_, rfl, rfl⟩, ⟨_, rfl, rfl⟩, ⟨_, rfl, rfl⟩, ⟨_, rfl, rfl⟩, ⟨_, rfl, rfl⟩, ⟨_, rfl, rfl⟩, trivial⟩ trivial trivial)
            have n262143 : W 4 #[true, true, true, true, true, true, true, true, true, true, true, true, true, true, true, true, true, true, false, false, false, false] (mkSt [(0, one (Cell.sl g0 (List.map eI v112))), (3, one (cI v113)), (16, one (cL false)), (17, one (cI v113)), (18, one (cL (decide (v113 > (0 : Int))))), (19, one (cL true)), (20, one (Cell.sl g0 (List.map eI v112))), (21, one (cI v113)), (22, one (cI (IntKind.i64.wrap (v113 - (1 : Int))))), (23, one (Cell.pe g0 (eI b135) 0)), (24, one (cI b135)), (25, one (Cell.sl g0 (List.map eI v112))), (26, one (cI v113)), (27, one (Cell.pe g0 (eI b136) 0))] [] [] 0) := by
              refine hI _ _ _ ?_
              refine A.all [18] (by kernel_rfl) rfl ⟨⟨_, rfl, ?_⟩, trivial⟩
              · refine L.loadPe shape3 hF rfl rfl rfl rfl rfl ?_
                refine L.nil ?_
                exact A.on (hO _ _ _ n524287) (Le.mk [] hm rfl ⟨⟨_, rfl, rfl⟩, ⟨_, rfl, rfl⟩, ⟨_, rfl, rfl⟩, ⟨_, rfl, rfl⟩, ⟨_, rfl, rfl⟩, ⟨_, rfl, rfl⟩, ⟨_, rfl, rfl⟩, ⟨_, rfl, rfl⟩, ⟨_, rfl, rfl⟩, ⟨_, rfl, rfl⟩, ⟨_, rfl, rfl⟩, ⟨_, rfl, rfl⟩, ⟨_, rfl, rfl⟩, ⟨_, rfl, rfl⟩, ⟨_, rfl, rfl⟩, trivial⟩ trivial trivial)
            have n245759 : W 5 #[true, true, true, true, true, true, true, true, true, true, true, true, true, true, false, true, true, true, false, false, false, false] (mkSt [(0, one (Cell.sl g0 (List.map eI v112))), (3, one (cI v113)), (16, one (cL false)), (17, one (cI v113)), (18, one (cL (decide (v113 > (0 : Int))))), (19, one (cL true)), (20, one (Cell.sl g0 (List.map eI v112))), (21, one (cI v113)), (22, one (cI (IntKind.i64.wrap (v113 - (1 : Int))))), (23, one (Cell.pe g0 (eI b135) 0)), (25, one (Cell.sl g0 (List.map eI v112))), (26, one (cI v113)), (27, one (Cell.pe g0 (eI b136) 0))] [] [] 0) := by
              refine hI _ _ _ ?_
              refine A.all [14, 18] (by kernel_rfl) rfl ⟨⟨_, rfl, ?_⟩, ⟨_, rfl, ?_⟩, trivial⟩
              · refine L.loadPe shape3 hF rfl rfl rfl rfl rfl ?_
                refine L.nil ?_
                exact A.on (hO _ _ _ n262143) (Le.mk [] hm rfl ⟨⟨_, rfl, rfl⟩, ⟨_, rfl, rfl⟩, ⟨_, rfl, rfl⟩, ⟨_, rfl, rfl⟩, ⟨_, rfl, rfl⟩, ⟨_, rfl, rfl⟩, ⟨_, rfl, rfl⟩, ⟨_, rfl, rfl⟩, ⟨_, rfl, rfl⟩, ⟨_, rfl, rfl⟩, ⟨_, rfl, rfl⟩, ⟨_, rfl, rfl⟩, ⟨_, rfl, rfl⟩, ⟨_, rfl, rfl⟩, trivial⟩ trivial trivial)
              · refine L.loadPe shape3 hF rfl rfl rfl rfl rfl ?_
                refine L.nil ?_
                exact A.on (hO _ _ _ n507903) (Le.mk [] hm rfl ⟨⟨_, rfl, rfl⟩, ⟨_, rfl, rfl⟩, ⟨_, rfl, rfl⟩, ⟨_, rfl, rfl⟩, ⟨_, rfl, rfl⟩, ⟨_, rfl, rfl⟩, ⟨_, rfl, rfl⟩, ⟨_, rfl, rfl⟩, ⟨_, rfl, rfl⟩, ⟨_, rfl, rfl⟩, ⟨_, rfl, rfl⟩, ⟨_, rfl, rfl⟩, ⟨_, rfl, rfl⟩, ⟨_, rfl, rfl⟩, trivial⟩ trivial trivial)
            have n114687 : W 6 #[true, true, true, true, true, true, true, true, true, true, true, true, true, true, false, true, true, false, false, false, false, false] (mkSt [(0, one (Cell.sl g0 (List.map eI v112))), (3, one (cI v113)), (16, one (cL false)), (17, one (cI v113)), (18, one (cL (decide (v113 > (0 : Int))))), (19, one (cL true)), (20, one (Cell.sl g0 (List.map eI v112))), (21, one (cI v113)), (22, one (cI (IntKind.i64.wrap (v113 - (1 : Int))))), (23, one (Cell.pe g0 (eI b135) 0)), (25, one (Cell.sl g0 (List.map eI v112))), (26, one (cI v113))] [] [] 0) := by
              refine hI _ _ _ ?_
              refine A.take 17 rfl (by kernel_rfl) (by kernel_rfl) (by kernel_rfl) rfl (Ca.indexAddr) (fun Q0 k0 => L.idxR (xs := v112) (e := eI) Try.underlying77 info3 hF rfl rfl rfl rfl rfl hb136 rfl rfl (L.nil k0)) ?_
              exact A.on (hO _ _ _ n245759) (Le.mk [] hm rfl ⟨⟨_, rfl, rfl⟩, ⟨_, rfl, rfl⟩, ⟨_, rfl, rfl⟩, ⟨_, rfl, rfl⟩, ⟨_, rfl, rfl⟩, ⟨_, rfl, rfl⟩, ⟨_, rfl, rfl⟩, ⟨_, rfl, rfl⟩, ⟨_, rfl, rfl⟩, ⟨_, rfl, rfl⟩, ⟨_, rfl, rfl⟩, ⟨_, rfl, rfl⟩, ⟨_, rfl, rfl⟩, trivial⟩ trivial trivial)
            have n49151 : W 7 #[true, true, true, true, true, true, true, true, true, true, true, true, true, true, false, true, false, false, false, false, false, false] (mkSt [(0, one (Cell.sl g0 (List.map eI v112))), (3, one (cI v113)), (16, one (cL false)), (17, one (cI v113)), (18, one (cL (decide (v113 > (0 : Int))))), (19, one (cL true)), (20, one (Cell.sl g0 (List.map eI v112))), (21, one (cI v113)), (22, one (cI (IntKind.i64.wrap (v113 - (1 : Int))))), (23, one (Cell.pe g0 (eI b135) 0)), (25, one (Cell.sl g0 (List.map eI v112)))] [] [] 0) := by
              refine hI _ _ _ ?_
              refine A.take 16 rfl (by kernel_rfl) (by kernel_rfl) (by kernel_rfl) rfl (Ca.move) (fun Q0 k0 => L.move hF rfl rfl rfl (L.nil k0)) ?_
              exact A.on (hO _ _ _ n114687) (Le.mk [] hm rfl ⟨⟨_, rfl, rfl⟩, ⟨_, rfl, rfl⟩, ⟨_, rfl, rfl⟩, ⟨_, rfl, rfl⟩, ⟨_, rfl, rfl⟩, ⟨_, rfl, rfl⟩, ⟨_, rfl, rfl⟩, ⟨_, rfl, rfl⟩, ⟨_, rfl, rfl⟩, ⟨_, rfl, rfl⟩, ⟨_, rfl, rfl⟩, ⟨_, rfl, rfl⟩, trivial⟩ trivial trivial)
            have n16383 : W 8 #[true, true, true, true, true, true, true, true, true, true, true, true, true, true, false, false, false, false, false, false, false, false] (mkSt [(0, one (Cell.sl g0 (List.map eI v112))), (3, one (cI v113)), (16, one (cL false)), (17, one (cI v113)), (18, one (cL (decide (v113 > (0 : Int))))), (19, one (cL true)), (20, one (Cell.sl g0 (List.map eI v112))), (21, one (cI v113)), (22, one (cI (IntKind.i64.wrap (v113 - (1 : Int))))), (23, one (Cell.pe g0 (eI b135) 0))] [] [] 0) := by
              refine hI _ _ _ ?_
              refine A.take 15 rfl (by kernel_rfl) (by kernel_rfl) (by kernel_rfl) rfl (Ca.move) (fun Q0 k0 => L.move hF rfl rfl rfl (L.nil k0)) ?_
              exact A.on (hO _ _ _ n49151) (Le.mk [] hm rfl ⟨⟨_, rfl, rfl⟩, ⟨_, rfl, rfl⟩, ⟨_, rfl, rfl⟩, ⟨_, rfl, rfl⟩, ⟨_, rfl, rfl⟩, ⟨_, rfl, rfl⟩, ⟨_, rfl, rfl⟩, ⟨_, rfl, rfl⟩, ⟨_, rfl, rfl⟩, ⟨_, rfl, rfl⟩, ⟨_, rfl, rfl⟩, trivial⟩ trivial trivial)
            have n8191 : W 9 #[true, true, true, true, true, true, true, true, true, true, true, true, true, false, false, false, false, false, false, false, false, false] (mkSt [(0, one (Cell.sl g0 (List.map eI v112))), (3, one (cI v113)), (16, one (cL false)), (17, one (cI v113)), (18, one (cL (decide (v113 > (0 : Int))))), (19, one (cL true)), (20, one (Cell.sl g0 (List.map eI v112))), (21, one (cI v113)), (22, one (cI (IntKind.i64.wrap (v113 - (1 : Int)))))] [] [] 0) := by
              refine hI _ _ _ ?_
              refine A.take 13 rfl (by kernel_rfl) (by kernel_rfl) (by kernel_rfl) rfl (Ca.indexAddr) (fun Q0 k0 => L.idxR (xs := v112) (e := eI) Try.underlying77 info3 hF rfl rfl rfl rfl rfl hb135 rfl rfl (L.nil k0)) ?_
              exact A.on (hO _ _ _ n16383) (Le.mk [] hm rfl ⟨⟨_, rfl, rfl⟩, ⟨_, rfl, rfl⟩, ⟨_, rfl, rfl⟩, ⟨_, rfl, rfl⟩, ⟨_, rfl, rfl⟩, ⟨_, rfl, rfl⟩, ⟨_, rfl, rfl⟩, ⟨_, rfl, rfl⟩, ⟨_, rfl, rfl⟩, ⟨_, rfl, rfl⟩, trivial⟩ trivial trivial)
            have n4095 : W 10 #[true, true, true, true, true, true, true, true, true, true, true, true, false, false, false, false, false, false, false, false, false, false] (mkSt [(0, one (Cell.sl g0 (List.map eI v112))), (3, one (cI v113)), (16, one (cL false)), (17, one (cI v113)), (18, one (cL (decide (v113 > (0 : Int))))), (19, one (cL true)), (20, one (Cell.sl g0 (List.map eI v112))), (21, one (cI v113))] [] [] 0) := by
              refine hI _ _ _ ?_
              refine A.take 12 rfl (by kernel_rfl) (by kernel_rfl) (by kernel_rfl) rfl (Ca.bin rfl rfl (calm_int _ _ _ _ _ _ _ _)) (fun Q0 k0 => L.bin hF rfl rfl rfl rfl rfl rfl (L.nil k0)) ?_
              exact A.on (hO _ _ _ n8191) (Le.mk [] hm rfl ⟨⟨_, rfl, rfl⟩, ⟨_, rfl, rfl⟩, ⟨_, rfl, rfl⟩, ⟨_, rfl, rfl⟩, ⟨_, rfl, rfl⟩, ⟨_, rfl, rfl⟩, ⟨_, rfl, rfl⟩, ⟨_, rfl, rfl⟩, ⟨_, rfl, rfl⟩, trivial⟩ trivial trivial)
            have n2047 : W 11 #[true, true, true, true, true, true, true, true, true, true, true, false, false, false, false, false, false, false, false, false, false, false] (mkSt [(0, one (Cell.sl g0 (List.map eI v112))), (3, one (cI v113)), (16, one (cL false)), (17, one (cI v113)), (18, one (cL (decide (v113 > (0 : Int))))), (19, one (cL true)), (20, one (Cell.sl g0 (List.map eI v112)))] [] [] 0) := by
              refine hI _ _ _ ?_
              refine A.take 11 rfl (by kernel_rfl) (by kernel_rfl) (by kernel_rfl) rfl (Ca.move) (fun Q0 k0 => L.move hF rfl rfl rfl (L.nil k0)) ?_
              exact A.on (hO _ _ _ n4095) (Le.mk [] hm rfl ⟨⟨_, rfl, rfl⟩, ⟨_, rfl, rfl⟩, ⟨_, rfl, rfl⟩, ⟨_, rfl, rfl⟩, ⟨_, rfl, rfl⟩, ⟨_, rfl, rfl⟩, ⟨_, rfl, rfl⟩, ⟨_, rfl, rfl⟩, trivial⟩ trivial trivial)
            have n1023 : W 12 #[true, true, true, true, true, true, true, true, true, true, false, false, false, false, false, false, false, false, false, false, false, false] (mkSt [(0, one (Cell.sl g0 (List.map eI v112))), (3, one (cI v113)), (16, one (cL false)), (17, one (cI v113)), (18, one (cL (decide (v113 > (0 : Int))))), (19, one (cL true))] [] [] 0) := by
              refine hI _ _ _ ?_
              refine A.take 10 rfl (by kernel_rfl) (by kernel_rfl) (by kernel_rfl) rfl (Ca.move) (fun Q0 k0 => L.move hF rfl rfl rfl (L.nil k0)) ?_
              exact A.on (hO _ _ _ n2047) (Le.mk [] hm rfl ⟨⟨_, rfl, rfl⟩, ⟨_, rfl, rfl⟩, ⟨_, rfl, rfl⟩, ⟨_, rfl, rfl⟩, ⟨_, rfl, rfl⟩, ⟨_, rfl, rfl⟩, ⟨_, rfl, rfl⟩, trivial⟩ trivial trivial)
            have n511 : W 13 #[true, true, true, true, true, true, true, true, true, false, false, false, false, false, false, false, false, false, false, false, false, false] (mkSt [(0, one (Cell.sl g0 (List.map eI v112))), (3, one (cI v113)), (16, one (cL false)), (17, one (cI v113)), (18, one (cL (decide (v113 > (0 : Int)))))] [] [] 0) := by
              refine hI _ _ _ ?_
              refine A.take 9 rfl (by kernel_rfl) (by kernel_rfl) (by kernel_rfl) rfl (Ca.move) (fun Q0 k0 => L.move hF rfl rfl rfl (L.nil k0)) ?_
              exact A.on (hO _ _ _ n1023) (Le.mk [] hm rfl ⟨⟨_, rfl, rfl⟩, ⟨_, rfl, rfl⟩, ⟨_, rfl, rfl⟩, ⟨_, rfl, rfl⟩, ⟨_, rfl, rfl⟩, ⟨_, rfl, congrArg (fun b => some (one (cL b))) hc134⟩, trivial⟩ trivial trivial)
            have n255 : W 14 #[true, true, true, true, true, true, true, true, false, false, false, false, false, false, false, false, false, false, false, false, false, false] (mkSt [(0, one (Cell.sl g0 (List.map eI v112))), (3, one (cI v113)), (16, one (cL false)), (17, one (cI v113))] [] [] 0) := by
              refine hI _ _ _ ?_
              refine A.take 8 rfl (by kernel_rfl) (by kernel_rfl) (by kernel_rfl) rfl (Ca.bin rfl rfl (calm_int _ _ _ _ _ _ _ _)) (fun Q0 k0 => L.bin hF rfl rfl rfl rfl rfl rfl (L.nil k0)) ?_
              exact A.on (hO _ _ _ n511) (Le.mk [] hm rfl ⟨⟨_, rfl, rfl⟩, ⟨_, rfl, rfl⟩, ⟨_, rfl, rfl⟩, ⟨_, rfl, rfl⟩, ⟨_, rfl, rfl⟩, trivial⟩ trivial trivial)
            have n127 : W 15 #[true, true, true, true, true, true, true, false, false, false, false, false, false, false, false, false, false, false, false, false, false, false] (mkSt [(0, one (Cell.sl g0 (List.map eI v112))), (3, one (cI v113)), (16, one (cL false))] [] [] 0) := by
              refine hI _ _ _ ?_
              refine A.take 7 rfl (by kernel_rfl) (by kernel_rfl) (by kernel_rfl) rfl (Ca.move) (fun Q0 k0 => L.move hF rfl rfl rfl (L.nil k0)) ?_
              exact A.on (hO _ _ _ n255) (Le.mk [] hm rfl ⟨⟨_, rfl, rfl⟩, ⟨_, rfl, rfl⟩, ⟨_, rfl, rfl⟩, ⟨_, rfl, rfl⟩, trivial⟩ trivial trivial)
            have n63 : W 16 #[true, true, true, true, true, true, false, false, false, false, false, false, false, false, false, false, false, false, false, false, false, false] (mkSt [(0, one (Cell.sl g0 (List.map eI v112))), (3, one (cI v113)), (15, one (cL (!r132)))] [] [] 0) := by
              refine hI _ _ _ ?_
              refine A.take 6 rfl (by kernel_rfl) (by kernel_rfl) (by kernel_rfl) rfl (Ca.move) (fun Q0 k0 => L.move hF rfl rfl rfl (L.nil k0)) ?_
              exact A.on (hO _ _ _ n127) (Le.mk [] hm rfl ⟨⟨_, rfl, rfl⟩, ⟨_, rfl, rfl⟩, ⟨_, rfl, congrArg (fun b => some (one (cL b))) hc133⟩, trivial⟩ trivial trivial)
            have n31 : W 17 #[true, true, true, true, true, false, false, false, false, false, false, false, false, false, false, false, false, false, false, false, false, false] (mkSt [(0, one (Cell.sl g0 (List.map eI v112))), (3, one (cI v113)), (14, one (cL r132))] [] [] 0) := by
              refine hI _ _ _ ?_
              refine A.take 5 rfl (by kernel_rfl) (by kernel_rfl) (by kernel_rfl) rfl (Ca.un rfl rfl) (fun Q0 k0 => L.not hF rfl rfl rfl (L.nil k0)) ?_
              exact A.on (hO _ _ _ n63) (Le.mk [] hm rfl ⟨⟨_, rfl, rfl⟩, ⟨_, rfl, rfl⟩, ⟨_, rfl, rfl⟩, trivial⟩ trivial trivial)
            have n15 : W 18 #[true, true, true, true, false, false, false, false, false, false, false, false, false, false, false, false, false, false, false, false, false, false] (mkSt [(0, one (Cell.sl g0 (List.map eI v112))), (3, one (cI v113)), (13, one (cI b131))] [] [] 0) := by
              refine hI _ _ _ ?_
              refine A.all [4] (by kernel_rfl) rfl ⟨⟨_, rfl, ?_⟩, trivial⟩
              · refine L.call [false, false, false] [] [] 0 hF rfl rfl rfl ent92 rfl rfl rfl rfl rfl (Fspec_l1In_gives k7  b131 (0 : Int) (30 : Int) r132 hr132) rfl ?_
                refine L.nil ?_
                exact A.on (hO _ _ _ n31) (Le.mk [] hm rfl ⟨⟨_, rfl, rfl⟩, ⟨_, rfl, rfl⟩, ⟨_, rfl, rfl⟩, trivial⟩ trivial trivial)
            have n7 : W 19 #[true, true, true, false, false, false, false, false, false, false, false, false, false, false, false, false, false, false, false, false, false, false] (mkSt [(0, one (Cell.sl g0 (List.map eI v112))), (3, one (cI v113)), (12, one (Cell.pe g0 (eI b131) 0))] [] [] 0) := by
              refine hI _ _ _ ?_
              refine A.all [3] (by kernel_rfl) rfl ⟨⟨_, rfl, ?_⟩, trivial⟩
              · refine L.loadPe shape3 hF rfl rfl rfl rfl rfl ?_
                refine L.nil ?_
                exact A.on (hO _ _ _ n15) (Le.mk [] hm rfl ⟨⟨_, rfl, rfl⟩, ⟨_, rfl, rfl⟩, ⟨_, rfl, rfl⟩, trivial⟩ trivial trivial)
            have n3 : W 20 #[true, true, false, false, false, false, false, false, false, false, false, false, false, false, false, false, false, false, false, false, false, false] (mkSt [(0, one (Cell.sl g0 (List.map eI v112))), (3, one (cI v113)), (10, one (Cell.sl g0 (List.map eI v112))), (11, one (cI v113))] [] [] 0) := by
              refine hI _ _ _ ?_
              refine A.take 2 rfl (by kernel_rfl) (by kernel_rfl) (by kernel_rfl) rfl (Ca.indexAddr) (fun Q0 k0 => L.idxR (xs := v112) (e := eI) Try.underlying77 info3 hF rfl rfl rfl rfl rfl hb131 rfl rfl (L.nil k0)) ?_
              exact A.on (hO _ _ _ n7) (Le.mk [] hm rfl ⟨⟨_, rfl, rfl⟩, ⟨_, rfl, rfl⟩, ⟨_, rfl, rfl⟩, trivial⟩ trivial trivial)
            have n1 : W 21 #[true, false, false, false, false, false, false, false, false, false, false, false, false, false, false, false, false, false, false, false, false, false] (mkSt [(0, one (Cell.sl g0 (List.map eI v112))), (3, one (cI v113)), (10, one (Cell.sl g0 (List.map eI v112)))] [] [] 0) := by
              refine hI _ _ _ ?_
              refine A.take 1 rfl (by kernel_rfl) (by kernel_rfl) (by kernel_rfl) rfl (Ca.move) (fun Q0 k0 => L.move hF rfl rfl rfl (L.nil k0)) ?_
              exact A.on (hO _ _ _ n3) (Le.mk [] hm rfl ⟨⟨_, rfl, rfl⟩, ⟨_, rfl, rfl⟩, ⟨_, rfl, rfl⟩, ⟨_, rfl, rfl⟩, trivial⟩ trivial trivial)
            have n0 : W 22 #[false, false, false, false, false, false, false, false, false, false, false, false, false, false, false, false, false, false, false, false, false, false] (mkSt [(0, one (Cell.sl g0 (List.map eI v112))), (3, one (cI v113))] [] [] 0) := by
              refine hI _ _ _ ?_
              refine A.take 0 rfl (by kernel_rfl) (by kernel_rfl) (by kernel_rfl) rfl (Ca.move) (fun Q0 k0 => L.move hF rfl rfl rfl (L.nil k0)) ?_
              exact A.on (hO _ _ _ n1) (Le.mk [] hm rfl ⟨⟨_, rfl, rfl⟩, ⟨_, rfl, rfl⟩, ⟨_, rfl, rfl⟩, trivial⟩ trivial trivial)
            exact hI _ _ _ (A.on (hO _ _ _ n0) (Le.mk [] hm rfl ⟨⟨_, rfl, rfl⟩, ⟨_, rfl, rfl⟩, trivial⟩ trivial trivial))
          · replace H := condF hc134 H
            refine A.begin mixed rfl rfl ?_
            intro W hI hO
            have n4194303 : W 0 #[true, true, true, true, true, true, true, true, true, true, true, true, true, true, true, true, true, true, true, true, true, true] (mkSt [(0, one (Cell.sl g0 (List.map eI v112))), (3, one (cI v113)), (17, one (cI v113)), (18, one (cL (decide (v113 > (0 : Int))))), (19, one (cL false)), (20, Slot.tup []), (21, Slot.tup []), (22, Slot.tup []), (23, Slot.tup []), (24, Slot.tup []), (25, Slot.tup []), (26, Slot.tup []), (27, Slot.tup []), (28, Slot.tup []), (29, Slot.tup []), (30, one (cL false)), (31, one (cL false))] [] [] 0) := by
              refine hI _ _ _ (A.done (by kernel_rfl) ?_)
              refine WpC.cond rfl (fun hc => by cases hc) (fun _ => ?_)
              refine WpC.skip ?_
              exact ⟨_, ⟨k7, v112, v113, (decide (v113 > (0 : Int))), false, false, by omega, H, rfl⟩, Le.mk [] hm rfl ⟨⟨_, rfl, rfl⟩, ⟨_, rfl, rfl⟩, ⟨_, rfl, rfl⟩, ⟨_, rfl, rfl⟩, ⟨_, rfl, rfl⟩, ⟨_, rfl, rfl⟩, trivial⟩ trivial trivial⟩
            have n2097151 : W 1 #[true, true, true, true, true, true, true, true, true, true, true, true, true, true, true, true, true, true, true, true, true, false] (mkSt [(0, one (Cell.sl g0 (List.map eI v112))), (3, one (cI v113)), (16, one (cL false)), (17, one (cI v113)), (18, one (cL (decide (v113 > (0 : Int))))), (19, one (cL false)), (20, Slot.tup []), (21, Slot.tup []), (22, Slot.tup []), (23, Slot.tup []), (24, Slot.tup []), (25, Slot.tup []), (26, Slot.tup []), (27, Slot.tup []), (28, Slot.tup []), (29, Slot.tup []), (30, one (cL false))] [] [] 0) := by
              refine hI _ _ _ ?_
              refine A.take 21 rfl (by kernel_rfl) (by kernel_rfl) (by kernel_rfl) rfl (Ca.pick) (fun Q0 k0 => L.pick hF rfl rfl rfl rfl (L.nil k0)) ?_
              exact A.on (hO _ _ _ n4194303) (Le.mk [] hm rfl ⟨⟨_, rfl, rfl⟩, ⟨_, rfl, rfl⟩, ⟨_, rfl, rfl⟩, ⟨_, rfl, rfl⟩, ⟨_, rfl, rfl⟩, ⟨_, rfl, rfl⟩, ⟨_, rfl, rfl⟩, ⟨_, rfl, rfl⟩, ⟨_, rfl, rfl⟩, ⟨_, rfl, rfl⟩, ⟨_, rfl, rfl⟩, ⟨_, rfl, rfl⟩, ⟨_, rfl, rfl⟩, ⟨_, rfl, rfl⟩, ⟨_, rfl, rfl⟩, ⟨_, rfl, rfl⟩, ⟨_, rfl, rfl⟩, trivial⟩ trivial trivial)
            have n1048575 : W 2 #[true, true, true, true, true, true, true, true, true, true, true, true, true, true, true, true, true, true, true, true, false, false] (mkSt [(0, one (Cell.sl g0 (List.map eI v112))), (3, one (cI v113)), (16, one (cL false)), (17, one (cI v113)), (18, one (cL (decide (v113 > (0 : Int))))), (19, one (cL false)), (20, Slot.tup []), (21, Slot.tup []), (22, Slot.tup []), (23, Slot.tup []), (24, Slot.tup []), (25, Slot.tup []), (26, Slot.tup []), (27, Slot.tup []), (28, Slot.tup []), (29, Slot.tup [])] [] [] 0) := by
              refine hI _ _ _ ?_
              refine A.take 20 rfl (by kernel_rfl) (by kernel_rfl) (by kernel_rfl) rfl (Ca.pick) (fun Q0 k0 => L.pick hF rfl rfl rfl rfl (L.nil k0)) ?_
              exact A.on (hO _ _ _ n2097151) (Le.mk [] hm rfl ⟨⟨_, rfl, rfl⟩, ⟨_, rfl, rfl⟩, ⟨_, rfl, rfl⟩, ⟨_, rfl, rfl⟩, ⟨_, rfl, rfl⟩, ⟨_, rfl, rfl⟩, ⟨_, rfl, rfl⟩, ⟨_, rfl, rfl⟩, ⟨_, rfl, rfl⟩, ⟨_, rfl, rfl⟩, ⟨_, rfl, rfl⟩, ⟨_, rfl, rfl⟩, ⟨_, rfl, rfl⟩, ⟨_, rfl, rfl⟩, ⟨_, rfl, rfl⟩, ⟨_, rfl, rfl⟩, ⟨_, rfl, rfl⟩, trivial⟩ trivial trivial)
            have n524287 : W 3 #[true, true, true, true, true, true, true, true, true, true, true, true, true, true, true, true, true, true, true, false, false, false] (mkSt [(0, one (Cell.sl g0 (List.map eI v112))), (3, one (cI v113)), (16, one (cL false)), (17, one (cI v113)), (18, one (cL (decide (v113 > (0 : Int))))), (19, one (cL false)), (20, Slot.tup []), (21, Slot.tup []), (22, Slot.tup []), (23, Slot.tup []), (24, Slot.tup []), (25, Slot.tup []), (26, Slot.tup []), (27, Slot.tup []), (28, Slot.tup [])] [] [] 0) := by
              refine hI _ _ _ ?_
              refine A.off 19 rfl (by kernel_rfl) (by kernel_rfl) (by kernel_rfl) rfl hF rfl rfl ?_
              exact A.on (hO _ _ _ n1048575) (Le.mk [] hm rfl ⟨⟨_, rfl, rfl⟩, ⟨_, rfl, rfl⟩, ⟨_, rfl, rfl⟩, ⟨_, rfl, rfl⟩, ⟨_, rfl, rfl⟩, ⟨_, rfl, rfl⟩, ⟨_, rfl, rfl⟩, ⟨_, rfl, rfl⟩, ⟨_, rfl, rfl⟩, ⟨_, rfl, rfl⟩, ⟨_, rfl, rfl⟩, ⟨_, rfl, rfl⟩, ⟨_, rfl, rfl⟩, ⟨_, rfl, rfl⟩, ⟨_, rfl, rfl⟩, ⟨_, rfl, rfl⟩, trivial⟩ trivial trivial)
            have n262143 : W 4 #[true, true, true, true, true, true, true, true, true, true, true, true, true, true, true, true, true, true, false, false, false, false] (mkSt [(0, one (Cell.sl g0 (List.map eI v112))), (3, one (cI v113)), (16, one (cL false)), (17, one (cI v113)), (18, one (cL (decide (v113 > (0 : Int))))), (19, one (cL false)), (20, Slot.tup []), (21, Slot.tup []), (22, Slot.tup []), (23, Slot.tup []), (24, Slot.tup []), (25, Slot.tup []), (26, Slot.tup []), (27, Slot.tup [])] [] [] 0) := by
              refine hI _ _ _ ?_
              refine A.off 18 rfl (by kernel_rfl) (by kernel_rfl) (by kernel_rfl) rfl hF rfl rfl ?_
              exact A.on (hO _ _ _ n524287) (Le.mk [] hm rfl ⟨⟨_, rfl, rfl⟩, ⟨_, rfl, rfl⟩, ⟨_, rfl, rfl⟩, ⟨_, rfl, rfl⟩, ⟨_, rfl, rfl⟩, ⟨_, rfl, rfl⟩, ⟨_, rfl, rfl⟩, ⟨_, rfl, rfl⟩, ⟨_, rfl, rfl⟩, ⟨_, rfl, rfl⟩, ⟨_, rfl, rfl⟩, ⟨_, rfl, rfl⟩, ⟨_, rfl, rfl⟩, ⟨_, rfl, rfl⟩, ⟨_, rfl, rfl⟩, trivial⟩ trivial trivial)
            have n131071 : W 5 #[true, true, true, true, true, true, true, true, true, true, true, true, true, true, true, true, true, false, false, false, false, false] (mkSt [(0, one (Cell.sl g0 (List.map eI v112))), (3, one (cI v113)), (16, one (cL false)), (17, one (cI v113)), (18, one (cL (decide (v113 > (0 : Int))))), (19, one (cL false)), (20, Slot.tup []), (21, Slot.tup []), (22, Slot.tup []), (23, Slot.tup []), (24, Slot.tup []), (25, Slot.tup []), (26, Slot.tup [])] [] [] 0) := by
              refine hI _ _ _ ?_
              refine A.off 17 rfl (by kernel_rfl) (by kernel_rfl) (by kernel_rfl) rfl hF rfl rfl ?_
              exact A.on (hO _ _ _ n262143) (Le.mk [] hm rfl ⟨⟨_, rfl, rfl⟩, ⟨_, rfl, rfl⟩, ⟨_, rfl, rfl⟩, ⟨_, rfl, rfl⟩, ⟨_, rfl, rfl⟩, ⟨_, rfl, rfl⟩, ⟨_, rfl, rfl⟩, ⟨_, rfl, rfl⟩, ⟨_, rfl, rfl⟩, ⟨_, rfl, rfl⟩, ⟨_, rfl, rfl⟩, ⟨_, rfl, rfl⟩, ⟨_, rfl, rfl⟩, ⟨_, rfl, rfl⟩, trivial⟩ trivial trivial)
            have n65535 : W 6 #[true, true, true, true, true, true, true, true, true, true, true, true, true, true, true, true, false, false, false, false, false, false] (mkSt [(0, one (Cell.sl g0 (List.map eI v112))), (3, one (cI v113)), (16, one (cL false)), (17, one (cI v113)), (18, one (cL (decide (v113 > (0 : Int))))), (19, one (cL false)), (20, Slot.tup []), (21, Slot.tup []), (22, Slot.tup []), (23, Slot.tup []), (24, Slot.tup []), (25, Slot.tup [])] [] [] 0) := by
              refine hI _ _ _ ?_
              refine A.off 16 rfl (by kernel_rfl) (by kernel_rfl) (by kernel_rfl) rfl hF rfl rfl ?_
              exact A.on (hO _ _ _ n131071) (Le.mk [] hm rfl ⟨⟨_, rfl, rfl⟩, ⟨_, rfl, rfl⟩, ⟨_, rfl, rfl⟩, ⟨_, rfl, rfl⟩, ⟨_, rfl, rfl⟩, ⟨_, rfl, rfl⟩, ⟨_, rfl, rfl⟩, ⟨_, rfl, rfl⟩, ⟨_, rfl, rfl⟩, ⟨_, rfl, rfl⟩, ⟨_, rfl, rfl⟩, ⟨_, rfl, rfl⟩, ⟨_, rfl, rfl⟩, trivial⟩ trivial trivial)
            have n32767 : W 7 #[true, true, true, true, true, true, true, true, true, true, true, true, true, true, true, false, false, false, false, false, false, false] (mkSt [(0, one (Cell.sl g0 (List.map eI v112))), (3, one (cI v113)), (16, one (cL false)), (17, one (cI v113)), (18, one (cL (decide (v113 > (0 : Int))))), (19, one (cL false)), (20, Slot.tup []), (21, Slot.tup []), (22, Slot.tup []), (23, Slot.tup []), (24, Slot.tup [])] [] [] 0) := by
              refine hI _ _ _ ?_
              refine A.off 15 rfl (by kernel_rfl) (by kernel_rfl) (by kernel_rfl) rfl hF rfl rfl ?_
              exact A.on (hO _ _ _ n65535) (Le.mk [] hm rfl ⟨⟨_, rfl, rfl⟩, ⟨_, rfl, rfl⟩, ⟨_, rfl, rfl⟩, ⟨_, rfl, rfl⟩, ⟨_, rfl, rfl⟩, ⟨_, rfl, rfl⟩, ⟨_, rfl, rfl⟩, ⟨_, rfl, rfl⟩, ⟨_, rfl, rfl⟩, ⟨_, rfl, rfl⟩, ⟨_, rfl, rfl⟩, ⟨_, rfl, rfl⟩, trivial⟩ trivial trivial)
            have n16383 : W 8 #[true, true, true, true, true, true, true, true, true, true, true, true, true, true, false, false, false, false, false, false, false, false] (mkSt [(0, one (Cell.sl g0 (List.map eI v112))), (3, one (cI v113)), (16, one (cL false)), (17, one (cI v113)), (18, one (cL (decide (v113 > (0 : Int))))), (19, one (cL false)), (20, Slot.tup []), (21, Slot.tup []), (22, Slot.tup []), (23, Slot.tup [])] [] [] 0) := by
              refine hI _ _ _ ?_
              refine A.off 14 rfl (by kernel_rfl) (by kernel_rfl) (by kernel_rfl) rfl hF rfl rfl ?_
              exact A.on (hO _ _ _ n32767) (Le.mk [] hm rfl ⟨⟨_, rfl, rfl⟩, ⟨_, rfl, rfl⟩, ⟨_, rfl, rfl⟩, ⟨_, rfl, rfl⟩, ⟨_, rfl, rfl⟩, ⟨_, rfl, rfl⟩, ⟨_, rfl, rfl⟩, ⟨_, rfl, rfl⟩, ⟨_, rfl, rfl⟩, ⟨_, rfl, rfl⟩, ⟨_, rfl, rfl⟩, trivial⟩ trivial trivial)
            have n8191 : W 9 #[true, true, true, true, true, true, true, true, true, true, true, true, true, false, false, false, false, false, false, false, false, false] (mkSt [(0, one (Cell.sl g0 (List.map eI v112))), (3, one (cI v113)), (16, one (cL false)), (17, one (cI v113)), (18, one (cL (decide (v113 > (0 : Int))))), (19, one (cL false)), (20, Slot.tup []), (21, Slot.tup []), (22, Slot.tup [])] [] [] 0) := by
              refine hI _ _ _ ?_
              refine A.off 13 rfl (by kernel_rfl) (by kernel_rfl) (by kernel_rfl) rfl hF rfl rfl ?_
              exact A.on (hO _ _ _ n16383) (Le.mk [] hm rfl ⟨⟨_, rfl, rfl⟩, ⟨_, rfl, rfl⟩, ⟨_, rfl, rfl⟩, ⟨_, rfl, rfl⟩, ⟨_, rfl, rfl⟩, ⟨_, rfl, rfl⟩, ⟨_, rfl, rfl⟩, ⟨_, rfl, rfl⟩, ⟨_, rfl, rfl⟩, ⟨_, rfl, rfl⟩, trivial⟩ trivial trivial)
            have n4095 : W 10 #[true, true, true, true, true, true, true, true, true, true, true, true, false, false, false, false, false, false, false, false, false, false] (mkSt [(0, one (Cell.sl g0 (List.map eI v112))), (3, one (cI v113)), (16, one (cL false)), (17, one (cI v113)), (18, one (cL (decide (v113 > (0 : Int))))), (19, one (cL false)), (20, Slot.tup []), (21, Slot.tup [])] [] [] 0) := by
              refine hI _ _ _ ?_
              refine A.off 12 rfl (by kernel_rfl) (by kernel_rfl) (by kernel_rfl) rfl hF rfl rfl ?_
              exact A.on (hO _ _ _ n8191) (Le.mk [] hm rfl ⟨⟨_, rfl, rfl⟩, ⟨_, rfl, rfl⟩, ⟨_, rfl, rfl⟩, ⟨_, rfl, rfl⟩, ⟨_, rfl, rfl⟩, ⟨_, rfl, rfl⟩, ⟨_, rfl, rfl⟩, ⟨_, rfl, rfl⟩, ⟨_, rfl, rfl⟩, trivial⟩ trivial trivial)
            have n2047 : W 11 #[true, true, true, true, true, true, true, true, true, true, true, false, false, false, false, false, false, false, false, false, false, false] (mkSt [(0, one (Cell.sl g0 (List.map eI v112))), (3, one (cI v113)), (16, one (cL false)), (17, one (cI v113)), (18, one (cL (decide (v113 > (0 : Int))))), (19, one (cL false)), (20, Slot.tup [])] [] [] 0) := by
              refine hI _ _ _ ?_
              refine A.off 11 rfl (by kernel_rfl) (by kernel_rfl) (by kernel_rfl) rfl hF rfl rfl ?_
              exact A.on (hO _ _ _ n4095) (Le.mk [] hm rfl ⟨⟨_, rfl, rfl⟩, ⟨_, rfl, rfl⟩, ⟨_, rfl, rfl⟩, ⟨_, rfl, rfl⟩, ⟨_, rfl, rfl⟩, ⟨_, rfl, rfl⟩, ⟨_, rfl, rfl⟩, ⟨_, rfl, rfl⟩, trivial⟩ trivial trivial)
            have n1023 : W 12 #[true, true, true, true, true, true, true, true, true, true, false, false, false, false, false, false, false, false, false, false, false, false] (mkSt [(0, one (Cell.sl g0 (List.map eI v112))), (3, one (cI v113)), (16, one (cL false)), (17, one (cI v113)), (18, one (cL (decide (v113 > (0 : Int))))), (19, one (cL false))] [] [] 0) := by
              refine hI _ _ _ ?_
              refine A.off 10 rfl (by kernel_rfl) (by kernel_rfl) (by kernel_rfl) rfl hF rfl rfl ?_
              exact A.on (hO _ _ _ n2047) (Le.mk [] hm rfl ⟨⟨_, rfl, rfl⟩, ⟨_, rfl, rfl⟩, ⟨_, rfl, rfl⟩, ⟨_, rfl, rfl⟩, ⟨_, rfl, rfl⟩, ⟨_, rfl, rfl⟩, ⟨_, rfl, rfl⟩, trivial⟩ trivial trivial)
            have n511 : W 13 #[true, true, true, true, true, true, true, true, true, false, false, false, false, false, false, false, false, false, false, false, false, false] (mkSt [(0, one (Cell.sl g0 (List.map eI v112))), (3, one (cI v113)), (16, one (cL false)), (17, one (cI v113)), (18, one (cL (decide (v113 > (0 : Int)))))] [] [] 0) := by
              refine hI _ _ _ ?_
              refine A.take 9 rfl (by kernel_rfl) (by kernel_rfl) (by kernel_rfl) rfl (Ca.move) (fun Q0 k0 => L.move hF rfl rfl rfl (L.nil k0)) ?_
              exact A.on (hO _ _ _ n1023) (Le.mk [] hm rfl ⟨⟨_, rfl, rfl⟩, ⟨_, rfl, rfl⟩, ⟨_, rfl, rfl⟩, ⟨_, rfl, rfl⟩, ⟨_, rfl, rfl⟩, ⟨_, rfl, congrArg (fun b => some (one (cL b))) hc134⟩, trivial⟩ trivial trivial)
            have n255 : W 14 #[true, true, true, true, true, true, true, true, false, false, false, false, false, false, false, false, false, false, false, false, false, false] (mkSt [(0, one (Cell.sl g0 (List.map eI v112))), (3, one (cI v113)), (16, one (cL false)), (17, one (cI v113))] [] [] 0) := by
              refine hI _ _ _ ?_
              refine A.take 8 rfl (by kernel_rfl) (by kernel_rfl) (by kernel_rfl) rfl (Ca.bin rfl rfl (calm_int _ _ _ _ _ _ _ _)) (fun Q0 k0 => L.bin hF rfl rfl rfl rfl rfl rfl (L.nil k0)) ?_
              exact A.on (hO _ _ _ n511) (Le.mk [] hm rfl ⟨⟨_, rfl, rfl⟩, ⟨_, rfl, rfl⟩, ⟨_, rfl, rfl⟩, ⟨_, rfl, rfl⟩, ⟨_, rfl, rfl⟩, trivial⟩ trivial trivial)
            have n127 : W 15 #[true, true, true, true, true, true, true, false, false, false, false, false, false, false, false, false, false, false, false, false, false, false] (mkSt [(0, one (Cell.sl g0 (List.map eI v112))), (3, one (cI v113)), (16, one (cL false))] [] [] 0) := by
              refine hI _ _ _ ?_
              refine A.take 7 rfl (by kernel_rfl) (by kernel_rfl) (by kernel_rfl) rfl (Ca.move) (fun Q0 k0 => L.move hF rfl rfl rfl (L.nil k0)) ?_
              exact A.on (hO _ _ _ n255) (Le.mk [] hm rfl ⟨⟨_, rfl, rfl⟩, ⟨_, rfl, rfl⟩, ⟨_, rfl, rfl⟩, ⟨_, rfl, rfl⟩, trivial⟩ trivial trivial)
            have n63 : W 16 #[true, true, true, true, true, true, false, false, false, false, false, false, false, false, false, false, false, false, false, false, false, false] (mkSt [(0, one (Cell.sl g0 (List.map eI v112))), (3, one (cI v113)), (15, one (cL (!r132)))] [] [] 0) := by
              refine hI _ _ _ ?_
              refine A.take 6 rfl (by kernel_rfl) (by kernel_rfl) (by kernel_rfl) rfl (Ca.move) (fun Q0 k0 => L.move hF rfl rfl rfl (L.nil k0)) ?_
              exact A.on (hO _ _ _ n127) (Le.mk [] hm rfl ⟨⟨_, rfl, rfl⟩, ⟨_, rfl, rfl⟩, ⟨_, rfl, congrArg (fun b => some (one (cL b))) hc133⟩, trivial⟩ trivial trivial)
            have n31 : W 17 #[true, true, true, true, true, false, false, false, false, false, false, false, false, false, false, false, false, false, false, false, false, false] (mkSt [(0, one (Cell.sl g0 (List.map eI v112))), (3, one (cI v113)), (14, one (cL r132))] [] [] 0) := by
              refine hI _ _ _ ?_
              refine A.take 5 rfl (by kernel_rfl) (by kernel_rfl) (by kernel_rfl) rfl (Ca.un rfl rfl) (fun Q0 k0 => L.not hF rfl rfl rfl (L.nil k0)) ?_
              exact A.on (hO _ _ _ n63) (Le.mk [] hm rfl ⟨⟨_, rfl, rfl⟩, ⟨_, rfl, rfl⟩, ⟨_, rfl, rfl⟩, trivial⟩ trivial trivial)
            have n15 : W 18 #[true, true, true, true, false, false, false, false, false, false, false, false, false, false, false, false, false, false, false, false, false, false] (mkSt [(0, one (Cell.sl g0 (List.map eI v112))), (3, one (cI v113)), (13, one (cI b131))] [] [] 0) := by
              refine hI _ _ _ ?_
              refine A.all [4] (by kernel_rfl) rfl ⟨⟨_, rfl, ?_⟩, trivial⟩
              · refine L.call [false, false, false] [] [] 0 hF rfl rfl rfl ent92 rfl rfl rfl rfl rfl (Fspec_l1In_gives k7  b131 (0 : Int) (30 : Int) r132 hr132) rfl ?_
                refine L.nil ?_
                exact A.on (hO _ _ _ n31) (Le.mk [] hm rfl ⟨⟨_, rfl, rfl⟩, ⟨_, rfl, rfl⟩, ⟨_, rfl, rfl⟩, trivial⟩ trivial trivial)
            have n7 : W 19 #[true, true, true, false, false, false, false, false, false, false, false, false, false, false, false, false, false, false, false, false, false, false] (mkSt [(0, one (Cell.sl g0 (List.map eI v112))), (3, one (cI v113)), (12, one (Cell.pe g0 (eI b131) 0))] [] [] 0) := by
              refine hI _ _ _ ?_
              refine A.all [3] (by kernel_rfl) rfl ⟨⟨_, rfl, ?_⟩, trivial⟩
              · refine L.loadPe shape3 hF rfl rfl rfl rfl rfl ?_
                refine L.nil ?_
                exact A.on (hO _ _ _ n15) (Le.mk [] hm rfl ⟨⟨_, rfl, rfl⟩, ⟨_, rfl, rfl⟩, ⟨_, rfl, rfl⟩, trivial⟩ trivial trivial)
            have n3 : W 20 #[true, true, false, false, false, false, false, false, false, false, false, false, false, false, false, false, false, false, false, false, false, false] (mkSt [(0, one (Cell.sl g0 (List.map eI v112))), (3, one (cI v113)), (10, one (Cell.sl g0 (List.map eI v112))), (11, one (cI v113))] [] [] 0) := by
              refine hI _ _ _ ?_
              refine A.take 2 rfl (by kernel_rfl) (by kernel_rfl) (by kernel_rfl) rfl (Ca.indexAddr) (fun Q0 k0 => L.idxR (xs := v112) (e := eI) Try.underlying77 info3 hF rfl rfl rfl rfl rfl hb131 rfl rfl (L.nil k0)) ?_
              exact A.on (hO _ _ _ n7) (Le.mk [] hm rfl ⟨⟨_, rfl, rfl⟩, ⟨_, rfl, rfl⟩, ⟨_, rfl, rfl⟩, trivial⟩ trivial trivial)
            have n1 : W 21 #[true, false, false, false, false, false, false, false, false, false, false, false, false, false, false, false, false, false, false, false, false, false] (mkSt [(0, one (Cell.sl g0 (List.map eI v112))), (3, one (cI v113)), (10, one (Cell.sl g0 (List.map eI v112)))] [] [] 0) := by
              refine hI _ _ _ ?_
              refine A.take 1 rfl (by kernel_rfl) (by kernel_rfl) (by kernel_rfl) rfl (Ca.move) (fun Q0 k0 => L.move hF rfl rfl rfl (L.nil k0)) ?_
              exact A.on (hO _ _ _ n3) (Le.mk [] hm rfl ⟨⟨_, rfl, rfl⟩, ⟨_, rfl, rfl⟩, ⟨_, rfl, rfl⟩, ⟨_, rfl, rfl⟩, trivial⟩ trivial trivial)
            have n0 : W 22 #[false, false, false, false, false, false, false, false, false, false, false, false, false, false, false, false, false, false, false, false, false, false] (mkSt [(0, one (Cell.sl g0 (List.map eI v112))), (3, one (cI v113))] [] [] 0) := by
              refine hI _ _ _ ?_
              refine A.take 0 rfl (by kernel_rfl) (by kernel_rfl) (by kernel_rfl) rfl (Ca.move) (fun Q0 k0 => L.move hF rfl rfl rfl (L.nil k0)) ?_
              exact A.on (hO _ _ _ n1) (Le.mk [] hm rfl ⟨⟨_, rfl, rfl⟩, ⟨_, rfl, rfl⟩, ⟨_, rfl, rfl⟩, trivial⟩ trivial trivial)
            exact hI _ _ _ (A.on (hO _ _ _ n0) (Le.mk [] hm rfl ⟨⟨_, rfl, rfl⟩, ⟨_, rfl, rfl⟩, trivial⟩ trivial trivial))
    · replace H := condF hc H
      refine WpC.exit ?_
      refine WpC.seq ?_
      refine WpC.regionL ?_
      refine L.assign hF rfl rfl rfl ?_
      refine L.nil ?_
      refine WpC.ret ?_
      cases H
      exact Leaves.ret rfl rfl rfl ⟨rfl, rfl⟩
/-! ### Fspec_l17Ok -/
def Fspec_l17Ok (k : Nat) (a0 : Timpl_Rule) : Option Bool := (Fspec_l1In k a0.Kind (1 : Int) (3 : Int)).bind fun r4 => cond r4 (cond (a0.N == (0 : Int)) ((Fspec_l17Set k a0.Set).bind fun r6 => some r6) (some false)) ((Fspec_l1In k a0.Kind (4 : Int) (5 : Int)).bind fun r9 => cond r9 (cond ((a0.Set.length : Int) == (0 : Int)) ((Fspec_l1In k a0.N (0 : Int) (100000 : Int)).bind fun r10 => some r10) (some false)) (some false))
theorem ent119 : Enters Try.prog 119 := ⟨Try.f119, Try.func119, rfl, by decide⟩
set_option maxHeartbeats 8000000 in
set_option maxRecDepth 100000 in
theorem Fspec_l17Ok_gives (k : Nat) (g0 : Bool) (a0 : Timpl_Rule) (r : Bool) (H : Fspec_l17Ok k a0 = some r) : Gives Try.prog 119 [V.agg [cI a0.Kind, Cell.sl g0 (List.map eI a0.Set), cI a0.N]] [] [V.one (cL r)] [] := by
  refine Gives.intro Try.func119 rfl rfl rfl rfl ?_
  intro F hF hm
  unfold Fspec_l17Ok at H
  obtain ⟨K, hK⟩ : ∃ K, k ≤ K := ⟨k, Nat.le_refl k⟩
  refine WpC.seq ?_
  refine WpC.regionL ?_
  refine L.box 3 hF rfl rfl rfl rfl ?_
  refine L.assign hF rfl rfl rfl ?_
  refine L.nil ?_
  refine WpC.seq ?_
  refine WpC.seq ?_
  refine WpC.regionL ?_
  refine L.fieldAddr Try.underlying133 rfl info3 rfl hF rfl rfl rfl rfl rfl ?_
  refine L.loadPtr shape3 hF rfl rfl rfl rfl rfl rfl ?_
  obtain ⟨r4, hr4, H⟩ := bindS H
  refine L.call [false, false, false] [] [] 4 hF rfl rfl rfl ent92 rfl rfl rfl rfl rfl (Fspec_l1In_gives k  a0.Kind (1 : Int) (3 : Int) r4 hr4) rfl ?_
  refine L.nil ?_
  refine WpC.cond rfl (fun hc => ?_) (fun hc => ?_)
  · replace H := condT hc H
    refine WpC.seq ?_
    refine WpC.regionL ?_
    refine L.fieldAddr Try.underlying133 rfl info3 rfl hF rfl rfl rfl rfl rfl ?_
    refine L.loadPtr shape3 hF rfl rfl rfl rfl rfl rfl ?_
    refine L.bin hF rfl rfl rfl rfl rfl rfl ?_
    refine L.move hF rfl rfl rfl ?_
    refine L.split (fun hc => ?_) (fun hc => ?_)
    · replace H := condT hc H
      refine L.fieldAddr Try.underlying133 rfl info77 rfl hF rfl rfl rfl rfl rfl ?_
      refine L.loadPtr shape77 hF rfl rfl rfl rfl rfl rfl ?_
      obtain ⟨r6, hr6, H⟩ := bindS H
      refine L.call [false] [] [] 5 hF rfl rfl rfl ent154 rfl rfl rfl rfl rfl (Fspec_l17Set_gives k g0 a0.Set r6 hr6) rfl ?_
      refine L.pick hF rfl rfl rfl rfl ?_
      refine L.assign hF rfl rfl rfl ?_
      refine L.nil ?_
      refine WpC.ret ?_
      cases H
      exact Leaves.ret rfl rfl rfl ⟨rfl, rfl⟩
    · replace H := condF hc H
      refine L.off hF rfl rfl ?_
      refine L.off hF rfl rfl ?_
      refine L.off hF rfl rfl ?_
      refine L.pick hF rfl rfl rfl rfl ?_
      refine L.assign hF rfl rfl rfl ?_
      refine L.nil ?_
      refine WpC.ret ?_
      cases H
      exact Leaves.ret rfl rfl rfl ⟨rfl, rfl⟩
  · replace H := condF hc H
    refine WpC.skip ?_
    refine WpC.seq ?_
    refine WpC.regionL ?_
    refine L.fieldAddr Try.underlying133 rfl info3 rfl hF rfl rfl rfl rfl rfl ?_
    refine L.loadPtr shape3 hF rfl rfl rfl rfl rfl rfl ?_
    obtain ⟨r9, hr9, H⟩ := bindS H
    refine L.call [false, false, false] [] [] 5 hF rfl rfl rfl ent92 rfl rfl rfl rfl rfl (Fspec_l1In_gives k  a0.Kind (4 : Int) (5 : Int) r9 hr9) rfl ?_
    refine L.move hF rfl rfl rfl ?_
    refine L.split (fun hc => ?_) (fun hc => ?_)
    · replace H := condT hc H
      refine L.fieldAddr Try.underlying133 rfl info77 rfl hF rfl rfl rfl rfl rfl ?_
      refine L.loadPtr shape77 hF rfl rfl rfl rfl rfl rfl ?_
      refine L.lenR (xs := a0.Set) (e := eI) Try.underlying77 hF rfl rfl rfl rfl ?_
      refine L.bin hF rfl rfl rfl rfl rfl rfl ?_
      refine L.pick hF rfl rfl rfl rfl ?_
      refine L.move hF rfl rfl rfl ?_
      refine L.split (fun hc => ?_) (fun hc => ?_)
      · replace H := condT hc H
        refine L.fieldAddr Try.underlying133 rfl info3 rfl hF rfl rfl rfl rfl rfl ?_
        refine L.loadPtr shape3 hF rfl rfl rfl rfl rfl rfl ?_
        obtain ⟨r10, hr10, H⟩ := bindS H
        refine L.call [false, false, false] [] [] 6 hF rfl rfl rfl ent92 rfl rfl rfl rfl rfl (Fspec_l1In_gives k  a0.N (0 : Int) (100000 : Int) r10 hr10) rfl ?_
        refine L.pick hF rfl rfl rfl rfl ?_
        refine L.assign hF rfl rfl rfl ?_
        refine L.nil ?_
        refine WpC.ret ?_
        cases H
        exact Leaves.ret rfl rfl rfl ⟨rfl, rfl⟩
      · replace H := condF hc H
        refine L.off hF rfl rfl ?_
        refine L.off hF rfl rfl ?_
        refine L.off hF rfl rfl ?_
        refine L.pick hF rfl rfl rfl rfl ?_
        refine L.assign hF rfl rfl rfl ?_
        refine L.nil ?_
        refine WpC.ret ?_
        cases H
        exact Leaves.ret rfl rfl rfl ⟨rfl, rfl⟩
    · replace H := condF hc H
      refine L.off hF rfl rfl ?_
      refine L.off hF rfl rfl ?_
      refine L.off hF rfl rfl ?_
      refine L.off hF rfl rfl ?_
      refine L.pick hF rfl rfl rfl rfl ?_
      refine L.move hF rfl rfl rfl ?_
      refine L.off hF rfl rfl ?_
      refine L.off hF rfl rfl ?_
      refine L.off hF rfl rfl ?_
      refine L.pick hF rfl rfl rfl rfl ?_
      refine L.assign hF rfl rfl rfl ?_
      refine L.nil ?_
      refine WpC.ret ?_
      cases H
      exact Leaves.ret rfl rfl rfl ⟨rfl, rfl⟩
/-! ### Fspec_RulesOk -/
def Fspec_RulesOk.l2 : Nat → (List Timpl_Rule) → Int → Option Bool
  | 0, _, _ => none
  | k2 + 1, v29, v30 => cond (decide (v30 < (v29.length : Int))) ((at? v29 v30).bind fun b33 => (Fspec_l17Ok k2 b33).bind fun r34 => cond (!r34) (some false) ((Fspec_RulesOk.l2 k2) v29 (IntKind.i64.wrap (v30 + (1 : Int))))) (some true)
def Fspec_RulesOk (k : Nat) (a0 : List Timpl_Rule) : Option Bool := cond (decide ((a0.length : Int) > (20 : Int))) (some false) (Fspec_RulesOk.l2 k a0 (0 : Int))
theorem ent62 : Enters Try.prog 62 := ⟨Try.f62, Try.func62, rfl, by decide⟩
set_option maxHeartbeats 8000000 in
set_option maxRecDepth 100000 in
theorem Fspec_RulesOk_gives (k : Nat) (g0 : Bool) (a0 : List Timpl_Rule) (r : Bool) (H : Fspec_RulesOk k a0 = some r) : Gives Try.prog 62 [V.one (Cell.sl g0 (List.map eTimpl_Rule a0))] [] [V.one (cL r)] [] := by
  refine Gives.intro Try.func62 rfl rfl rfl rfl ?_
  intro F hF hm
  unfold Fspec_RulesOk at H
  obtain ⟨K, hK⟩ : ∃ K, k ≤ K := ⟨k, Nat.le_refl k⟩
  refine WpC.seq ?_
  refine WpC.regionL ?_
  refine L.assign hF rfl rfl rfl ?_
  refine L.nil ?_
  refine WpC.seq ?_
  refine WpC.seq ?_
  refine WpC.regionL ?_
  refine L.move hF rfl rfl rfl ?_
  refine L.lenR (xs := a0) (e := eTimpl_Rule) Try.underlying71 hF rfl rfl rfl rfl ?_
  refine L.bin hF rfl rfl rfl rfl rfl rfl ?_
  refine L.nil ?_
  refine WpC.cond rfl (fun hc => ?_) (fun hc => ?_)
  · replace H := condT hc H
    refine WpC.seq ?_
    refine WpC.regionL ?_
    refine L.assign hF rfl rfl rfl ?_
    refine L.nil ?_
    refine WpC.ret ?_
    cases H
    exact Leaves.ret rfl rfl rfl ⟨rfl, rfl⟩
  · replace H := condF hc H
    refine WpC.skip ?_
    refine WpC.seq ?_
    refine WpC.seq ?_
    refine WpC.regionL ?_
    refine L.assign hF rfl rfl rfl ?_
    refine L.nil ?_
    refine WpC.block ?_
    refine WpC.loopL (P := Try.prog) (fun n σ => ∃ v29 : List Timpl_Rule, ∃ v30 : Int, n ≤ K ∧ Fspec_RulesOk.l2 n v29 v30 = some r ∧ σ = mkSt [(0, one (Cell.sl g0 (List.map eTimpl_Rule v29))), (3, one (cI v30))] [] [] 0) k ⟨_, ⟨a0, (0 : Int), by omega, H, rfl⟩, Le.mk [] hm rfl ⟨⟨_, rfl, rfl⟩, ⟨_, rfl, rfl⟩, trivial⟩ trivial trivial⟩ ?_
    clear H
    rintro k2 _ ⟨v29, v30, hk2, H, rfl⟩
    cases k2 with
    | zero => cases H
    | succ k2 =>
      rw [Fspec_RulesOk.l2] at H
      refine WpC.seq ?_
      refine WpC.seq ?_
      refine WpC.regionL ?_
      refine L.move hF rfl rfl rfl ?_
      refine L.move hF rfl rfl rfl ?_
      refine L.lenR (xs := v29) (e := eTimpl_Rule) Try.underlying71 hF rfl rfl rfl rfl ?_
      refine L.bin hF rfl rfl rfl rfl rfl rfl ?_
      refine L.nil ?_
      refine WpC.cond rfl (fun hc => ?_) (fun hc => ?_)
      · replace H := condT hc H
        refine WpC.skip ?_
        refine WpC.seq ?_
        refine WpC.block ?_
        refine WpC.seq ?_
        refine WpC.regionL ?_
        refine L.move hF rfl rfl rfl ?_
        refine L.move hF rfl rfl rfl ?_
        obtain ⟨b33, hb33, H⟩ := bindS H
        refine L.idxR (xs := v29) (e := eTimpl_Rule) Try.underlying71 info133 hF rfl rfl rfl rfl rfl hb33 rfl rfl ?_
        refine L.loadPe shape133 hF rfl rfl rfl rfl rfl ?_
        obtain ⟨r34, hr34, H⟩ := bindS H
        refine L.call [false] [] [] 0 hF rfl rfl rfl ent119 rfl rfl rfl rfl rfl (Fspec_l17Ok_gives k2 true b33 r34 hr34) rfl ?_
        refine L.not hF rfl rfl rfl ?_
        refine L.nil ?_
        refine WpC.cond rfl (fun hc => ?_) (fun hc => ?_)
        · replace H := condT hc H
          refine WpC.seq ?_
          refine WpC.regionL ?_
          refine L.assign hF rfl rfl rfl ?_
          refine L.nil ?_
          refine WpC.ret ?_
          cases H
          exact Leaves.ret rfl rfl rfl ⟨rfl, rfl⟩
        · replace H := condF hc H
          refine WpC.skip ?_
          refine WpC.regionL ?_
          refine L.move hF rfl rfl rfl ?_
          refine L.bin hF rfl rfl rfl rfl rfl rfl ?_
          refine L.assign hF rfl rfl rfl ?_
          refine L.nil ?_
          exact ⟨k2, _, by omega, ⟨v29, (IntKind.i64.wrap (v30 + (1 : Int))), by omega, H, rfl⟩, Le.mk [] hm rfl ⟨⟨_, rfl, rfl⟩, ⟨_, rfl, rfl⟩, trivial⟩ trivial trivial⟩
      · replace H := condF hc H
        refine WpC.exit ?_
        refine WpC.seq ?_
        refine WpC.regionL ?_
        refine L.assign hF rfl rfl rfl ?_
        refine L.nil ?_
        refine WpC.ret ?_
        cases H
        exact Leaves.ret rfl rfl rfl ⟨rfl, rfl⟩
/-! ### Fspec_Var -/
def Fspec_Var.l2 : Nat → Int → (List UInt8) → Option (List UInt8)
  | 0, _, _ => none
  | k2 + 1, v16, v17 => cond (decide (v16 ≥ (128 : Int))) (cond (decide ((2 * (v17.length + ([(ofI (IntKind.i64.wrap ((128 : Int) + (Int.tmod v16 (128 : Int)))))] : List UInt8).length) + 192) * 1 ≤ 281474976710656)) ((Fspec_Var.l2 k2) (IntKind.i64.wrap (Int.tdiv v16 (128 : Int))) (v17 ++ ([(ofI (IntKind.i64.wrap ((128 : Int) + (Int.tmod v16 (128 : Int)))))] : List UInt8))) none) (cond (decide ((2 * (v17.length + ([(ofI v16)] : List UInt8).length) + 192) * 1 ≤ 281474976710656)) (some (v17 ++ ([(ofI v16)] : List UInt8))) none)
def Fspec_Var (k : Nat) (a0 : Int) : Option (List UInt8) := (Fspec_l1In k a0 (0 : Int) (562949953421311 : Int)).bind fun r2 => cond (!r2) (some ([] : List UInt8)) (Fspec_Var.l2 k a0 ([] : List UInt8))
theorem ent127 : Enters Try.prog 127 := ⟨Try.f127, Try.func127, rfl, by decide⟩
set_option maxHeartbeats 8000000 in
set_option maxRecDepth 100000 in
theorem Fspec_Var_gives (k : Nat) (a0 : Int) (r : List UInt8) (H : Fspec_Var k a0 = some r) : Gives Try.prog 127 [V.one (cI a0)] [] [V.one (cS r)] [] := by
  refine Gives.intro Try.func127 rfl rfl rfl rfl ?_
  intro F hF hm
  unfold Fspec_Var at H
  obtain ⟨K, hK⟩ : ∃ K, k ≤ K := ⟨k, Nat.le_refl k⟩
  refine WpC.seq ?_
  refine WpC.regionL ?_
  refine L.assign hF rfl rfl rfl ?_
  refine L.nil ?_
  refine WpC.seq ?_
  refine WpC.seq ?_
  refine WpC.regionL ?_
  refine L.move hF rfl rfl rfl ?_
  obtain ⟨r2, hr2, H⟩ := bindS H
  refine L.call [false, false, false] [] [] 1 hF rfl rfl rfl ent92 rfl rfl rfl rfl rfl (Fspec_l1In_gives k  a0 (0 : Int) (562949953421311 : Int) r2 hr2) rfl ?_
  refine L.not hF rfl rfl rfl ?_
  refine L.nil ?_
  refine WpC.cond rfl (fun hc => ?_) (fun hc => ?_)
  · replace H := condT hc H
    refine WpC.seq ?_
    refine WpC.regionL ?_
    refine L.assign hF rfl rfl rfl ?_
    refine L.nil ?_
    refine WpC.ret ?_
    cases H
    exact Leaves.ret rfl rfl rfl ⟨rfl, rfl⟩
  · replace H := condF hc H
    refine WpC.skip ?_
    refine WpC.seq ?_
    refine WpC.regionL ?_
    refine L.buildSlice (e := eB) 2 ([] : List UInt8) Try.underlying35 info5 rfl rfl rfl hF rfl rfl rfl rfl rfl rfl rfl rfl ?_
    refine L.assign hF rfl rfl rfl ?_
    refine L.nil ?_
    refine WpC.seq ?_
    refine WpC.block ?_
    refine WpC.loopL (P := Try.prog) (fun n σ => ∃ v16 : Int, ∃ v17 : List UInt8, n ≤ K ∧ Fspec_Var.l2 n v16 v17 = some r ∧ σ = mkSt [(0, one (cI v16)), (3, one (Cell.own 0))] [(0, ⟨1, List.map eB v17⟩)] [] 1) k ⟨_, ⟨a0, ([] : List UInt8), by omega, H, rfl⟩, Le.mk [(0, 2)] hm rfl ⟨⟨_, rfl, rfl⟩, ⟨_, rfl, rfl⟩, trivial⟩ ⟨⟨_, rfl, rfl⟩, trivial⟩ trivial⟩ ?_
    clear H
    rintro k2 _ ⟨v16, v17, hk2, H, rfl⟩
    cases k2 with
    | zero => cases H
    | succ k2 =>
      rw [Fspec_Var.l2] at H
      refine WpC.seq ?_
      refine WpC.seq ?_
      refine WpC.regionL ?_
      refine L.move hF rfl rfl rfl ?_
      refine L.bin hF rfl rfl rfl rfl rfl rfl ?_
      refine L.nil ?_
      refine WpC.cond rfl (fun hc => ?_) (fun hc => ?_)
      · replace H := condT hc H
        refine WpC.skip ?_
        refine WpC.block ?_
        refine WpC.seq ?_
        refine WpC.regionL ?_
        refine L.move hF rfl rfl rfl ?_
        refine L.move hF rfl rfl rfl ?_
        refine L.rem hF rfl rfl rfl rfl (by decide) ?_
        refine L.bin hF rfl rfl rfl rfl rfl rfl ?_
        refine L.toB Try.underlying3 Try.underlying5 hF rfl rfl rfl ?_
        refine L.buildSlice (e := eB) 1 ([(ofI (IntKind.i64.wrap ((128 : Int) + (Int.tmod v16 (128 : Int)))))] : List UInt8) Try.underlying35 info5 rfl rfl rfl hF rfl rfl rfl rfl rfl rfl rfl rfl ?_
        obtain ⟨h18, H⟩ := condG H
        refine L.append (xs := v17) (ys := ([(ofI (IntKind.i64.wrap ((128 : Int) + (Int.tmod v16 (128 : Int)))))] : List UInt8)) (e := eB) 2 Try.underlying35 info5 rfl rfl hF rfl rfl rfl rfl rfl rfl rfl rfl (fun _ => rfl) (fun _ _ h1 h2 => by cases h1; cases h2; rfl) ⟨_, Try.underlying35⟩ (of_decide_eq_true h18) rfl rfl ?_
        refine L.assign hF rfl rfl rfl ?_
        refine L.nil ?_
        refine WpC.regionL ?_
        refine L.move hF rfl rfl rfl ?_
        refine L.quo hF rfl rfl rfl rfl (by decide) ?_
        refine L.assign hF rfl rfl rfl ?_
        refine L.nil ?_
        exact ⟨k2, _, by omega, ⟨(IntKind.i64.wrap (Int.tdiv v16 (128 : Int))), (v17 ++ ([(ofI (IntKind.i64.wrap ((128 : Int) + (Int.tmod v16 (128 : Int)))))] : List UInt8)), by omega, H, rfl⟩, Le.mk [(0, 2)] hm rfl ⟨⟨_, rfl, rfl⟩, ⟨_, rfl, rfl⟩, trivial⟩ ⟨⟨_, rfl, rfl⟩, trivial⟩ trivial⟩
      · replace H := condF hc H
        refine WpC.exit ?_
        refine WpC.seq ?_
        refine WpC.regionL ?_
        refine L.move hF rfl rfl rfl ?_
        refine L.move hF rfl rfl rfl ?_
        refine L.toB Try.underlying3 Try.underlying5 hF rfl rfl rfl ?_
        refine L.buildSlice (e := eB) 1 ([(ofI v16)] : List UInt8) Try.underlying35 info5 rfl rfl rfl hF rfl rfl rfl rfl rfl rfl rfl rfl ?_
        obtain ⟨h19, H⟩ := condG H
        refine L.append (xs := v17) (ys := ([(ofI v16)] : List UInt8)) (e := eB) 2 Try.underlying35 info5 rfl rfl hF rfl rfl rfl rfl rfl rfl rfl rfl (fun _ => rfl) (fun _ _ h1 h2 => by cases h1; cases h2; rfl) ⟨_, Try.underlying35⟩ (of_decide_eq_true h19) rfl rfl ?_
        refine L.b2s (xs := (v17 ++ ([(ofI v16)] : List UInt8))) Try.underlying35 Try.underlying5 Try.underlying9 hF rfl rfl rfl rfl ?_
        refine L.assign hF rfl rfl rfl ?_
        refine L.nil ?_
        refine WpC.ret ?_
        cases H
        exact Leaves.ret rfl rfl rfl ⟨rfl, rfl⟩
/-! ### Fspec_ShowRules -/
def Fspec_ShowRules.l14 (cl12 : (List Timpl_Rule) → (List UInt8) → Int → Option (List UInt8)) : Nat → (List Timpl_Rule) → (List UInt8) → Int → Int → Option (List UInt8)
  | 0, _, _, _, _ => none
  | k14 + 1, v594, v595, v596, v597 => (at? v594 v596).bind fun b599 => cond (decide (v597 < (b599.Set.length : Int))) ((at? v594 v596).bind fun b604 => (at? b604.Set v597).bind fun b605 => (Fspec_Var k14 b605).bind fun r606 => cond (decide (v595.length + r606.length ≤ 9223372036854775807)) ((Fspec_ShowRules.l14 cl12 k14) v594 (v595 ++ r606) v596 (IntKind.i64.wrap (v597 + (1 : Int)))) none) (cl12 v594 v595 (IntKind.i64.wrap (v596 + (1 : Int))))
def Fspec_ShowRules.l12 : Nat → (List Timpl_Rule) → (List UInt8) → Int → Option (List UInt8)
  | 0, _, _, _ => none
  | k12 + 1, v505, v506, v507 => cond (decide (v507 < (v505.length : Int))) ((at? v505 v507).bind fun b558 => (Fspec_Var k12 b558.Kind).bind fun r559 => cond (decide (v506.length + r559.length ≤ 9223372036854775807)) ((at? v505 v507).bind fun b561 => (Fspec_Var k12 b561.N).bind fun r562 => cond (decide ((v506 ++ r559).length + r562.length ≤ 9223372036854775807)) ((at? v505 v507).bind fun b564 => (Fspec_Var k12 (b564.Set.length : Int)).bind fun r565 => cond (decide (((v506 ++ r559) ++ r562).length + r565.length ≤ 9223372036854775807)) (Fspec_ShowRules.l14 (Fspec_ShowRules.l12 k12) k12 v505 (((v506 ++ r559) ++ r562) ++ r565) v507 (0 : Int)) none) none) none) (some v506)
def Fspec_ShowRules (k : Nat) (a0 : List Timpl_Rule) : Option (List UInt8) := (Fspec_RulesOk k a0).bind fun r2 => cond (!r2) (some ([] : List UInt8)) ((Fspec_Var k (a0.length : Int)).bind fun r3 => Fspec_ShowRules.l12 k a0 r3 (0 : Int))
theorem ent68 : Enters Try.prog 68 := ⟨Try.f68, Try.func68, rfl, by decide⟩
set_option maxHeartbeats 8000000 in
set_option maxRecDepth 100000 in
theorem Fspec_ShowRules_gives (k : Nat) (g0 : Bool) (a0 : List Timpl_Rule) (r : List UInt8) (H : Fspec_ShowRules k a0 = some r) : Gives Try.prog 68 [V.one (Cell.sl g0 (List.map eTimpl_Rule a0))] [] [V.one (cS r)] [] := by
  refine Gives.intro Try.func68 rfl rfl rfl rfl ?_
  intro F hF hm
  unfold Fspec_ShowRules at H
  obtain ⟨K, hK⟩ : ∃ K, k ≤ K := ⟨k, Nat.le_refl k⟩
  refine WpC.seq ?_
  refine WpC.regionL ?_
  refine L.assign hF rfl rfl rfl ?_
  refine L.nil ?_
  refine WpC.seq ?_
  refine WpC.seq ?_
  refine WpC.regionL ?_
  refine L.move hF rfl rfl rfl ?_
  obtain ⟨r2, hr2, H⟩ := bindS H
  refine L.call [false] [] [] 1 hF rfl rfl rfl ent62 rfl rfl rfl rfl rfl (Fspec_RulesOk_gives k g0 a0 r2 hr2) rfl ?_
  refine L.not hF rfl rfl rfl ?_
  refine L.nil ?_
  refine WpC.cond rfl (fun hc => ?_) (fun hc => ?_)
  · replace H := condT hc H
    refine WpC.seq ?_
    refine WpC.regionL ?_
    refine L.assign hF rfl rfl rfl ?_
    refine L.nil ?_
    refine WpC.ret ?_
    cases H
    exact Leaves.ret rfl rfl rfl ⟨rfl, rfl⟩
  · replace H := condF hc H
    refine WpC.skip ?_
    refine WpC.seq ?_
    refine WpC.regionL ?_
    refine L.move hF rfl rfl rfl ?_
    refine L.lenR (xs := a0) (e := eTimpl_Rule) Try.underlying71 hF rfl rfl rfl rfl ?_
    obtain ⟨r3, hr3, H⟩ := bindS H
    refine L.call [false] [] [] 2 hF rfl rfl rfl ent127 rfl rfl rfl rfl rfl (Fspec_Var_gives k  (a0.length : Int) r3 hr3) rfl ?_
    refine L.assign hF rfl rfl rfl ?_
    refine L.nil ?_
    refine WpC.seq ?_
    refine WpC.seq ?_
    refine WpC.regionL ?_
    refine L.assign hF rfl rfl rfl ?_
    refine L.nil ?_
    refine WpC.block ?_
    refine WpC.loopL (P := Try.prog) (fun n σ => ∃ v505 : List Timpl_Rule, ∃ v506 : List UInt8, ∃ v507 : Int, n ≤ K ∧ Fspec_ShowRules.l12 n v505 v506 v507 = some r ∧ σ = mkSt [(0, one (Cell.sl g0 (List.map eTimpl_Rule v505))), (3, one (cS v506)), (4, one (cI v507))] [] [] 0) k ⟨_, ⟨a0, r3, (0 : Int), by omega, H, rfl⟩, Le.mk [] hm rfl ⟨⟨_, rfl, rfl⟩, ⟨_, rfl, rfl⟩, ⟨_, rfl, rfl⟩, trivial⟩ trivial trivial⟩ ?_
    clear H
    rintro k12 _ ⟨v505, v506, v507, hk12, H, rfl⟩
    cases k12 with
    | zero => cases H
    | succ k12 =>
      rw [Fspec_ShowRules.l12] at H
      refine WpC.seq ?_
      refine WpC.seq ?_
      refine WpC.regionL ?_
      refine L.move hF rfl rfl rfl ?_
      refine L.move hF rfl rfl rfl ?_
      refine L.lenR (xs := v505) (e := eTimpl_Rule) Try.underlying71 hF rfl rfl rfl rfl ?_
      refine L.bin hF rfl rfl rfl rfl rfl rfl ?_
      refine L.nil ?_
      refine WpC.cond rfl (fun hc => ?_) (fun hc => ?_)
      · replace H := condT hc H
        refine WpC.skip ?_
        refine WpC.seq ?_
        refine WpC.block ?_
        refine WpC.seq ?_
        obtain ⟨b558, hb558, H⟩ := bindS H
        obtain ⟨r559, hr559, H⟩ := bindS H
        obtain ⟨h560, H⟩ := condG H
        obtain ⟨b561, hb561, H⟩ := bindS H
        obtain ⟨r562, hr562, H⟩ := bindS H
        obtain ⟨h563, H⟩ := condG H
        obtain ⟨b564, hb564, H⟩ := bindS H
        obtain ⟨r565, hr565, H⟩ := bindS H
        obtain ⟨h566, H⟩ := condG H
        refine A.begin mixed rfl rfl ?_
        intro W hI hO
        have n16777215 : W 0 #[true, true, true, true, true, true, true, true, true, true, true, true, true, true, true, true, true, true, true, true, true, true, true, true] (mkSt [(0, one (Cell.sl g0 (List.map eTimpl_Rule v505))), (3, one (cS (((v506 ++ r559) ++ r562) ++ r565))), (4, one (cI v507))] [] [] 0) := by
          refine hI _ _ _ (A.done (by kernel_rfl) ?_)
          refine WpC.seq ?_
          refine WpC.regionL ?_
          refine L.assign hF rfl rfl rfl ?_
          refine L.nil ?_
          refine WpC.block ?_
          refine WpC.loopL (P := Try.prog) (fun n σ => ∃ v594 : List Timpl_Rule, ∃ v595 : List UInt8, ∃ v596 : Int, ∃ v597 : Int, n ≤ K ∧ Fspec_ShowRules.l14 (Fspec_ShowRules.l12 k12) n v594 v595 v596 v597 = some r ∧ σ = mkSt [(0, one (Cell.sl g0 (List.map eTimpl_Rule v594))), (3, one (cS v595)), (4, one (cI v596)), (5, one (cI v597))] [] [] 0) k12 ⟨_, ⟨v505, (((v506 ++ r559) ++ r562) ++ r565), v507, (0 : Int), by omega, H, rfl⟩, Le.mk [] hm rfl ⟨⟨_, rfl, rfl⟩, ⟨_, rfl, rfl⟩, ⟨_, rfl, rfl⟩, ⟨_, rfl, rfl⟩, trivial⟩ trivial trivial⟩ ?_
          clear H
          rintro k14 _ ⟨v594, v595, v596, v597, hk14, H, rfl⟩
          cases k14 with
          | zero => cases H
          | succ k14 =>
            rw [Fspec_ShowRules.l14] at H
            refine WpC.seq ?_
            refine WpC.seq ?_
            refine WpC.regionL ?_
            refine L.move hF rfl rfl rfl ?_
            refine L.move hF rfl rfl rfl ?_
            refine L.move hF rfl rfl rfl ?_
            obtain ⟨b599, hb599, H⟩ := bindS H
            refine L.idxR (xs := v594) (e := eTimpl_Rule) Try.underlying71 info133 hF rfl rfl rfl rfl rfl hb599 rfl rfl ?_
            refine L.fieldAddr Try.underlying133 rfl info77 rfl hF rfl rfl rfl rfl rfl ?_
            refine L.loadPe shape77 hF rfl rfl rfl rfl rfl ?_
            refine L.lenR (xs := b599.Set) (e := eI) Try.underlying77 hF rfl rfl rfl rfl ?_
            refine L.bin hF rfl rfl rfl rfl rfl rfl ?_
            refine L.nil ?_
            refine WpC.cond rfl (fun hc => ?_) (fun hc => ?_)
            · replace H := condT hc H
              refine WpC.skip ?_
              refine WpC.seq ?_
              refine WpC.block ?_
              refine WpC.regionL ?_
              refine L.move hF rfl rfl rfl ?_
              refine L.move hF rfl rfl rfl ?_
              refine L.move hF rfl rfl rfl ?_
              obtain ⟨b604, hb604, H⟩ := bindS H
              refine L.idxR (xs := v594) (e := eTimpl_Rule) Try.underlying71 info133 hF rfl rfl rfl rfl rfl hb604 rfl rfl ?_
              refine L.fieldAddr Try.underlying133 rfl info77 rfl hF rfl rfl rfl rfl rfl ?_
              refine L.loadPe shape77 hF rfl rfl rfl rfl rfl ?_
              refine L.move hF rfl rfl rfl ?_
              obtain ⟨b605, hb605, H⟩ := bindS H
              refine L.idxR (xs := b604.Set) (e := eI) Try.underlying77 info3 hF rfl rfl rfl rfl rfl hb605 rfl rfl ?_
              refine L.loadPe shape3 hF rfl rfl rfl rfl rfl ?_
              obtain ⟨r606, hr606, H⟩ := bindS H
              refine L.call [false] [] [] 0 hF rfl rfl rfl ent127 rfl rfl rfl rfl rfl (Fspec_Var_gives k14  b605 r606 hr606) rfl ?_
              obtain ⟨h607, H⟩ := condG H
              refine L.catS hF rfl rfl rfl rfl (of_decide_eq_true h607) ?_
              refine L.assign hF rfl rfl rfl ?_
              refine L.nil ?_
              refine WpC.regionL ?_
              refine L.move hF rfl rfl rfl ?_
              refine L.bin hF rfl rfl rfl rfl rfl rfl ?_
              refine L.assign hF rfl rfl rfl ?_
              refine L.nil ?_
              exact ⟨k14, _, by omega, ⟨v594, (v595 ++ r606), v596, (IntKind.i64.wrap (v597 + (1 : Int))), by omega, H, rfl⟩, Le.mk [] hm rfl ⟨⟨_, rfl, rfl⟩, ⟨_, rfl, rfl⟩, ⟨_, rfl, rfl⟩, ⟨_, rfl, rfl⟩, trivial⟩ trivial trivial⟩
            · replace H := condF hc H
              refine WpC.exit ?_
              refine WpC.regionL ?_
              refine L.move hF rfl rfl rfl ?_
              refine L.bin hF rfl rfl rfl rfl rfl rfl ?_
              refine L.assign hF rfl rfl rfl ?_
              refine L.nil ?_
              exact ⟨k12, _, by omega, ⟨v594, v595, (IntKind.i64.wrap (v596 + (1 : Int))), by omega, H, rfl⟩, Le.mk [] hm rfl ⟨⟨_, rfl, rfl⟩, ⟨_, rfl, rfl⟩, ⟨_, rfl, rfl⟩, trivial⟩ trivial trivial⟩
        have n8388607 : W 1 #[true, true, true, true, true, true, true, true, true, true, true, true, true, true, true, true, true, true, true, true, true, true, true, false] (mkSt [(0, one (Cell.sl g0 (List.map eTimpl_Rule v505))), (3, one (cS v506)), (4, one (cI v507)), (40, one (cS (((v506 ++ r559) ++ r562) ++ r565)))] [] [] 0) := by
          refine hI _ _ _ ?_
          refine A.take 23 rfl (by kernel_rfl) (by kernel_rfl) (by kernel_rfl) rfl (Ca.assign) (fun Q0 k0 => L.assign hF rfl rfl rfl (L.nil k0)) ?_
          exact A.on (hO _ _ _ n16777215) (Le.mk [] hm rfl ⟨⟨_, rfl, rfl⟩, ⟨_, rfl, rfl⟩, ⟨_, rfl, rfl⟩, trivial⟩ trivial trivial)
        have n4194303 : W 2 #[true, true, true, true, true, true, true, true, true, true, true, true, true, true, true, true, true, true, true, true, true, true, false, false] (mkSt [(0, one (Cell.sl g0 (List.map eTimpl_Rule v505))), (3, one (cS v506)), (4, one (cI v507)), (32, one (cS ((v506 ++ r559) ++ r562))), (39, one (cS r565))] [] [] 0) := by
          refine hI _ _ _ ?_
          refine A.take 22 rfl (by kernel_rfl) (by kernel_rfl) (by kernel_rfl) rfl (Ca.bin rfl rfl (calm_str _ _ _ _ _ _)) (fun Q0 k0 => L.catS hF rfl rfl rfl rfl (of_decide_eq_true h566) (L.nil k0)) ?_
          exact A.on (hO _ _ _ n8388607) (Le.mk [] hm rfl ⟨⟨_, rfl, rfl⟩, ⟨_, rfl, rfl⟩, ⟨_, rfl, rfl⟩, ⟨_, rfl, rfl⟩, trivial⟩ trivial trivial)
        have n2097151 : W 3 #[true, true, true, true, true, true, true, true, true, true, true, true, true, true, true, true, true, true, true, true, true, false, false, false] (mkSt [(0, one (Cell.sl g0 (List.map eTimpl_Rule v505))), (3, one (cS v506)), (4, one (cI v507)), (32, one (cS ((v506 ++ r559) ++ r562))), (38, one (cI (b564.Set.length : Int)))] [] [] 0) := by
          refine hI _ _ _ ?_
          refine A.all [21] (by kernel_rfl) rfl ⟨⟨_, rfl, ?_⟩, trivial⟩
          · refine L.call [false] [] [] 0 hF rfl rfl rfl ent127 rfl rfl rfl rfl rfl (Fspec_Var_gives k12  (b564.Set.length : Int) r565 hr565) rfl ?_
            refine L.nil ?_
            exact A.on (hO _ _ _ n4194303) (Le.mk [] hm rfl ⟨⟨_, rfl, rfl⟩, ⟨_, rfl, rfl⟩, ⟨_, rfl, rfl⟩, ⟨_, rfl, rfl⟩, ⟨_, rfl, rfl⟩, trivial⟩ trivial trivial)
        have n2080767 : W 4 #[true, true, true, true, true, true, true, true, true, true, true, true, true, true, false, true, true, true, true, true, true, false, false, false] (mkSt [(0, one (Cell.sl g0 (List.map eTimpl_Rule v505))), (3, one (cS v506)), (4, one (cI v507)), (25, one (cS (v506 ++ r559))), (31, one (cS r562)), (38, one (cI (b564.Set.length : Int)))] [] [] 0) := by
          refine hI _ _ _ ?_
          refine A.take 14 rfl (by kernel_rfl) (by kernel_rfl) (by kernel_rfl) rfl (Ca.bin rfl rfl (calm_str _ _ _ _ _ _)) (fun Q0 k0 => L.catS hF rfl rfl rfl rfl (of_decide_eq_true h563) (L.nil k0)) ?_
          exact A.on (hO _ _ _ n2097151) (Le.mk [] hm rfl ⟨⟨_, rfl, rfl⟩, ⟨_, rfl, rfl⟩, ⟨_, rfl, rfl⟩, ⟨_, rfl, rfl⟩, ⟨_, rfl, rfl⟩, trivial⟩ trivial trivial)
        have n1048575 : W 4 #[true, true, true, true, true, true, true, true, true, true, true, true, true, true, true, true, true, true, true, true, false, false, false, false] (mkSt [(0, one (Cell.sl g0 (List.map eTimpl_Rule v505))), (3, one (cS v506)), (4, one (cI v507)), (32, one (cS ((v506 ++ r559) ++ r562))), (37, one (Cell.sl true (List.map eI b564.Set)))] [] [] 0) := by
          refine hI _ _ _ ?_
          refine A.take 20 rfl (by kernel_rfl) (by kernel_rfl) (by kernel_rfl) rfl (Ca.lenR (xs := b564.Set) (e := eI) Try.underlying77 rfl rfl) (fun Q0 k0 => L.lenR (xs := b564.Set) (e := eI) Try.underlying77 hF rfl rfl rfl rfl (L.nil k0)) ?_
          exact A.on (hO _ _ _ n2097151) (Le.mk [] hm rfl ⟨⟨_, rfl, rfl⟩, ⟨_, rfl, rfl⟩, ⟨_, rfl, rfl⟩, ⟨_, rfl, rfl⟩, ⟨_, rfl, rfl⟩, trivial⟩ trivial trivial)
        have n524287 : W 5 #[true, true, true, true, true, true, true, true, true, true, true, true, true, true, true, true, true, true, true, false, false, false, false, false] (mkSt [(0, one (Cell.sl g0 (List.map eTimpl_Rule v505))), (3, one (cS v506)), (4, one (cI v507)), (32, one (cS ((v506 ++ r559) ++ r562))), (36, one (Cell.pe g0 (eTimpl_Rule b564) 1))] [] [] 0) := by
          refine hI _ _ _ ?_
          refine A.all [19] (by kernel_rfl) rfl ⟨⟨_, rfl, ?_⟩, trivial⟩
          · refine L.loadPe shape77 hF rfl rfl rfl rfl rfl ?_
            refine L.nil ?_
            exact A.on (hO _ _ _ n1048575) (Le.mk [] hm rfl ⟨⟨_, rfl, rfl⟩, ⟨_, rfl, rfl⟩, ⟨_, rfl, rfl⟩, ⟨_, rfl, rfl⟩, ⟨_, rfl, rfl⟩, trivial⟩ trivial trivial)
        have n2072575 : W 5 #[true, true, true, true, true, true, true, true, true, true, true, true, true, false, false, true, true, true, true, true, true, false, false, false] (mkSt [(0, one (Cell.sl g0 (List.map eTimpl_Rule v505))), (3, one (cS v506)), (4, one (cI v507)), (25, one (cS (v506 ++ r559))), (30, one (cI b561.N)), (38, one (cI (b564.Set.length : Int)))] [] [] 0) := by
          refine hI _ _ _ ?_
          refine A.all [13] (by kernel_rfl) rfl ⟨⟨_, rfl, ?_⟩, trivial⟩
          · refine L.call [false] [] [] 0 hF rfl rfl rfl ent127 rfl rfl rfl rfl rfl (Fspec_Var_gives k12  b561.N r562 hr562) rfl ?_
            refine L.nil ?_
            exact A.on (hO _ _ _ n2080767) (Le.mk [] hm rfl ⟨⟨_, rfl, rfl⟩, ⟨_, rfl, rfl⟩, ⟨_, rfl, rfl⟩, ⟨_, rfl, rfl⟩, ⟨_, rfl, rfl⟩, ⟨_, rfl, rfl⟩, trivial⟩ trivial trivial)
        have n2068479 : W 6 #[true, true, true, true, true, true, true, true, true, true, true, true, false, false, false, true, true, true, true, true, true, false, false, false] (mkSt [(0, one (Cell.sl g0 (List.map eTimpl_Rule v505))), (3, one (cS v506)), (4, one (cI v507)), (25, one (cS (v506 ++ r559))), (29, one (Cell.pe g0 (eTimpl_Rule b561) 2)), (38, one (cI (b564.Set.length : Int)))] [] [] 0) := by
          refine hI _ _ _ ?_
          refine A.all [12] (by kernel_rfl) rfl ⟨⟨_, rfl, ?_⟩, trivial⟩
          · refine L.loadPe shape3 hF rfl rfl rfl rfl rfl ?_
            refine L.nil ?_
            exact A.on (hO _ _ _ n2072575) (Le.mk [] hm rfl ⟨⟨_, rfl, rfl⟩, ⟨_, rfl, rfl⟩, ⟨_, rfl, rfl⟩, ⟨_, rfl, rfl⟩, ⟨_, rfl, rfl⟩, ⟨_, rfl, rfl⟩, trivial⟩ trivial trivial)
        have n1023999 : W 6 #[true, true, true, true, true, true, true, true, true, true, true, true, true, false, false, true, true, true, true, true, false, false, false, false] (mkSt [(0, one (Cell.sl g0 (List.map eTimpl_Rule v505))), (3, one (cS v506)), (4, one (cI v507)), (25, one (cS (v506 ++ r559))), (30, one (cI b561.N)), (37, one (Cell.sl true (List.map eI b564.Set)))] [] [] 0) := by
          refine hI _ _ _ ?_
          refine A.take 20 rfl (by kernel_rfl) (by kernel_rfl) (by kernel_rfl) rfl (Ca.lenR (xs := b564.Set) (e := eI) Try.underlying77 rfl rfl) (fun Q0 k0 => L.lenR (xs := b564.Set) (e := eI) Try.underlying77 hF rfl rfl rfl rfl (L.nil k0)) ?_
          exact A.on (hO _ _ _ n2072575) (Le.mk [] hm rfl ⟨⟨_, rfl, rfl⟩, ⟨_, rfl, rfl⟩, ⟨_, rfl, rfl⟩, ⟨_, rfl, rfl⟩, ⟨_, rfl, rfl⟩, ⟨_, rfl, rfl⟩, trivial⟩ trivial trivial)
        have n507903 : W 6 #[true, true, true, true, true, true, true, true, true, true, true, true, true, true, false, true, true, true, true, false, false, false, false, false] (mkSt [(0, one (Cell.sl g0 (List.map eTimpl_Rule v505))), (3, one (cS v506)), (4, one (cI v507)), (25, one (cS (v506 ++ r559))), (31, one (cS r562)), (36, one (Cell.pe g0 (eTimpl_Rule b564) 1))] [] [] 0) := by
          refine hI _ _ _ ?_
          refine A.take 14 rfl (by kernel_rfl) (by kernel_rfl) (by kernel_rfl) rfl (Ca.bin rfl rfl (calm_str _ _ _ _ _ _)) (fun Q0 k0 => L.catS hF rfl rfl rfl rfl (of_decide_eq_true h563) (L.nil k0)) ?_
          exact A.on (hO _ _ _ n524287) (Le.mk [] hm rfl ⟨⟨_, rfl, rfl⟩, ⟨_, rfl, rfl⟩, ⟨_, rfl, rfl⟩, ⟨_, rfl, rfl⟩, ⟨_, rfl, rfl⟩, trivial⟩ trivial trivial)
        have n2072447 : W 6 #[true, true, true, true, true, true, true, false, true, true, true, true, true, false, false, true, true, true, true, true, true, false, false, false] (mkSt [(0, one (Cell.sl g0 (List.map eTimpl_Rule v505))), (3, one (cS v506)), (4, one (cI v507)), (18, one (cS v506)), (24, one (cS r559)), (30, one (cI b561.N)), (38, one (cI (b564.Set.length : Int)))] [] [] 0) := by
          refine hI _ _ _ ?_
          refine A.take 7 rfl (by kernel_rfl) (by kernel_rfl) (by kernel_rfl) rfl (Ca.bin rfl rfl (calm_str _ _ _ _ _ _)) (fun Q0 k0 => L.catS hF rfl rfl rfl rfl (of_decide_eq_true h560) (L.nil k0)) ?_
          exact A.on (hO _ _ _ n2072575) (Le.mk [] hm rfl ⟨⟨_, rfl, rfl⟩, ⟨_, rfl, rfl⟩, ⟨_, rfl, rfl⟩, ⟨_, rfl, rfl⟩, ⟨_, rfl, rfl⟩, ⟨_, rfl, rfl⟩, trivial⟩ trivial trivial)
        have n2072383 : W 7 #[true, true, true, true, true, true, false, false, true, true, true, true, true, false, false, true, true, true, true, true, true, false, false, false] (mkSt [(0, one (Cell.sl g0 (List.map eTimpl_Rule v505))), (3, one (cS v506)), (4, one (cI v507)), (18, one (cS v506)), (23, one (cI b558.Kind)), (30, one (cI b561.N)), (38, one (cI (b564.Set.length : Int)))] [] [] 0) := by
          refine hI _ _ _ ?_
          refine A.all [6] (by kernel_rfl) rfl ⟨⟨_, rfl, ?_⟩, trivial⟩
          · refine L.call [false] [] [] 0 hF rfl rfl rfl ent127 rfl rfl rfl rfl rfl (Fspec_Var_gives k12  b558.Kind r559 hr559) rfl ?_
            refine L.nil ?_
            exact A.on (hO _ _ _ n2072447) (Le.mk [] hm rfl ⟨⟨_, rfl, rfl⟩, ⟨_, rfl, rfl⟩, ⟨_, rfl, rfl⟩, ⟨_, rfl, rfl⟩, ⟨_, rfl, rfl⟩, ⟨_, rfl, rfl⟩, ⟨_, rfl, rfl⟩, trivial⟩ trivial trivial)
        have n1019903 : W 7 #[true, true, true, true, true, true, true, true, true, true, true, true, false, false, false, true, true, true, true, true, false, false, false, false] (mkSt [(0, one (Cell.sl g0 (List.map eTimpl_Rule v505))), (3, one (cS v506)), (4, one (cI v507)), (25, one (cS (v506 ++ r559))), (29, one (Cell.pe g0 (eTimpl_Rule b561) 2)), (37, one (Cell.sl true (List.map eI b564.Set)))] [] [] 0) := by
          refine hI _ _ _ ?_
          refine A.take 20 rfl (by kernel_rfl) (by kernel_rfl) (by kernel_rfl) rfl (Ca.lenR (xs := b564.Set) (e := eI) Try.underlying77 rfl rfl) (fun Q0 k0 => L.lenR (xs := b564.Set) (e := eI) Try.underlying77 hF rfl rfl rfl rfl (L.nil k0)) ?_
          exact A.on (hO _ _ _ n2068479) (Le.mk [] hm rfl ⟨⟨_, rfl, rfl⟩, ⟨_, rfl, rfl⟩, ⟨_, rfl, rfl⟩, ⟨_, rfl, rfl⟩, ⟨_, rfl, rfl⟩, ⟨_, rfl, rfl⟩, trivial⟩ trivial trivial)
        have n499711 : W 7 #[true, true, true, true, true, true, true, true, true, true, true, true, true, false, false, true, true, true, true, false, false, false, false, false] (mkSt [(0, one (Cell.sl g0 (List.map eTimpl_Rule v505))), (3, one (cS v506)), (4, one (cI v507)), (25, one (cS (v506 ++ r559))), (30, one (cI b561.N)), (36, one (Cell.pe g0 (eTimpl_Rule b564) 1))] [] [] 0) := by
          refine hI _ _ _ ?_
          refine A.all [13, 19] (by kernel_rfl) rfl ⟨⟨_, rfl, ?_⟩, ⟨_, rfl, ?_⟩, trivial⟩
          · refine L.call [false] [] [] 0 hF rfl rfl rfl ent127 rfl rfl rfl rfl rfl (Fspec_Var_gives k12  b561.N r562 hr562) rfl ?_
            refine L.nil ?_
            exact A.on (hO _ _ _ n507903) (Le.mk [] hm rfl ⟨⟨_, rfl, rfl⟩, ⟨_, rfl, rfl⟩, ⟨_, rfl, rfl⟩, ⟨_, rfl, rfl⟩, ⟨_, rfl, rfl⟩, ⟨_, rfl, rfl⟩, trivial⟩ trivial trivial)
          · refine L.loadPe shape77 hF rfl rfl rfl rfl rfl ?_
            refine L.nil ?_
            exact A.on (hO _ _ _ n1023999) (Le.mk [] hm rfl ⟨⟨_, rfl, rfl⟩, ⟨_, rfl, rfl⟩, ⟨_, rfl, rfl⟩, ⟨_, rfl, rfl⟩, ⟨_, rfl, rfl⟩, ⟨_, rfl, rfl⟩, trivial⟩ trivial trivial)
        have n2068351 : W 7 #[true, true, true, true, true, true, true, false, true, true, true, true, false, false, false, true, true, true, true, true, true, false, false, false] (mkSt [(0, one (Cell.sl g0 (List.map eTimpl_Rule v505))), (3, one (cS v506)), (4, one (cI v507)), (18, one (cS v506)), (24, one (cS r559)), (29, one (Cell.pe g0 (eTimpl_Rule b561) 2)), (38, one (cI (b564.Set.length : Int)))] [] [] 0) := by
          refine hI _ _ _ ?_
          refine A.take 7 rfl (by kernel_rfl) (by kernel_rfl) (by kernel_rfl) rfl (Ca.bin rfl rfl (calm_str _ _ _ _ _ _)) (fun Q0 k0 => L.catS hF rfl rfl rfl rfl (of_decide_eq_true h560) (L.nil k0)) ?_
          exact A.on (hO _ _ _ n2068479) (Le.mk [] hm rfl ⟨⟨_, rfl, rfl⟩, ⟨_, rfl, rfl⟩, ⟨_, rfl, rfl⟩, ⟨_, rfl, rfl⟩, ⟨_, rfl, rfl⟩, ⟨_, rfl, rfl⟩, trivial⟩ trivial trivial)
        have n2072351 : W 8 #[true, true, true, true, true, false, false, false, true, true, true, true, true, false, false, true, true, true, true, true, true, false, false, false] (mkSt [(0, one (Cell.sl g0 (List.map eTimpl_Rule v505))), (3, one (cS v506)), (4, one (cI v507)), (18, one (cS v506)), (22, one (Cell.pe g0 (eTimpl_Rule b558) 0)), (30, one (cI b561.N)), (38, one (cI (b564.Set.length : Int)))] [] [] 0) := by
          refine hI _ _ _ ?_
          refine A.all [5] (by kernel_rfl) rfl ⟨⟨_, rfl, ?_⟩, trivial⟩
          · refine L.loadPe shape3 hF rfl rfl rfl rfl rfl ?_
            refine L.nil ?_
            exact A.on (hO _ _ _ n2072383) (Le.mk [] hm rfl ⟨⟨_, rfl, rfl⟩, ⟨_, rfl, rfl⟩, ⟨_, rfl, rfl⟩, ⟨_, rfl, rfl⟩, ⟨_, rfl, rfl⟩, ⟨_, rfl, rfl⟩, ⟨_, rfl, rfl⟩, trivial⟩ trivial trivial)
        have n499583 : W 8 #[true, true, true, true, true, true, true, false, true, true, true, true, true, false, false, true, true, true, true, false, false, false, false, false] (mkSt [(0, one (Cell.sl g0 (List.map eTimpl_Rule v505))), (3, one (cS v506)), (4, one (cI v507)), (18, one (cS v506)), (24, one (cS r559)), (30, one (cI b561.N)), (36, one (Cell.pe g0 (eTimpl_Rule b564) 1))] [] [] 0) := by
          refine hI _ _ _ ?_
          refine A.take 7 rfl (by kernel_rfl) (by kernel_rfl) (by kernel_rfl) rfl (Ca.bin rfl rfl (calm_str _ _ _ _ _ _)) (fun Q0 k0 => L.catS hF rfl rfl rfl rfl (of_decide_eq_true h560) (L.nil k0)) ?_
          exact A.on (hO _ _ _ n499711) (Le.mk [] hm rfl ⟨⟨_, rfl, rfl⟩, ⟨_, rfl, rfl⟩, ⟨_, rfl, rfl⟩, ⟨_, rfl, rfl⟩, ⟨_, rfl, rfl⟩, ⟨_, rfl, rfl⟩, trivial⟩ trivial trivial)
        have n2068287 : W 8 #[true, true, true, true, true, true, false, false, true, true, true, true, false, false, false, true, true, true, true, true, true, false, false, false] (mkSt [(0, one (Cell.sl g0 (List.map eTimpl_Rule v505))), (3, one (cS v506)), (4, one (cI v507)), (18, one (cS v506)), (23, one (cI b558.Kind)), (29, one (Cell.pe g0 (eTimpl_Rule b561) 2)), (38, one (cI (b564.Set.length : Int)))] [] [] 0) := by
          refine hI _ _ _ ?_
          refine A.all [6, 12] (by kernel_rfl) rfl ⟨⟨_, rfl, ?_⟩, ⟨_, rfl, ?_⟩, trivial⟩
          · refine L.call [false] [] [] 0 hF rfl rfl rfl ent127 rfl rfl rfl rfl rfl (Fspec_Var_gives k12  b558.Kind r559 hr559) rfl ?_
            refine L.nil ?_
            exact A.on (hO _ _ _ n2068351) (Le.mk [] hm rfl ⟨⟨_, rfl, rfl⟩, ⟨_, rfl, rfl⟩, ⟨_, rfl, rfl⟩, ⟨_, rfl, rfl⟩, ⟨_, rfl, rfl⟩, ⟨_, rfl, rfl⟩, ⟨_, rfl, rfl⟩, trivial⟩ trivial trivial)
          · refine L.loadPe shape3 hF rfl rfl rfl rfl rfl ?_
            refine L.nil ?_
            exact A.on (hO _ _ _ n2072383) (Le.mk [] hm rfl ⟨⟨_, rfl, rfl⟩, ⟨_, rfl, rfl⟩, ⟨_, rfl, rfl⟩, ⟨_, rfl, rfl⟩, ⟨_, rfl, rfl⟩, ⟨_, rfl, rfl⟩, ⟨_, rfl, rfl⟩, trivial⟩ trivial trivial)
        have n1023807 : W 8 #[true, true, true, true, true, true, false, false, true, true, true, true, true, false, false, true, true, true, true, true, false, false, false, false] (mkSt [(0, one (Cell.sl g0 (List.map eTimpl_Rule v505))), (3, one (cS v506)), (4, one (cI v507)), (18, one (cS v506)), (23, one (cI b558.Kind)), (30, one (cI b561.N)), (37, one (Cell.sl true (List.map eI b564.Set)))] [] [] 0) := by
          refine hI _ _ _ ?_
          refine A.take 20 rfl (by kernel_rfl) (by kernel_rfl) (by kernel_rfl) rfl (Ca.lenR (xs := b564.Set) (e := eI) Try.underlying77 rfl rfl) (fun Q0 k0 => L.lenR (xs := b564.Set) (e := eI) Try.underlying77 hF rfl rfl rfl rfl (L.nil k0)) ?_
          exact A.on (hO _ _ _ n2072383) (Le.mk [] hm rfl ⟨⟨_, rfl, rfl⟩, ⟨_, rfl, rfl⟩, ⟨_, rfl, rfl⟩, ⟨_, rfl, rfl⟩, ⟨_, rfl, rfl⟩, ⟨_, rfl, rfl⟩, ⟨_, rfl, rfl⟩, trivial⟩ trivial trivial)
        have n495615 : W 8 #[true, true, true, true, true, true, true, true, true, true, true, true, false, false, false, true, true, true, true, false, false, false, false, false] (mkSt [(0, one (Cell.sl g0 (List.map eTimpl_Rule v505))), (3, one (cS v506)), (4, one (cI v507)), (25, one (cS (v506 ++ r559))), (29, one (Cell.pe g0 (eTimpl_Rule b561) 2)), (36, one (Cell.pe g0 (eTimpl_Rule b564) 1))] [] [] 0) := by
          refine hI _ _ _ ?_
          refine A.all [12, 19] (by kernel_rfl) rfl ⟨⟨_, rfl, ?_⟩, ⟨_, rfl, ?_⟩, trivial⟩
          · refine L.loadPe shape3 hF rfl rfl rfl rfl rfl ?_
            refine L.nil ?_
            exact A.on (hO _ _ _ n499711) (Le.mk [] hm rfl ⟨⟨_, rfl, rfl⟩, ⟨_, rfl, rfl⟩, ⟨_, rfl, rfl⟩, ⟨_, rfl, rfl⟩, ⟨_, rfl, rfl⟩, ⟨_, rfl, rfl⟩, trivial⟩ trivial trivial)
          · refine L.loadPe shape77 hF rfl rfl rfl rfl rfl ?_
            refine L.nil ?_
            exact A.on (hO _ _ _ n1019903) (Le.mk [] hm rfl ⟨⟨_, rfl, rfl⟩, ⟨_, rfl, rfl⟩, ⟨_, rfl, rfl⟩, ⟨_, rfl, rfl⟩, ⟨_, rfl, rfl⟩, ⟨_, rfl, rfl⟩, trivial⟩ trivial trivial)
        have n1023775 : W 9 #[true, true, true, true, true, false, false, false, true, true, true, true, true, false, false, true, true, true, true, true, false, false, false, false] (mkSt [(0, one (Cell.sl g0 (List.map eTimpl_Rule v505))), (3, one (cS v506)), (4, one (cI v507)), (18, one (cS v506)), (22, one (Cell.pe g0 (eTimpl_Rule b558) 0)), (30, one (cI b561.N)), (37, one (Cell.sl true (List.map eI b564.Set)))] [] [] 0) := by
          refine hI _ _ _ ?_
          refine A.take 20 rfl (by kernel_rfl) (by kernel_rfl) (by kernel_rfl) rfl (Ca.lenR (xs := b564.Set) (e := eI) Try.underlying77 rfl rfl) (fun Q0 k0 => L.lenR (xs := b564.Set) (e := eI) Try.underlying77 hF rfl rfl rfl rfl (L.nil k0)) ?_
          exact A.on (hO _ _ _ n2072351) (Le.mk [] hm rfl ⟨⟨_, rfl, rfl⟩, ⟨_, rfl, rfl⟩, ⟨_, rfl, rfl⟩, ⟨_, rfl, rfl⟩, ⟨_, rfl, rfl⟩, ⟨_, rfl, rfl⟩, ⟨_, rfl, rfl⟩, trivial⟩ trivial trivial)
        have n2068255 : W 9 #[true, true, true, true, true, false, false, false, true, true, true, true, false, false, false, true, true, true, true, true, true, false, false, false] (mkSt [(0, one (Cell.sl g0 (List.map eTimpl_Rule v505))), (3, one (cS v506)), (4, one (cI v507)), (18, one (cS v506)), (22, one (Cell.pe g0 (eTimpl_Rule b558) 0)), (29, one (Cell.pe g0 (eTimpl_Rule b561) 2)), (38, one (cI (b564.Set.length : Int)))] [] [] 0) := by
          refine hI _ _ _ ?_
          refine A.all [5, 12] (by kernel_rfl) rfl ⟨⟨_, rfl, ?_⟩, ⟨_, rfl, ?_⟩, trivial⟩
          · refine L.loadPe shape3 hF rfl rfl rfl rfl rfl ?_
            refine L.nil ?_
            exact A.on (hO _ _ _ n2068287) (Le.mk [] hm rfl ⟨⟨_, rfl, rfl⟩, ⟨_, rfl, rfl⟩, ⟨_, rfl, rfl⟩, ⟨_, rfl, rfl⟩, ⟨_, rfl, rfl⟩, ⟨_, rfl, rfl⟩, ⟨_, rfl, rfl⟩, trivial⟩ trivial trivial)
          · refine L.loadPe shape3 hF rfl rfl rfl rfl rfl ?_
            refine L.nil ?_
            exact A.on (hO _ _ _ n2072351) (Le.mk [] hm rfl ⟨⟨_, rfl, rfl⟩, ⟨_, rfl, rfl⟩, ⟨_, rfl, rfl⟩, ⟨_, rfl, rfl⟩, ⟨_, rfl, rfl⟩, ⟨_, rfl, rfl⟩, ⟨_, rfl, rfl⟩, trivial⟩ trivial trivial)
        have n495487 : W 9 #[true, true, true, true, true, true, true, false, true, true, true, true, false, false, false, true, true, true, true, false, false, false, false, false] (mkSt [(0, one (Cell.sl g0 (List.map eTimpl_Rule v505))), (3, one (cS v506)), (4, one (cI v507)), (18, one (cS v506)), (24, one (cS r559)), (29, one (Cell.pe g0 (eTimpl_Rule b561) 2)), (36, one (Cell.pe g0 (eTimpl_Rule b564) 1))] [] [] 0) := by
          refine hI _ _ _ ?_
          refine A.take 7 rfl (by kernel_rfl) (by kernel_rfl) (by kernel_rfl) rfl (Ca.bin rfl rfl (calm_str _ _ _ _ _ _)) (fun Q0 k0 => L.catS hF rfl rfl rfl rfl (of_decide_eq_true h560) (L.nil k0)) ?_
          exact A.on (hO _ _ _ n495615) (Le.mk [] hm rfl ⟨⟨_, rfl, rfl⟩, ⟨_, rfl, rfl⟩, ⟨_, rfl, rfl⟩, ⟨_, rfl, rfl⟩, ⟨_, rfl, rfl⟩, ⟨_, rfl, rfl⟩, trivial⟩ trivial trivial)
        have n499519 : W 9 #[true, true, true, true, true, true, false, false, true, true, true, true, true, false, false, true, true, true, true, false, false, false, false, false] (mkSt [(0, one (Cell.sl g0 (List.map eTimpl_Rule v505))), (3, one (cS v506)), (4, one (cI v507)), (18, one (cS v506)), (23, one (cI b558.Kind)), (30, one (cI b561.N)), (36, one (Cell.pe g0 (eTimpl_Rule b564) 1))] [] [] 0) := by
          refine hI _ _ _ ?_
          refine A.all [6, 19] (by kernel_rfl) rfl ⟨⟨_, rfl, ?_⟩, ⟨_, rfl, ?_⟩, trivial⟩
          · refine L.call [false] [] [] 0 hF rfl rfl rfl ent127 rfl rfl rfl rfl rfl (Fspec_Var_gives k12  b558.Kind r559 hr559) rfl ?_
            refine L.nil ?_
            exact A.on (hO _ _ _ n499583) (Le.mk [] hm rfl ⟨⟨_, rfl, rfl⟩, ⟨_, rfl, rfl⟩, ⟨_, rfl, rfl⟩, ⟨_, rfl, rfl⟩, ⟨_, rfl, rfl⟩, ⟨_, rfl, rfl⟩, ⟨_, rfl, rfl⟩, trivial⟩ trivial trivial)
          · refine L.loadPe shape77 hF rfl rfl rfl rfl rfl ?_
            refine L.nil ?_
            exact A.on (hO _ _ _ n1023807) (Le.mk [] hm rfl ⟨⟨_, rfl, rfl⟩, ⟨_, rfl, rfl⟩, ⟨_, rfl, rfl⟩, ⟨_, rfl, rfl⟩, ⟨_, rfl, rfl⟩, ⟨_, rfl, rfl⟩, ⟨_, rfl, rfl⟩, trivial⟩ trivial trivial)
        have n1019711 : W 9 #[true, true, true, true, true, true, false, false, true, true, true, true, false, false, false, true, true, true, true, true, false, false, false, false] (mkSt [(0, one (Cell.sl g0 (List.map eTimpl_Rule v505))), (3, one (cS v506)), (4, one (cI v507)), (18, one (cS v506)), (23, one (cI b558.Kind)), (29, one (Cell.pe g0 (eTimpl_Rule b561) 2)), (37, one (Cell.sl true (List.map eI b564.Set)))] [] [] 0) := by
          refine hI _ _ _ ?_
          refine A.take 20 rfl (by kernel_rfl) (by kernel_rfl) (by kernel_rfl) rfl (Ca.lenR (xs := b564.Set) (e := eI) Try.underlying77 rfl rfl) (fun Q0 k0 => L.lenR (xs := b564.Set) (e := eI) Try.underlying77 hF rfl rfl rfl rfl (L.nil k0)) ?_
          exact A.on (hO _ _ _ n2068287) (Le.mk [] hm rfl ⟨⟨_, rfl, rfl⟩, ⟨_, rfl, rfl⟩, ⟨_, rfl, rfl⟩, ⟨_, rfl, rfl⟩, ⟨_, rfl, rfl⟩, ⟨_, rfl, rfl⟩, ⟨_, rfl, rfl⟩, trivial⟩ trivial trivial)
        have n1019679 : W 10 #[true, true, true, true, true, false, false, false, true, true, true, true, false, false, false, true, true, true, true, true, false, false, false, false] (mkSt [(0, one (Cell.sl g0 (List.map eTimpl_Rule v505))), (3, one (cS v506)), (4, one (cI v507)), (18, one (cS v506)), (22, one (Cell.pe g0 (eTimpl_Rule b558) 0)), (29, one (Cell.pe g0 (eTimpl_Rule b561) 2)), (37, one (Cell.sl true (List.map eI b564.Set)))] [] [] 0) := by
          refine hI _ _ _ ?_
          refine A.take 20 rfl (by kernel_rfl) (by kernel_rfl) (by kernel_rfl) rfl (Ca.lenR (xs := b564.Set) (e := eI) Try.underlying77 rfl rfl) (fun Q0 k0 => L.lenR (xs := b564.Set) (e := eI) Try.underlying77 hF rfl rfl rfl rfl (L.nil k0)) ?_
          exact A.on (hO _ _ _ n2068255) (Le.mk [] hm rfl ⟨⟨_, rfl, rfl⟩, ⟨_, rfl, rfl⟩, ⟨_, rfl, rfl⟩, ⟨_, rfl, rfl⟩, ⟨_, rfl, rfl⟩, ⟨_, rfl, rfl⟩, ⟨_, rfl, rfl⟩, trivial⟩ trivial trivial)
        have n499487 : W 10 #[true, true, true, true, true, false, false, false, true, true, true, true, true, false, false, true, true, true, true, false, false, false, false, false] (mkSt [(0, one (Cell.sl g0 (List.map eTimpl_Rule v505))), (3, one (cS v506)), (4, one (cI v507)), (18, one (cS v506)), (22, one (Cell.pe g0 (eTimpl_Rule b558) 0)), (30, one (cI b561.N)), (36, one (Cell.pe g0 (eTimpl_Rule b564) 1))] [] [] 0) := by
          refine hI _ _ _ ?_
          refine A.all [5, 19] (by kernel_rfl) rfl ⟨⟨_, rfl, ?_⟩, ⟨_, rfl, ?_⟩, trivial⟩
          · refine L.loadPe shape3 hF rfl rfl rfl rfl rfl ?_
            refine L.nil ?_
            exact A.on (hO _ _ _ n499519) (Le.mk [] hm rfl ⟨⟨_, rfl, rfl⟩, ⟨_, rfl, rfl⟩, ⟨_, rfl, rfl⟩, ⟨_, rfl, rfl⟩, ⟨_, rfl, rfl⟩, ⟨_, rfl, rfl⟩, ⟨_, rfl, rfl⟩, trivial⟩ trivial trivial)
          · refine L.loadPe shape77 hF rfl rfl rfl rfl rfl ?_
            refine L.nil ?_
            exact A.on (hO _ _ _ n1023775) (Le.mk [] hm rfl ⟨⟨_, rfl, rfl⟩, ⟨_, rfl, rfl⟩, ⟨_, rfl, rfl⟩, ⟨_, rfl, rfl⟩, ⟨_, rfl, rfl⟩, ⟨_, rfl, rfl⟩, ⟨_, rfl, rfl⟩, trivial⟩ trivial trivial)
        have n495423 : W 10 #[true, true, true, true, true, true, false, false, true, true, true, true, false, false, false, true, true, true, true, false, false, false, false, false] (mkSt [(0, one (Cell.sl g0 (List.map eTimpl_Rule v505))), (3, one (cS v506)), (4, one (cI v507)), (18, one (cS v506)), (23, one (cI b558.Kind)), (29, one (Cell.pe g0 (eTimpl_Rule b561) 2)), (36, one (Cell.pe g0 (eTimpl_Rule b564) 1))] [] [] 0) := by
          refine hI _ _ _ ?_
          refine A.all [6, 12, 19] (by kernel_rfl) rfl ⟨⟨_, rfl, ?_⟩, ⟨_, rfl, ?_⟩, ⟨_, rfl, ?_⟩, trivial⟩
          · refine L.call [false] [] [] 0 hF rfl rfl rfl ent127 rfl rfl rfl rfl rfl (Fspec_Var_gives k12  b558.Kind r559 hr559) rfl ?_
            refine L.nil ?_
            exact A.on (hO _ _ _ n495487) (Le.mk [] hm rfl ⟨⟨_, rfl, rfl⟩, ⟨_, rfl, rfl⟩, ⟨_, rfl, rfl⟩, ⟨_, rfl, rfl⟩, ⟨_, rfl, rfl⟩, ⟨_, rfl, rfl⟩, ⟨_, rfl, rfl⟩, trivial⟩ trivial trivial)
          · refine L.loadPe shape3 hF rfl rfl rfl rfl rfl ?_
            refine L.nil ?_
            exact A.on (hO _ _ _ n499519) (Le.mk [] hm rfl ⟨⟨_, rfl, rfl⟩, ⟨_, rfl, rfl⟩, ⟨_, rfl, rfl⟩, ⟨_, rfl, rfl⟩, ⟨_, rfl, rfl⟩, ⟨_, rfl, rfl⟩, ⟨_, rfl, rfl⟩, trivial⟩ trivial trivial)
          · refine L.loadPe shape77 hF rfl rfl rfl rfl rfl ?_
            refine L.nil ?_
            exact A.on (hO _ _ _ n1019711) (Le.mk [] hm rfl ⟨⟨_, rfl, rfl⟩, ⟨_, rfl, rfl⟩, ⟨_, rfl, rfl⟩, ⟨_, rfl, rfl⟩, ⟨_, rfl, rfl⟩, ⟨_, rfl, rfl⟩, ⟨_, rfl, rfl⟩, trivial⟩ trivial trivial)
        have n495391 : W 11 #[true, true, true, true, true, false, false, false, true, true, true, true, false, false, false, true, true, true, true, false, false, false, false, false] (mkSt [(0, one (Cell.sl g0 (List.map eTimpl_Rule v505))), (3, one (cS v506)), (4, one (cI v507)), (18, one (cS v506)), (22, one (Cell.pe g0 (eTimpl_Rule b558) 0)), (29, one (Cell.pe g0 (eTimpl_Rule b561) 2)), (36, one (Cell.pe g0 (eTimpl_Rule b564) 1))] [] [] 0) := by
          refine hI _ _ _ ?_
          refine A.all [5, 12, 19] (by kernel_rfl) rfl ⟨⟨_, rfl, ?_⟩, ⟨_, rfl, ?_⟩, ⟨_, rfl, ?_⟩, trivial⟩
          · refine L.loadPe shape3 hF rfl rfl rfl rfl rfl ?_
            refine L.nil ?_
            exact A.on (hO _ _ _ n495423) (Le.mk [] hm rfl ⟨⟨_, rfl, rfl⟩, ⟨_, rfl, rfl⟩, ⟨_, rfl, rfl⟩, ⟨_, rfl, rfl⟩, ⟨_, rfl, rfl⟩, ⟨_, rfl, rfl⟩, ⟨_, rfl, rfl⟩, trivial⟩ trivial trivial)
          · refine L.loadPe shape3 hF rfl rfl rfl rfl rfl ?_
            refine L.nil ?_
            exact A.on (hO _ _ _ n499487) (Le.mk [] hm rfl ⟨⟨_, rfl, rfl⟩, ⟨_, rfl, rfl⟩, ⟨_, rfl, rfl⟩, ⟨_, rfl, rfl⟩, ⟨_, rfl, rfl⟩, ⟨_, rfl, rfl⟩, ⟨_, rfl, rfl⟩, trivial⟩ trivial trivial)
          · refine L.loadPe shape77 hF rfl rfl rfl rfl rfl ?_
            refine L.nil ?_
            exact A.on (hO _ _ _ n1019679) (Le.mk [] hm rfl ⟨⟨_, rfl, rfl⟩, ⟨_, rfl, rfl⟩, ⟨_, rfl, rfl⟩, ⟨_, rfl, rfl⟩, ⟨_, rfl, rfl⟩, ⟨_, rfl, rfl⟩, ⟨_, rfl, rfl⟩, trivial⟩ trivial trivial)
        have n233247 : W 12 #[true, true, true, true, true, false, false, false, true, true, true, true, false, false, false, true, true, true, false, false, false, false, false, false] (mkSt [(0, one (Cell.sl g0 (List.map eTimpl_Rule v505))), (3, one (cS v506)), (4, one (cI v507)), (18, one (cS v506)), (22, one (Cell.pe g0 (eTimpl_Rule b558) 0)), (29, one (Cell.pe g0 (eTimpl_Rule b561) 2)), (35, one (Cell.pe g0 (eTimpl_Rule b564) 0))] [] [] 0) := by
          refine hI _ _ _ ?_
          refine A.take 18 rfl (by kernel_rfl) (by kernel_rfl) (by kernel_rfl) rfl (Ca.fieldAddr Try.underlying133 rfl info77 rfl) (fun Q0 k0 => L.fieldAddr Try.underlying133 rfl info77 rfl hF rfl rfl rfl rfl rfl (L.nil k0)) ?_
          exact A.on (hO _ _ _ n495391) (Le.mk [] hm rfl ⟨⟨_, rfl, rfl⟩, ⟨_, rfl, rfl⟩, ⟨_, rfl, rfl⟩, ⟨_, rfl, rfl⟩, ⟨_, rfl, rfl⟩, ⟨_, rfl, rfl⟩, ⟨_, rfl, rfl⟩, trivial⟩ trivial trivial)
        have n102175 : W 13 #[true, true, true, true, true, false, false, false, true, true, true, true, false, false, false, true, true, false, false, false, false, false, false, false] (mkSt [(0, one (Cell.sl g0 (List.map eTimpl_Rule v505))), (3, one (cS v506)), (4, one (cI v507)), (18, one (cS v506)), (22, one (Cell.pe g0 (eTimpl_Rule b558) 0)), (29, one (Cell.pe g0 (eTimpl_Rule b561) 2)), (33, one (Cell.sl g0 (List.map eTimpl_Rule v505))), (34, one (cI v507))] [] [] 0) := by
          refine hI _ _ _ ?_
          refine A.take 17 rfl (by kernel_rfl) (by kernel_rfl) (by kernel_rfl) rfl (Ca.indexAddr) (fun Q0 k0 => L.idxR (xs := v505) (e := eTimpl_Rule) Try.underlying71 info133 hF rfl rfl rfl rfl rfl hb564 rfl rfl (L.nil k0)) ?_
          exact A.on (hO _ _ _ n233247) (Le.mk [] hm rfl ⟨⟨_, rfl, rfl⟩, ⟨_, rfl, rfl⟩, ⟨_, rfl, rfl⟩, ⟨_, rfl, rfl⟩, ⟨_, rfl, rfl⟩, ⟨_, rfl, rfl⟩, ⟨_, rfl, rfl⟩, trivial⟩ trivial trivial)
        have n36639 : W 14 #[true, true, true, true, true, false, false, false, true, true, true, true, false, false, false, true, false, false, false, false, false, false, false, false] (mkSt [(0, one (Cell.sl g0 (List.map eTimpl_Rule v505))), (3, one (cS v506)), (4, one (cI v507)), (18, one (cS v506)), (22, one (Cell.pe g0 (eTimpl_Rule b558) 0)), (29, one (Cell.pe g0 (eTimpl_Rule b561) 2)), (33, one (Cell.sl g0 (List.map eTimpl_Rule v505)))] [] [] 0) := by
          refine hI _ _ _ ?_
          refine A.take 16 rfl (by kernel_rfl) (by kernel_rfl) (by kernel_rfl) rfl (Ca.move) (fun Q0 k0 => L.move hF rfl rfl rfl (L.nil k0)) ?_
          exact A.on (hO _ _ _ n102175) (Le.mk [] hm rfl ⟨⟨_, rfl, rfl⟩, ⟨_, rfl, rfl⟩, ⟨_, rfl, rfl⟩, ⟨_, rfl, rfl⟩, ⟨_, rfl, rfl⟩, ⟨_, rfl, rfl⟩, ⟨_, rfl, rfl⟩, ⟨_, rfl, rfl⟩, trivial⟩ trivial trivial)
        have n3871 : W 15 #[true, true, true, true, true, false, false, false, true, true, true, true, false, false, false, false, false, false, false, false, false, false, false, false] (mkSt [(0, one (Cell.sl g0 (List.map eTimpl_Rule v505))), (3, one (cS v506)), (4, one (cI v507)), (18, one (cS v506)), (22, one (Cell.pe g0 (eTimpl_Rule b558) 0)), (29, one (Cell.pe g0 (eTimpl_Rule b561) 2))] [] [] 0) := by
          refine hI _ _ _ ?_
          refine A.take 15 rfl (by kernel_rfl) (by kernel_rfl) (by kernel_rfl) rfl (Ca.move) (fun Q0 k0 => L.move hF rfl rfl rfl (L.nil k0)) ?_
          exact A.on (hO _ _ _ n36639) (Le.mk [] hm rfl ⟨⟨_, rfl, rfl⟩, ⟨_, rfl, rfl⟩, ⟨_, rfl, rfl⟩, ⟨_, rfl, rfl⟩, ⟨_, rfl, rfl⟩, ⟨_, rfl, rfl⟩, ⟨_, rfl, rfl⟩, trivial⟩ trivial trivial)
        have n1823 : W 16 #[true, true, true, true, true, false, false, false, true, true, true, false, false, false, false, false, false, false, false, false, false, false, false, false] (mkSt [(0, one (Cell.sl g0 (List.map eTimpl_Rule v505))), (3, one (cS v506)), (4, one (cI v507)), (18, one (cS v506)), (22, one (Cell.pe g0 (eTimpl_Rule b558) 0)), (28, one (Cell.pe g0 (eTimpl_Rule b561) 0))] [] [] 0) := by
          refine hI _ _ _ ?_
          refine A.take 11 rfl (by kernel_rfl) (by kernel_rfl) (by kernel_rfl) rfl (Ca.fieldAddr Try.underlying133 rfl info3 rfl) (fun Q0 k0 => L.fieldAddr Try.underlying133 rfl info3 rfl hF rfl rfl rfl rfl rfl (L.nil k0)) ?_
          exact A.on (hO _ _ _ n3871) (Le.mk [] hm rfl ⟨⟨_, rfl, rfl⟩, ⟨_, rfl, rfl⟩, ⟨_, rfl, rfl⟩, ⟨_, rfl, rfl⟩, ⟨_, rfl, rfl⟩, ⟨_, rfl, rfl⟩, trivial⟩ trivial trivial)
        have n799 : W 17 #[true, true, true, true, true, false, false, false, true, true, false, false, false, false, false, false, false, false, false, false, false, false, false, false] (mkSt [(0, one (Cell.sl g0 (List.map eTimpl_Rule v505))), (3, one (cS v506)), (4, one (cI v507)), (18, one (cS v506)), (22, one (Cell.pe g0 (eTimpl_Rule b558) 0)), (26, one (Cell.sl g0 (List.map eTimpl_Rule v505))), (27, one (cI v507))] [] [] 0) := by
          refine hI _ _ _ ?_
          refine A.take 10 rfl (by kernel_rfl) (by kernel_rfl) (by kernel_rfl) rfl (Ca.indexAddr) (fun Q0 k0 => L.idxR (xs := v505) (e := eTimpl_Rule) Try.underlying71 info133 hF rfl rfl rfl rfl rfl hb561 rfl rfl (L.nil k0)) ?_
          exact A.on (hO _ _ _ n1823) (Le.mk [] hm rfl ⟨⟨_, rfl, rfl⟩, ⟨_, rfl, rfl⟩, ⟨_, rfl, rfl⟩, ⟨_, rfl, rfl⟩, ⟨_, rfl, rfl⟩, ⟨_, rfl, rfl⟩, trivial⟩ trivial trivial)
        have n287 : W 18 #[true, true, true, true, true, false, false, false, true, false, false, false, false, false, false, false, false, false, false, false, false, false, false, false] (mkSt [(0, one (Cell.sl g0 (List.map eTimpl_Rule v505))), (3, one (cS v506)), (4, one (cI v507)), (18, one (cS v506)), (22, one (Cell.pe g0 (eTimpl_Rule b558) 0)), (26, one (Cell.sl g0 (List.map eTimpl_Rule v505)))] [] [] 0) := by
          refine hI _ _ _ ?_
          refine A.take 9 rfl (by kernel_rfl) (by kernel_rfl) (by kernel_rfl) rfl (Ca.move) (fun Q0 k0 => L.move hF rfl rfl rfl (L.nil k0)) ?_
          exact A.on (hO _ _ _ n799) (Le.mk [] hm rfl ⟨⟨_, rfl, rfl⟩, ⟨_, rfl, rfl⟩, ⟨_, rfl, rfl⟩, ⟨_, rfl, rfl⟩, ⟨_, rfl, rfl⟩, ⟨_, rfl, rfl⟩, ⟨_, rfl, rfl⟩, trivial⟩ trivial trivial)
        have n31 : W 19 #[true, true, true, true, true, false, false, false, false, false, false, false, false, false, false, false, false, false, false, false, false, false, false, false] (mkSt [(0, one (Cell.sl g0 (List.map eTimpl_Rule v505))), (3, one (cS v506)), (4, one (cI v507)), (18, one (cS v506)), (22, one (Cell.pe g0 (eTimpl_Rule b558) 0))] [] [] 0) := by
          refine hI _ _ _ ?_
          refine A.take 8 rfl (by kernel_rfl) (by kernel_rfl) (by kernel_rfl) rfl (Ca.move) (fun Q0 k0 => L.move hF rfl rfl rfl (L.nil k0)) ?_
          exact A.on (hO _ _ _ n287) (Le.mk [] hm rfl ⟨⟨_, rfl, rfl⟩, ⟨_, rfl, rfl⟩, ⟨_, rfl, rfl⟩, ⟨_, rfl, rfl⟩, ⟨_, rfl, rfl⟩, ⟨_, rfl, rfl⟩, trivial⟩ trivial trivial)
        have n15 : W 20 #[true, true, true, true, false, false, false, false, false, false, false, false, false, false, false, false, false, false, false, false, false, false, false, false] (mkSt [(0, one (Cell.sl g0 (List.map eTimpl_Rule v505))), (3, one (cS v506)), (4, one (cI v507)), (18, one (cS v506)), (21, one (Cell.pe g0 (eTimpl_Rule b558) 0))] [] [] 0) := by
          refine hI _ _ _ ?_
          refine A.take 4 rfl (by kernel_rfl) (by kernel_rfl) (by kernel_rfl) rfl (Ca.fieldAddr Try.underlying133 rfl info3 rfl) (fun Q0 k0 => L.fieldAddr Try.underlying133 rfl info3 rfl hF rfl rfl rfl rfl rfl (L.nil k0)) ?_
          exact A.on (hO _ _ _ n31) (Le.mk [] hm rfl ⟨⟨_, rfl, rfl⟩, ⟨_, rfl, rfl⟩, ⟨_, rfl, rfl⟩, ⟨_, rfl, rfl⟩, ⟨_, rfl, rfl⟩, trivial⟩ trivial trivial)
        have n7 : W 21 #[true, true, true, false, false, false, false, false, false, false, false, false, false, false, false, false, false, false, false, false, false, false, false, false] (mkSt [(0, one (Cell.sl g0 (List.map eTimpl_Rule v505))), (3, one (cS v506)), (4, one (cI v507)), (18, one (cS v506)), (19, one (Cell.sl g0 (List.map eTimpl_Rule v505))), (20, one (cI v507))] [] [] 0) := by
          refine hI _ _ _ ?_
          refine A.take 3 rfl (by kernel_rfl) (by kernel_rfl) (by kernel_rfl) rfl (Ca.indexAddr) (fun Q0 k0 => L.idxR (xs := v505) (e := eTimpl_Rule) Try.underlying71 info133 hF rfl rfl rfl rfl rfl hb558 rfl rfl (L.nil k0)) ?_
          exact A.on (hO _ _ _ n15) (Le.mk [] hm rfl ⟨⟨_, rfl, rfl⟩, ⟨_, rfl, rfl⟩, ⟨_, rfl, rfl⟩, ⟨_, rfl, rfl⟩, ⟨_, rfl, rfl⟩, trivial⟩ trivial trivial)
        have n3 : W 22 #[true, true, false, false, false, false, false, false, false, false, false, false, false, false, false, false, false, false, false, false, false, false, false, false] (mkSt [(0, one (Cell.sl g0 (List.map eTimpl_Rule v505))), (3, one (cS v506)), (4, one (cI v507)), (18, one (cS v506)), (19, one (Cell.sl g0 (List.map eTimpl_Rule v505)))] [] [] 0) := by
          refine hI _ _ _ ?_
          refine A.take 2 rfl (by kernel_rfl) (by kernel_rfl) (by kernel_rfl) rfl (Ca.move) (fun Q0 k0 => L.move hF rfl rfl rfl (L.nil k0)) ?_
          exact A.on (hO _ _ _ n7) (Le.mk [] hm rfl ⟨⟨_, rfl, rfl⟩, ⟨_, rfl, rfl⟩, ⟨_, rfl, rfl⟩, ⟨_, rfl, rfl⟩, ⟨_, rfl, rfl⟩, ⟨_, rfl, rfl⟩, trivial⟩ trivial trivial)
        have n1 : W 23 #[true, false, false, false, false, false, false, false, false, false, false, false, false, false, false, false, false, false, false, false, false, false, false, false] (mkSt [(0, one (Cell.sl g0 (List.map eTimpl_Rule v505))), (3, one (cS v506)), (4, one (cI v507)), (18, one (cS v506))] [] [] 0) := by
          refine hI _ _ _ ?_
          refine A.take 1 rfl (by kernel_rfl) (by kernel_rfl) (by kernel_rfl) rfl (Ca.move) (fun Q0 k0 => L.move hF rfl rfl rfl (L.nil k0)) ?_
          exact A.on (hO _ _ _ n3) (Le.mk [] hm rfl ⟨⟨_, rfl, rfl⟩, ⟨_, rfl, rfl⟩, ⟨_, rfl, rfl⟩, ⟨_, rfl, rfl⟩, ⟨_, rfl, rfl⟩, trivial⟩ trivial trivial)
        have n0 : W 24 #[false, false, false, false, false, false, false, false, false, false, false, false, false, false, false, false, false, false, false, false, false, false, false, false] (mkSt [(0, one (Cell.sl g0 (List.map eTimpl_Rule v505))), (3, one (cS v506)), (4, one (cI v507))] [] [] 0) := by
          refine hI _ _ _ ?_
          refine A.take 0 rfl (by kernel_rfl) (by kernel_rfl) (by kernel_rfl) rfl (Ca.move) (fun Q0 k0 => L.move hF rfl rfl rfl (L.nil k0)) ?_
          exact A.on (hO _ _ _ n1) (Le.mk [] hm rfl ⟨⟨_, rfl, rfl⟩, ⟨_, rfl, rfl⟩, ⟨_, rfl, rfl⟩, ⟨_, rfl, rfl⟩, trivial⟩ trivial trivial)
        exact hI _ _ _ (A.on (hO _ _ _ n0) (Le.mk [] hm rfl ⟨⟨_, rfl, rfl⟩, ⟨_, rfl, rfl⟩, ⟨_, rfl, rfl⟩, trivial⟩ trivial trivial))
      · replace H := condF hc H
        refine WpC.exit ?_
        refine WpC.seq ?_
        refine WpC.regionL ?_
        refine L.move hF rfl rfl rfl ?_
        refine L.assign hF rfl rfl rfl ?_
        refine L.nil ?_
        refine WpC.ret ?_
        cases H
        exact Leaves.ret rfl rfl rfl ⟨rfl, rfl⟩
/-! ### Fimpl_rises -/
def Fimpl_rises.l2 : Nat → (List Int) → Int → Option Bool
  | 0, _, _ => none
  | k2 + 1, v29, v30 => cond (decide (v30 < (v29.length : Int))) ((at? v29 (IntKind.i64.wrap (v30 - (1 : Int)))).bind fun b33 => (at? v29 v30).bind fun b34 => cond (decide (b33 ≥ b34)) (some false) ((Fimpl_rises.l2 k2) v29 (IntKind.i64.wrap (v30 + (1 : Int))))) (some true)
def Fimpl_rises (k : Nat) (a0 : List Int) : Option Bool := Fimpl_rises.l2 k a0 (1 : Int)
theorem ent171 : Enters Try.prog 171 := ⟨Try.f171, Try.func171, rfl, by decide⟩
set_option maxHeartbeats 8000000 in
set_option maxRecDepth 100000 in
theorem Fimpl_rises_gives (k : Nat) (g0 : Bool) (a0 : List Int) (r : Bool) (H : Fimpl_rises k a0 = some r) : Gives Try.prog 171 [V.one (Cell.sl g0 (List.map eI a0))] [] [V.one (cL r)] [] := by
  refine Gives.intro Try.func171 rfl rfl rfl rfl ?_
  intro F hF hm
  unfold Fimpl_rises at H
  obtain ⟨K, hK⟩ : ∃ K, k ≤ K := ⟨k, Nat.le_refl k⟩
  refine WpC.seq ?_
  refine WpC.regionL ?_
  refine L.assign hF rfl rfl rfl ?_
  refine L.nil ?_
  refine WpC.seq ?_
  refine WpC.seq ?_
  refine WpC.regionL ?_
  refine L.assign hF rfl rfl rfl ?_
  refine L.nil ?_
  refine WpC.block ?_
  refine WpC.loopL (P := Try.prog) (fun n σ => ∃ v29 : List Int, ∃ v30 : Int, n ≤ K ∧ Fimpl_rises.l2 n v29 v30 = some r ∧ σ = mkSt [(0, one (Cell.sl g0 (List.map eI v29))), (3, one (cI v30))] [] [] 0) k ⟨_, ⟨a0, (1 : Int), by omega, H, rfl⟩, Le.mk [] hm rfl ⟨⟨_, rfl, rfl⟩, ⟨_, rfl, rfl⟩, trivial⟩ trivial trivial⟩ ?_
  clear H
  rintro k2 _ ⟨v29, v30, hk2, H, rfl⟩
  cases k2 with
  | zero => cases H
  | succ k2 =>
    rw [Fimpl_rises.l2] at H
    refine WpC.seq ?_
    refine WpC.seq ?_
    refine WpC.regionL ?_
    refine L.move hF rfl rfl rfl ?_
    refine L.move hF rfl rfl rfl ?_
    refine L.lenR (xs := v29) (e := eI) Try.underlying77 hF rfl rfl rfl rfl ?_
    refine L.bin hF rfl rfl rfl rfl rfl rfl ?_
    refine L.nil ?_
    refine WpC.cond rfl (fun hc => ?_) (fun hc => ?_)
    · replace H := condT hc H
      refine WpC.skip ?_
      refine WpC.seq ?_
      refine WpC.block ?_
      refine WpC.seq ?_
      refine S.begin mixed (by kernel_rfl) ?_
      refine S.st 0 rfl rfl ((Ca.move).quiet) (fun Q0 k0 => L.move hF rfl rfl rfl (L.nil k0)) ?_
      refine S.st 1 rfl rfl ((Ca.move).quiet) (fun Q0 k0 => L.move hF rfl rfl rfl (L.nil k0)) ?_
      refine S.st 2 rfl rfl ((Ca.bin rfl rfl (calm_int _ _ _ _ _ _ _ _)).quiet) (fun Q0 k0 => L.bin hF rfl rfl rfl rfl rfl rfl (L.nil k0)) ?_
      obtain ⟨b33, hb33, H⟩ := bindS H
      refine S.st 3 rfl rfl ((Ca.indexAddr).quiet) (fun Q0 k0 => L.idxR (xs := v29) (e := eI) Try.underlying77 info3 hF rfl rfl rfl rfl rfl hb33 rfl rfl (L.nil k0)) ?_
      refine S.st 4 rfl rfl (Qu.load) (fun Q0 k0 => L.loadPe shape3 hF rfl rfl rfl rfl rfl (L.nil k0)) ?_
      refine S.st 5 rfl rfl ((Ca.move).quiet) (fun Q0 k0 => L.move hF rfl rfl rfl (L.nil k0)) ?_
      refine S.st 6 rfl rfl ((Ca.move).quiet) (fun Q0 k0 => L.move hF rfl rfl rfl (L.nil k0)) ?_
      obtain ⟨b34, hb34, H⟩ := bindS H
      refine S.st 7 rfl rfl ((Ca.indexAddr).quiet) (fun Q0 k0 => L.idxR (xs := v29) (e := eI) Try.underlying77 info3 hF rfl rfl rfl rfl rfl hb34 rfl rfl (L.nil k0)) ?_
      refine S.st 8 rfl rfl (Qu.load) (fun Q0 k0 => L.loadPe shape3 hF rfl rfl rfl rfl rfl (L.nil k0)) ?_
      refine S.st 9 rfl rfl ((Ca.bin rfl rfl (calm_int _ _ _ _ _ _ _ _)).quiet) (fun Q0 k0 => L.bin hF rfl rfl rfl rfl rfl rfl (L.nil k0)) ?_
      refine S.nil ?_
      refine WpC.cond rfl (fun hc => ?_) (fun hc => ?_)
      · replace H := condT hc H
        refine WpC.seq ?_
        refine WpC.regionL ?_
        refine L.assign hF rfl rfl rfl ?_
        refine L.nil ?_
        refine WpC.ret ?_
        cases H
        exact Leaves.ret rfl rfl rfl ⟨rfl, rfl⟩
      · replace H := condF hc H
        refine WpC.skip ?_
        refine WpC.regionL ?_
        refine L.move hF rfl rfl rfl ?_
        refine L.bin hF rfl rfl rfl rfl rfl rfl ?_
        refine L.assign hF rfl rfl rfl ?_
        refine L.nil ?_
        exact ⟨k2, _, by omega, ⟨v29, (IntKind.i64.wrap (v30 + (1 : Int))), by omega, H, rfl⟩, Le.mk [] hm rfl ⟨⟨_, rfl, rfl⟩, ⟨_, rfl, rfl⟩, trivial⟩ trivial trivial⟩
    · replace H := condF hc H
      refine WpC.exit ?_
      refine WpC.seq ?_
      refine WpC.regionL ?_
      refine L.assign hF rfl rfl rfl ?_
      refine L.nil ?_
      refine WpC.ret ?_
      cases H
      exact Leaves.ret rfl rfl rfl ⟨rfl, rfl⟩
/-! ### Fimpl_within -/
def Fimpl_within (k : Nat) (a0 : Int) (a1 : Int) (a2 : Int) : Option Bool := cond (decide (a0 ≥ a1)) (some (decide (a0 ≤ a2))) (some false)
theorem ent93 : Enters Try.prog 93 := ⟨Try.f93, Try.func93, rfl, by decide⟩
set_option maxHeartbeats 8000000 in
set_option maxRecDepth 100000 in
theorem Fimpl_within_gives (k : Nat) (a0 : Int) (a1 : Int) (a2 : Int) (r : Bool) (H : Fimpl_within k a0 a1 a2 = some r) : Gives Try.prog 93 [V.one (cI a0), V.one (cI a1), V.one (cI a2)] [] [V.one (cL r)] [] := by
  refine Gives.intro Try.func93 rfl rfl rfl rfl ?_
  intro F hF hm
  unfold Fimpl_within at H
  obtain ⟨K, hK⟩ : ∃ K, k ≤ K := ⟨k, Nat.le_refl k⟩
  refine WpC.seq ?_
  refine WpC.regionL ?_
  refine L.assign hF rfl rfl rfl ?_
  refine L.nil ?_
  refine WpC.seq ?_
  refine WpC.regionL ?_
  refine L.move hF rfl rfl rfl ?_
  refine L.move hF rfl rfl rfl ?_
  refine L.bin hF rfl rfl rfl rfl rfl rfl ?_
  refine L.move hF rfl rfl rfl ?_
  refine L.split (fun hc => ?_) (fun hc => ?_)
  · replace H := condT hc H
    refine L.move hF rfl rfl rfl ?_
    refine L.move hF rfl rfl rfl ?_
    refine L.bin hF rfl rfl rfl rfl rfl rfl ?_
    refine L.pick hF rfl rfl rfl rfl ?_
    refine L.assign hF rfl rfl rfl ?_
    refine L.nil ?_
    refine WpC.ret ?_
    cases H
    exact Leaves.ret rfl rfl rfl ⟨rfl, rfl⟩
  · replace H := condF hc H
    refine L.off hF rfl rfl ?_
    refine L.off hF rfl rfl ?_
    refine L.off hF rfl rfl ?_
    refine L.pick hF rfl rfl rfl rfl ?_
    refine L.assign hF rfl rfl rfl ?_
    refine L.nil ?_
    refine WpC.ret ?_
    cases H
    exact Leaves.ret rfl rfl rfl ⟨rfl, rfl⟩
/-! ### Fimpl_areSet_1 -/
def Fimpl_areSet_1 (k : Nat) (a0 : Int) : Option Bool := (Fimpl_within k a0 (0 : Int) (30 : Int)).bind fun r1 => some r1
theorem ent173 : Enters Try.prog 173 := ⟨Try.f173, Try.func173, rfl, by decide⟩
set_option maxHeartbeats 8000000 in
set_option maxRecDepth 100000 in
theorem Fimpl_areSet_1_gives (k : Nat) (a0 : Int) (r : Bool) (H : Fimpl_areSet_1 k a0 = some r) : Gives Try.prog 173 [V.one (cI a0)] [] [V.one (cL r)] [] := by
  refine Gives.intro Try.func173 rfl rfl rfl rfl ?_
  intro F hF hm
  unfold Fimpl_areSet_1 at H
  obtain ⟨K, hK⟩ : ∃ K, k ≤ K := ⟨k, Nat.le_refl k⟩
  refine WpC.seq ?_
  refine WpC.regionL ?_
  refine L.assign hF rfl rfl rfl ?_
  refine L.nil ?_
  refine WpC.seq ?_
  refine WpC.regionL ?_
  refine L.move hF rfl rfl rfl ?_
  obtain ⟨r1, hr1, H⟩ := bindS H
  refine L.call [false, false, false] [] [] 1 hF rfl rfl rfl ent93 rfl rfl rfl rfl rfl (Fimpl_within_gives k  a0 (0 : Int) (30 : Int) r1 hr1) rfl ?_
  refine L.assign hF rfl rfl rfl ?_
  refine L.nil ?_
  refine WpC.ret ?_
  cases H
  exact Leaves.ret rfl rfl rfl ⟨rfl, rfl⟩
/-! ### Fimpl_areAll__impl_areSet_1 -/
def Fimpl_areAll__impl_areSet_1.l2 : Nat → (List Int) → Int → Int → Int → Option Bool
  | 0, _, _, _, _ => none
  | k2 + 1, v39, v40, v41, v42 => cond (decide (v42 < v41)) ((at? v39 v42).bind fun b45 => (Fimpl_areSet_1 k2 b45).bind fun r46 => cond (!r46) (some false) ((Fimpl_areAll__impl_areSet_1.l2 k2) v39 v40 v41 (IntKind.i64.wrap (v42 + (1 : Int))))) (some (decide ((v39.length : Int) ≤ v40)))
def Fimpl_areAll__impl_areSet_1 (k : Nat) (a0 : List Int) (a1 : Int) : Option Bool := Fimpl_areAll__impl_areSet_1.l2 k a0 a1 (a0.length : Int) (0 : Int)
theorem ent172 : Enters Try.prog 172 := ⟨Try.f172, Try.func172, rfl, by decide⟩
set_option maxHeartbeats 8000000 in
set_option maxRecDepth 100000 in
theorem Fimpl_areAll__impl_areSet_1_gives (k : Nat) (g0 : Bool) (a0 : List Int) (a1 : Int) (r : Bool) (H : Fimpl_areAll__impl_areSet_1 k a0 a1 = some r) : Gives Try.prog 172 [V.one (Cell.sl g0 (List.map eI a0)), V.one (cI a1), V.one (Cell.clo 173 [])] [] [V.one (cL r)] [] := by
  refine Gives.intro Try.func172 rfl rfl rfl rfl ?_
  intro F hF hm
  unfold Fimpl_areAll__impl_areSet_1 at H
  obtain ⟨K, hK⟩ : ∃ K, k ≤ K := ⟨k, Nat.le_refl k⟩
  refine WpC.seq ?_
  refine WpC.regionL ?_
  refine L.assign hF rfl rfl rfl ?_
  refine L.nil ?_
  refine WpC.seq ?_
  refine WpC.seq ?_
  refine WpC.regionL ?_
  refine L.move hF rfl rfl rfl ?_
  refine L.lenR (xs := a0) (e := eI) Try.underlying77 hF rfl rfl rfl rfl ?_
  refine L.move hF rfl rfl rfl ?_
  refine L.nil ?_
  refine WpC.block ?_
  refine WpC.loopL (P := Try.prog) (fun n σ => ∃ v39 : List Int, ∃ v40 : Int, ∃ v41 : Int, ∃ v42 : Int, n ≤ K ∧ Fimpl_areAll__impl_areSet_1.l2 n v39 v40 v41 v42 = some r ∧ σ = mkSt [(0, one (Cell.sl g0 (List.map eI v39))), (1, one (cI v40)), (2, one (Cell.clo 173 [])), (9, one (Cell.sl g0 (List.map eI v39))), (10, one (cI v41)), (11, one (cI v42))] [] [] 0) k ⟨_, ⟨a0, a1, (a0.length : Int), (0 : Int), by omega, H, rfl⟩, Le.mk [] hm rfl ⟨⟨_, rfl, rfl⟩, ⟨_, rfl, rfl⟩, ⟨_, rfl, rfl⟩, ⟨_, rfl, rfl⟩, ⟨_, rfl, rfl⟩, ⟨_, rfl, rfl⟩, trivial⟩ trivial trivial⟩ ?_
  clear H
  rintro k2 _ ⟨v39, v40, v41, v42, hk2, H, rfl⟩
  cases k2 with
  | zero => cases H
  | succ k2 =>
    rw [Fimpl_areAll__impl_areSet_1.l2] at H
    refine WpC.seq ?_
    refine WpC.regionL ?_
    refine L.bin hF rfl rfl rfl rfl rfl rfl ?_
    refine L.nil ?_
    refine WpC.seq ?_
    refine WpC.cond rfl (fun hc => ?_) (fun hc => ?_)
    · replace H := condT hc H
      refine WpC.skip ?_
      refine WpC.seq ?_
      refine WpC.block ?_
      refine WpC.seq ?_
      refine WpC.regionL ?_
      obtain ⟨b45, hb45, H⟩ := bindS H
      refine L.idxR (xs := v39) (e := eI) Try.underlying77 info3 hF rfl rfl rfl rfl rfl hb45 rfl rfl ?_
      refine L.loadPe shape3 hF rfl rfl rfl rfl rfl ?_
      refine L.assign hF rfl rfl rfl ?_
      refine L.nil ?_
      refine WpC.seq ?_
      refine WpC.regionL ?_
      refine L.move hF rfl rfl rfl ?_
      refine L.move hF rfl rfl rfl ?_
      obtain ⟨r46, hr46, H⟩ := bindS H
      refine L.call [false] [] [] 0 hF rfl rfl rfl ent173 rfl rfl rfl rfl rfl (Fimpl_areSet_1_gives k2  b45 r46 hr46) rfl ?_
      refine L.not hF rfl rfl rfl ?_
      refine L.nil ?_
      refine WpC.cond rfl (fun hc => ?_) (fun hc => ?_)
      · replace H := condT hc H
        refine WpC.seq ?_
        refine WpC.regionL ?_
        refine L.assign hF rfl rfl rfl ?_
        refine L.nil ?_
        refine WpC.ret ?_
        cases H
        exact Leaves.ret rfl rfl rfl ⟨rfl, rfl⟩
      · replace H := condF hc H
        refine WpC.skip ?_
        refine WpC.regionL ?_
        refine L.bin hF rfl rfl rfl rfl rfl rfl ?_
        refine L.move hF rfl rfl rfl ?_
        refine L.nil ?_
        exact ⟨k2, _, by omega, ⟨v39, v40, v41, (IntKind.i64.wrap (v42 + (1 : Int))), by omega, H, rfl⟩, Le.mk [] hm rfl ⟨⟨_, rfl, rfl⟩, ⟨_, rfl, rfl⟩, ⟨_, rfl, rfl⟩, ⟨_, rfl, rfl⟩, ⟨_, rfl, rfl⟩, ⟨_, rfl, rfl⟩, trivial⟩ trivial trivial⟩
    · replace H := condF hc H
      refine WpC.exit ?_
      refine WpC.seq ?_
      refine WpC.regionL ?_
      refine L.move hF rfl rfl rfl ?_
      refine L.lenR (xs := v39) (e := eI) Try.underlying77 hF rfl rfl rfl rfl ?_
      refine L.move hF rfl rfl rfl ?_
      refine L.bin hF rfl rfl rfl rfl rfl rfl ?_
      refine L.assign hF rfl rfl rfl ?_
      refine L.nil ?_
      refine WpC.ret ?_
      cases H
      exact Leaves.ret rfl rfl rfl ⟨rfl, rfl⟩
/-! ### Fimpl_areSet -/
def Fimpl_areSet (k : Nat) (a0 : List Int) : Option Bool := (Fimpl_rises k a0).bind fun r3 => cond r3 ((Fimpl_areAll__impl_areSet_1 k a0 (31 : Int)).bind fun r4 => some r4) (some false)
theorem ent156 : Enters Try.prog 156 := ⟨Try.f156, Try.func156, rfl, by decide⟩
set_option maxHeartbeats 8000000 in
set_option maxRecDepth 100000 in
theorem Fimpl_areSet_gives (k : Nat) (g0 : Bool) (a0 : List Int) (r : Bool) (H : Fimpl_areSet k a0 = some r) : Gives Try.prog 156 [V.one (Cell.sl g0 (List.map eI a0))] [] [V.one (cL r)] [] := by
  refine Gives.intro Try.func156 rfl rfl rfl rfl ?_
  intro F hF hm
  unfold Fimpl_areSet at H
  obtain ⟨K, hK⟩ : ∃ K, k ≤ K := ⟨k, Nat.le_refl k⟩
  refine WpC.seq ?_
  refine WpC.regionL ?_
  refine L.assign hF rfl rfl rfl ?_
  refine L.nil ?_
  refine WpC.seq ?_
  refine WpC.regionL ?_
  refine L.move hF rfl rfl rfl ?_
  obtain ⟨r3, hr3, H⟩ := bindS H
  refine L.call [false] [] [] 1 hF rfl rfl rfl ent171 rfl rfl rfl rfl rfl (Fimpl_rises_gives k g0 a0 r3 hr3) rfl ?_
  refine L.move hF rfl rfl rfl ?_
  refine L.split (fun hc => ?_) (fun hc => ?_)
  · replace H := condT hc H
    refine L.move hF rfl rfl rfl ?_
    obtain ⟨r4, hr4, H⟩ := bindS H
    refine L.call [false, false, false] [] [] 2 hF rfl rfl rfl ent172 rfl rfl rfl rfl rfl (Fimpl_areAll__impl_areSet_1_gives k g0 a0 (31 : Int) r4 hr4) rfl ?_
    refine L.pick hF rfl rfl rfl rfl ?_
    refine L.assign hF rfl rfl rfl ?_
    refine L.nil ?_
    refine WpC.ret ?_
    cases H
    exact Leaves.ret rfl rfl rfl ⟨rfl, rfl⟩
  · replace H := condF hc H
    refine L.off hF rfl rfl ?_
    refine L.off hF rfl rfl ?_
    refine L.pick hF rfl rfl rfl rfl ?_
    refine L.assign hF rfl rfl rfl ?_
    refine L.nil ?_
    refine WpC.ret ?_
    cases H
    exact Leaves.ret rfl rfl rfl ⟨rfl, rfl⟩
/-! ### Fimpl_isTime -/
def Fimpl_isTime (k : Nat) (a0 : Int) : Option Bool := (Fimpl_within k a0 (0 : Int) (100000 : Int)).bind fun r1 => some r1
theorem ent157 : Enters Try.prog 157 := ⟨Try.f157, Try.func157, rfl, by decide⟩
set_option maxHeartbeats 8000000 in
set_option maxRecDepth 100000 in
theorem Fimpl_isTime_gives (k : Nat) (a0 : Int) (r : Bool) (H : Fimpl_isTime k a0 = some r) : Gives Try.prog 157 [V.one (cI a0)] [] [V.one (cL r)] [] := by
  refine Gives.intro Try.func157 rfl rfl rfl rfl ?_
  intro F hF hm
  unfold Fimpl_isTime at H
  obtain ⟨K, hK⟩ : ∃ K, k ≤ K := ⟨k, Nat.le_refl k⟩
  refine WpC.seq ?_
  refine WpC.regionL ?_
  refine L.assign hF rfl rfl rfl ?_
  refine L.nil ?_
  refine WpC.seq ?_
  refine WpC.regionL ?_
  refine L.move hF rfl rfl rfl ?_
  obtain ⟨r1, hr1, H⟩ := bindS H
  refine L.call [false, false, false] [] [] 1 hF rfl rfl rfl ent93 rfl rfl rfl rfl rfl (Fimpl_within_gives k  a0 (0 : Int) (100000 : Int) r1 hr1) rfl ?_
  refine L.assign hF rfl rfl rfl ?_
  refine L.nil ?_
  refine WpC.ret ?_
  cases H
  exact Leaves.ret rfl rfl rfl ⟨rfl, rfl⟩
/-! ### Fimpl_ruleOk -/
def Fimpl_ruleOk.j4 (k : Nat) (v19 : Bool) (v20 : Int) (v21 : List Int) (v22 : Int) : Option Bool := cond v19 ((Fimpl_isTime k v22).bind fun r24 => cond r24 (some ((v21.length : Int) == (0 : Int))) (some false)) (some false)
def Fimpl_ruleOk.j3 (k : Nat) (v13 : Int) (v14 : Bool) (v15 : List Int) (v16 : Int) : Option Bool := cond v14 ((Fimpl_areSet k v15).bind fun r18 => cond r18 (some (v16 == (0 : Int))) (some false)) (cond (v13 == (4 : Int)) (Fimpl_ruleOk.j4 k (v13 == (4 : Int)) v13 v15 v16) (Fimpl_ruleOk.j4 k (v13 == (5 : Int)) v13 v15 v16))
def Fimpl_ruleOk (k : Nat) (a0 : Timpl_Rule) : Option Bool := cond (a0.Kind == (1 : Int)) (Fimpl_ruleOk.j3 k a0.Kind (a0.Kind == (1 : Int)) a0.Set a0.N) (cond (a0.Kind == (2 : Int)) (Fimpl_ruleOk.j3 k a0.Kind (a0.Kind == (2 : Int)) a0.Set a0.N) (Fimpl_ruleOk.j3 k a0.Kind (a0.Kind == (3 : Int)) a0.Set a0.N))
theorem ent123 : Enters Try.prog 123 := ⟨Try.f123, Try.func123, rfl, by decide⟩
set_option maxHeartbeats 8000000 in
set_option maxRecDepth 100000 in
theorem Fimpl_ruleOk_gives (k : Nat) (g0 : Bool) (a0 : Timpl_Rule) (r : Bool) (H : Fimpl_ruleOk k a0 = some r) : Gives Try.prog 123 [V.agg [cI a0.Kind, Cell.sl g0 (List.map eI a0.Set), cI a0.N]] [] [V.one (cL r)] [] := by
  refine Gives.intro Try.func123 rfl rfl rfl rfl ?_
  intro F hF hm
  unfold Fimpl_ruleOk at H
  obtain ⟨K, hK⟩ : ∃ K, k ≤ K := ⟨k, Nat.le_refl k⟩
  refine WpC.seq ?_
  refine WpC.regionL ?_
  refine L.box 3 hF rfl rfl rfl rfl ?_
  refine L.assign hF rfl rfl rfl ?_
  refine L.nil ?_
  refine WpC.seq ?_
  refine WpC.seq ?_
  refine WpC.regionL ?_
  refine L.fieldAddr Try.underlying133 rfl info3 rfl hF rfl rfl rfl rfl rfl ?_
  refine L.loadPtr shape3 hF rfl rfl rfl rfl rfl rfl ?_
  refine L.nil ?_
  refine WpC.block ?_
  refine WpC.join (fun σ => ∃ kj3 : Nat, ∃ v13 : Int, ∃ v14 : Bool, ∃ v15 : List Int, ∃ v16 : Int, kj3 ≤ K ∧ Fimpl_ruleOk.j3 kj3 v13 v14 v15 v16 = some r ∧ σ = mkSt [(1, one (Cell.ptr 0 0)), (4, one (cI v13)), (5, one (cL v14))] [] [(0, [cI v13, Cell.sl g0 (List.map eI v15), cI v16])] 1) ?_ ?_
  · rintro _ ⟨kj3, v13, v14, v15, v16, hkj3, H, rfl⟩
    unfold Fimpl_ruleOk.j3 at H
    refine WpC.cond rfl (fun hc => ?_) (fun hc => ?_)
    · replace H := condT hc H
      refine WpC.seq ?_
      refine WpC.regionL ?_
      refine L.fieldAddr Try.underlying133 rfl info77 rfl hF rfl rfl rfl rfl rfl ?_
      refine L.loadPtr shape77 hF rfl rfl rfl rfl rfl rfl ?_
      obtain ⟨r18, hr18, H⟩ := bindS H
      refine L.call [false] [] [] 1 hF rfl rfl rfl ent156 rfl rfl rfl rfl rfl (Fimpl_areSet_gives kj3 g0 v15 r18 hr18) rfl ?_
      refine L.move hF rfl rfl rfl ?_
      refine L.split (fun hc => ?_) (fun hc => ?_)
      · replace H := condT hc H
        refine L.fieldAddr Try.underlying133 rfl info3 rfl hF rfl rfl rfl rfl rfl ?_
        refine L.loadPtr shape3 hF rfl rfl rfl rfl rfl rfl ?_
        refine L.bin hF rfl rfl rfl rfl rfl rfl ?_
        refine L.pick hF rfl rfl rfl rfl ?_
        refine L.assign hF rfl rfl rfl ?_
        refine L.nil ?_
        refine WpC.ret ?_
        cases H
        exact Leaves.ret rfl rfl rfl ⟨rfl, rfl⟩
      · replace H := condF hc H
        refine L.off hF rfl rfl ?_
        refine L.off hF rfl rfl ?_
        refine L.off hF rfl rfl ?_
        refine L.pick hF rfl rfl rfl rfl ?_
        refine L.assign hF rfl rfl rfl ?_
        refine L.nil ?_
        refine WpC.ret ?_
        cases H
        exact Leaves.ret rfl rfl rfl ⟨rfl, rfl⟩
    · replace H := condF hc H
      refine WpC.join (fun σ => ∃ kj4 : Nat, ∃ v19 : Bool, ∃ v20 : Int, ∃ v21 : List Int, ∃ v22 : Int, kj4 ≤ K ∧ Fimpl_ruleOk.j4 kj4 v19 v20 v21 v22 = some r ∧ σ = mkSt [(1, one (Cell.ptr 0 0)), (17, one (cL v19))] [] [(0, [cI v20, Cell.sl g0 (List.map eI v21), cI v22])] 1) ?_ ?_
      · rintro _ ⟨kj4, v19, v20, v21, v22, hkj4, H, rfl⟩
        unfold Fimpl_ruleOk.j4 at H
        refine WpC.cond rfl (fun hc => ?_) (fun hc => ?_)
        · replace H := condT hc H
          refine WpC.seq ?_
          refine WpC.regionL ?_
          refine L.fieldAddr Try.underlying133 rfl info3 rfl hF rfl rfl rfl rfl rfl ?_
          refine L.loadPtr shape3 hF rfl rfl rfl rfl rfl rfl ?_
          obtain ⟨r24, hr24, H⟩ := bindS H
          refine L.call [false] [] [] 1 hF rfl rfl rfl ent157 rfl rfl rfl rfl rfl (Fimpl_isTime_gives kj4  v22 r24 hr24) rfl ?_
          refine L.move hF rfl rfl rfl ?_
          refine L.split (fun hc => ?_) (fun hc => ?_)
          · replace H := condT hc H
            refine L.fieldAddr Try.underlying133 rfl info77 rfl hF rfl rfl rfl rfl rfl ?_
            refine L.loadPtr shape77 hF rfl rfl rfl rfl rfl rfl ?_
            refine L.lenR (xs := v21) (e := eI) Try.underlying77 hF rfl rfl rfl rfl ?_
            refine L.bin hF rfl rfl rfl rfl rfl rfl ?_
            refine L.pick hF rfl rfl rfl rfl ?_
            refine L.assign hF rfl rfl rfl ?_
            refine L.nil ?_
            refine WpC.ret ?_
            cases H
            exact Leaves.ret rfl rfl rfl ⟨rfl, rfl⟩
          · replace H := condF hc H
            refine L.off hF rfl rfl ?_
            refine L.off hF rfl rfl ?_
            refine L.off hF rfl rfl ?_
            refine L.off hF rfl rfl ?_
            refine L.pick hF rfl rfl rfl rfl ?_
            refine L.assign hF rfl rfl rfl ?_
            refine L.nil ?_
            refine WpC.ret ?_
            cases H
            exact Leaves.ret rfl rfl rfl ⟨rfl, rfl⟩
        · replace H := condF hc H
          refine WpC.skip ?_
          refine WpC.seq ?_
          refine WpC.regionL ?_
          refine L.assign hF rfl rfl rfl ?_
          refine L.nil ?_
          refine WpC.ret ?_
          cases H
          exact Leaves.ret rfl rfl rfl ⟨rfl, rfl⟩
      · refine WpC.seq ?_
        refine WpC.regionL ?_
        refine L.bin hF rfl rfl rfl rfl rfl rfl ?_
        refine L.assign hF rfl rfl rfl ?_
        refine L.nil ?_
        refine WpC.cond rfl (fun hc => ?_) (fun hc => ?_)
        · replace H := condT hc H
          refine WpC.skip ?_
          exact ⟨_, ⟨kj3, (v13 == (4 : Int)), v13, v15, v16, by omega, H, rfl⟩, Le.mk [(0, 0)] hm rfl ⟨⟨_, rfl, rfl⟩, ⟨_, rfl, rfl⟩, trivial⟩ trivial ⟨⟨_, _, rfl, rfl, rfl⟩, trivial⟩⟩
        · replace H := condF hc H
          refine WpC.regionL ?_
          refine L.bin hF rfl rfl rfl rfl rfl rfl ?_
          refine L.assign hF rfl rfl rfl ?_
          refine L.nil ?_
          exact ⟨_, ⟨kj3, (v13 == (5 : Int)), v13, v15, v16, by omega, H, rfl⟩, Le.mk [(0, 0)] hm rfl ⟨⟨_, rfl, rfl⟩, ⟨_, rfl, rfl⟩, trivial⟩ trivial ⟨⟨_, _, rfl, rfl, rfl⟩, trivial⟩⟩
  · refine WpC.seq ?_
    refine WpC.regionL ?_
    refine L.bin hF rfl rfl rfl rfl rfl rfl ?_
    refine L.assign hF rfl rfl rfl ?_
    refine L.nil ?_
    refine WpC.cond rfl (fun hc => ?_) (fun hc => ?_)
    · replace H := condT hc H
      refine WpC.skip ?_
      exact ⟨_, ⟨k, a0.Kind, (a0.Kind == (1 : Int)), a0.Set, a0.N, by omega, H, rfl⟩, Le.mk [(0, 3)] hm rfl ⟨⟨_, rfl, rfl⟩, ⟨_, rfl, rfl⟩, ⟨_, rfl, rfl⟩, trivial⟩ trivial ⟨⟨_, _, rfl, rfl, rfl⟩, trivial⟩⟩
    · replace H := condF hc H
      refine WpC.seq ?_
      refine WpC.regionL ?_
      refine L.bin hF rfl rfl rfl rfl rfl rfl ?_
      refine L.assign hF rfl rfl rfl ?_
      refine L.nil ?_
      refine WpC.cond rfl (fun hc => ?_) (fun hc => ?_)
      · replace H := condT hc H
        refine WpC.skip ?_
        exact ⟨_, ⟨k, a0.Kind, (a0.Kind == (2 : Int)), a0.Set, a0.N, by omega, H, rfl⟩, Le.mk [(0, 3)] hm rfl ⟨⟨_, rfl, rfl⟩, ⟨_, rfl, rfl⟩, ⟨_, rfl, rfl⟩, trivial⟩ trivial ⟨⟨_, _, rfl, rfl, rfl⟩, trivial⟩⟩
      · replace H := condF hc H
        refine WpC.regionL ?_
        refine L.bin hF rfl rfl rfl rfl rfl rfl ?_
        refine L.assign hF rfl rfl rfl ?_
        refine L.nil ?_
        exact ⟨_, ⟨k, a0.Kind, (a0.Kind == (3 : Int)), a0.Set, a0.N, by omega, H, rfl⟩, Le.mk [(0, 3)] hm rfl ⟨⟨_, rfl, rfl⟩, ⟨_, rfl, rfl⟩, ⟨_, rfl, rfl⟩, trivial⟩ trivial ⟨⟨_, _, rfl, rfl, rfl⟩, trivial⟩⟩
/-! ### Fimpl_RulesOk_1 -/
def Fimpl_RulesOk_1 (k : Nat) (a0 : Timpl_Rule) : Option Bool := (Fimpl_ruleOk k a0).bind fun r1 => some (!r1)
theorem ent122 : Enters Try.prog 122 := ⟨Try.f122, Try.func122, rfl, by decide⟩
set_option maxHeartbeats 8000000 in
set_option maxRecDepth 100000 in
theorem Fimpl_RulesOk_1_gives (k : Nat) (g0 : Bool) (a0 : Timpl_Rule) (r : Bool) (H : Fimpl_RulesOk_1 k a0 = some r) : Gives Try.prog 122 [V.agg [cI a0.Kind, Cell.sl g0 (List.map eI a0.Set), cI a0.N]] [] [V.one (cL r)] [] := by
  refine Gives.intro Try.func122 rfl rfl rfl rfl ?_
  intro F hF hm
  unfold Fimpl_RulesOk_1 at H
  obtain ⟨K, hK⟩ : ∃ K, k ≤ K := ⟨k, Nat.le_refl k⟩
  refine WpC.seq ?_
  refine WpC.regionL ?_
  refine L.box 3 hF rfl rfl rfl rfl ?_
  refine L.assign hF rfl rfl rfl ?_
  refine L.nil ?_
  refine WpC.seq ?_
  refine WpC.regionL ?_
  refine L.loadPtr shape133 hF rfl rfl rfl rfl rfl rfl ?_
  obtain ⟨r1, hr1, H⟩ := bindS H
  refine L.call [false] [] [] 4 hF rfl rfl rfl ent123 rfl rfl rfl rfl rfl (Fimpl_ruleOk_gives k g0 a0 r1 hr1) rfl ?_
  refine L.not hF rfl rfl rfl ?_
  refine L.assign hF rfl rfl rfl ?_
  refine L.nil ?_
  refine WpC.ret ?_
  cases H
  exact Leaves.ret rfl rfl rfl ⟨rfl, rfl⟩
/-! ### Fslices_IndexFunc_Rule__impl_RulesOk_1 -/
def Fslices_IndexFunc_Rule__impl_RulesOk_1.l2 : Nat → (List Timpl_Rule) → Int → Int → Option Int
  | 0, _, _, _ => none
  | k2 + 1, v34, v35, v36 => cond (decide (v36 < v35)) ((at? v34 v36).bind fun b39 => (Fimpl_RulesOk_1 k2 b39).bind fun r40 => cond r40 (some v36) ((Fslices_IndexFunc_Rule__impl_RulesOk_1.l2 k2) v34 v35 (IntKind.i64.wrap (v36 + (1 : Int))))) (some (-1 : Int))
def Fslices_IndexFunc_Rule__impl_RulesOk_1 (k : Nat) (a0 : List Timpl_Rule) : Option Int := Fslices_IndexFunc_Rule__impl_RulesOk_1.l2 k a0 (a0.length : Int) (0 : Int)
theorem ent155 : Enters Try.prog 155 := ⟨Try.f155, Try.func155, rfl, by decide⟩
set_option maxHeartbeats 8000000 in
set_option maxRecDepth 100000 in
theorem Fslices_IndexFunc_Rule__impl_RulesOk_1_gives (k : Nat) (g0 : Bool) (a0 : List Timpl_Rule) (r : Int) (H : Fslices_IndexFunc_Rule__impl_RulesOk_1 k a0 = some r) : Gives Try.prog 155 [V.one (Cell.sl g0 (List.map eTimpl_Rule a0)), V.one (Cell.clo 122 [])] [] [V.one (cI r)] [] := by
  refine Gives.intro Try.func155 rfl rfl rfl rfl ?_
  intro F hF hm
  unfold Fslices_IndexFunc_Rule__impl_RulesOk_1 at H
  obtain ⟨K, hK⟩ : ∃ K, k ≤ K := ⟨k, Nat.le_refl k⟩
  refine WpC.seq ?_
  refine WpC.regionL ?_
  refine L.assign hF rfl rfl rfl ?_
  refine L.nil ?_
  refine WpC.seq ?_
  refine WpC.seq ?_
  refine WpC.regionL ?_
  refine L.move hF rfl rfl rfl ?_
  refine L.lenR (xs := a0) (e := eTimpl_Rule) Try.underlying71 hF rfl rfl rfl rfl ?_
  refine L.move hF rfl rfl rfl ?_
  refine L.nil ?_
  refine WpC.block ?_
  refine WpC.loopL (P := Try.prog) (fun n σ => ∃ v34 : List Timpl_Rule, ∃ v35 : Int, ∃ v36 : Int, n ≤ K ∧ Fslices_IndexFunc_Rule__impl_RulesOk_1.l2 n v34 v35 v36 = some r ∧ σ = mkSt [(0, one (Cell.sl g0 (List.map eTimpl_Rule v34))), (1, one (Cell.clo 122 [])), (7, one (cI v35)), (8, one (cI v36))] [] [] 0) k ⟨_, ⟨a0, (a0.length : Int), (0 : Int), by omega, H, rfl⟩, Le.mk [] hm rfl ⟨⟨_, rfl, rfl⟩, ⟨_, rfl, rfl⟩, ⟨_, rfl, rfl⟩, ⟨_, rfl, rfl⟩, trivial⟩ trivial trivial⟩ ?_
  clear H
  rintro k2 _ ⟨v34, v35, v36, hk2, H, rfl⟩
  cases k2 with
  | zero => cases H
  | succ k2 =>
    rw [Fslices_IndexFunc_Rule__impl_RulesOk_1.l2] at H
    refine WpC.seq ?_
    refine WpC.regionL ?_
    refine L.bin hF rfl rfl rfl rfl rfl rfl ?_
    refine L.nil ?_
    refine WpC.seq ?_
    refine WpC.cond rfl (fun hc => ?_) (fun hc => ?_)
    · replace H := condT hc H
      refine WpC.skip ?_
      refine WpC.seq ?_
      refine WpC.block ?_
      refine WpC.seq ?_
      refine WpC.regionL ?_
      refine L.move hF rfl rfl rfl ?_
      refine L.assign hF rfl rfl rfl ?_
      refine L.nil ?_
      refine WpC.seq ?_
      refine WpC.regionL ?_
      refine L.move hF rfl rfl rfl ?_
      refine L.move hF rfl rfl rfl ?_
      refine L.move hF rfl rfl rfl ?_
      obtain ⟨b39, hb39, H⟩ := bindS H
      refine L.idxR (xs := v34) (e := eTimpl_Rule) Try.underlying71 info133 hF rfl rfl rfl rfl rfl hb39 rfl rfl ?_
      refine L.loadPe shape133 hF rfl rfl rfl rfl rfl ?_
      obtain ⟨r40, hr40, H⟩ := bindS H
      refine L.call [false] [] [] 0 hF rfl rfl rfl ent122 rfl rfl rfl rfl rfl (Fimpl_RulesOk_1_gives k2 true b39 r40 hr40) rfl ?_
      refine L.nil ?_
      refine WpC.cond rfl (fun hc => ?_) (fun hc => ?_)
      · replace H := condT hc H
        refine WpC.seq ?_
        refine WpC.regionL ?_
        refine L.move hF rfl rfl rfl ?_
        refine L.assign hF rfl rfl rfl ?_
        refine L.nil ?_
        refine WpC.ret ?_
        cases H
        exact Leaves.ret rfl rfl rfl ⟨rfl, rfl⟩
      · replace H := condF hc H
        refine WpC.skip ?_
        refine WpC.regionL ?_
        refine L.bin hF rfl rfl rfl rfl rfl rfl ?_
        refine L.move hF rfl rfl rfl ?_
        refine L.nil ?_
        exact ⟨k2, _, by omega, ⟨v34, v35, (IntKind.i64.wrap (v36 + (1 : Int))), by omega, H, rfl⟩, Le.mk [] hm rfl ⟨⟨_, rfl, rfl⟩, ⟨_, rfl, rfl⟩, ⟨_, rfl, rfl⟩, ⟨_, rfl, rfl⟩, trivial⟩ trivial trivial⟩
    · replace H := condF hc H
      refine WpC.exit ?_
      refine WpC.seq ?_
      refine WpC.regionL ?_
      refine L.assign hF rfl rfl rfl ?_
      refine L.nil ?_
      refine WpC.ret ?_
      cases H
      exact Leaves.ret rfl rfl rfl ⟨rfl, rfl⟩
/-! ### Fslices_ContainsFunc_Rule__impl_RulesOk_1 -/
def Fslices_ContainsFunc_Rule__impl_RulesOk_1 (k : Nat) (a0 : List Timpl_Rule) : Option Bool := (Fslices_IndexFunc_Rule__impl_RulesOk_1 k a0).bind fun r1 => some (decide (r1 ≥ (0 : Int)))
theorem ent121 : Enters Try.prog 121 := ⟨Try.f121, Try.func121, rfl, by decide⟩
set_option maxHeartbeats 8000000 in
set_option maxRecDepth 100000 in
theorem Fslices_ContainsFunc_Rule__impl_RulesOk_1_gives (k : Nat) (g0 : Bool) (a0 : List Timpl_Rule) (r : Bool) (H : Fslices_ContainsFunc_Rule__impl_RulesOk_1 k a0 = some r) : Gives Try.prog 121 [V.one (Cell.sl g0 (List.map eTimpl_Rule a0)), V.one (Cell.clo 122 [])] [] [V.one (cL r)] [] := by
  refine Gives.intro Try.func121 rfl rfl rfl rfl ?_
  intro F hF hm
  unfold Fslices_ContainsFunc_Rule__impl_RulesOk_1 at H
  obtain ⟨K, hK⟩ : ∃ K, k ≤ K := ⟨k, Nat.le_refl k⟩
  refine WpC.seq ?_
  refine WpC.regionL ?_
  refine L.assign hF rfl rfl rfl ?_
  refine L.nil ?_
  refine WpC.seq ?_
  refine WpC.regionL ?_
  refine L.move hF rfl rfl rfl ?_
  refine L.move hF rfl rfl rfl ?_
  obtain ⟨r1, hr1, H⟩ := bindS H
  refine L.call [false, false] [] [] 2 hF rfl rfl rfl ent155 rfl rfl rfl rfl rfl (Fslices_IndexFunc_Rule__impl_RulesOk_1_gives k g0 a0 r1 hr1) rfl ?_
  refine L.bin hF rfl rfl rfl rfl rfl rfl ?_
  refine L.assign hF rfl rfl rfl ?_
  refine L.nil ?_
  refine WpC.ret ?_
  cases H
  exact Leaves.ret rfl rfl rfl ⟨rfl, rfl⟩
/-! ### Fimpl_RulesOk -/
def Fimpl_RulesOk (k : Nat) (a0 : List Timpl_Rule) : Option Bool := cond (decide ((a0.length : Int) ≤ (20 : Int))) ((Fslices_ContainsFunc_Rule__impl_RulesOk_1 k a0).bind fun r2 => some (!r2)) (some false)
theorem ent64 : Enters Try.prog 64 := ⟨Try.f64, Try.func64, rfl, by decide⟩
set_option maxHeartbeats 8000000 in
set_option maxRecDepth 100000 in
theorem Fimpl_RulesOk_gives (k : Nat) (g0 : Bool) (a0 : List Timpl_Rule) (r : Bool) (H : Fimpl_RulesOk k a0 = some r) : Gives Try.prog 64 [V.one (Cell.sl g0 (List.map eTimpl_Rule a0))] [] [V.one (cL r)] [] := by
  refine Gives.intro Try.func64 rfl rfl rfl rfl ?_
  intro F hF hm
  unfold Fimpl_RulesOk at H
  obtain ⟨K, hK⟩ : ∃ K, k ≤ K := ⟨k, Nat.le_refl k⟩
  refine WpC.seq ?_
  refine WpC.regionL ?_
  refine L.assign hF rfl rfl rfl ?_
  refine L.nil ?_
  refine WpC.seq ?_
  refine WpC.regionL ?_
  refine L.move hF rfl rfl rfl ?_
  refine L.lenR (xs := a0) (e := eTimpl_Rule) Try.underlying71 hF rfl rfl rfl rfl ?_
  refine L.bin hF rfl rfl rfl rfl rfl rfl ?_
  refine L.move hF rfl rfl rfl ?_
  refine L.split (fun hc => ?_) (fun hc => ?_)
  · replace H := condT hc H
    refine L.move hF rfl rfl rfl ?_
    obtain ⟨r2, hr2, H⟩ := bindS H
    refine L.call [false, false] [] [] 1 hF rfl rfl rfl ent121 rfl rfl rfl rfl rfl (Fslices_ContainsFunc_Rule__impl_RulesOk_1_gives k g0 a0 r2 hr2) rfl ?_
    refine L.not hF rfl rfl rfl ?_
    refine L.pick hF rfl rfl rfl rfl ?_
    refine L.assign hF rfl rfl rfl ?_
    refine L.nil ?_
    refine WpC.ret ?_
    cases H
    exact Leaves.ret rfl rfl rfl ⟨rfl, rfl⟩
  · replace H := condF hc H
    refine L.off hF rfl rfl ?_
    refine L.off hF rfl rfl ?_
    refine L.off hF rfl rfl ?_
    refine L.pick hF rfl rfl rfl rfl ?_
    refine L.assign hF rfl rfl rfl ?_
    refine L.nil ?_
    refine WpC.ret ?_
    cases H
    exact Leaves.ret rfl rfl rfl ⟨rfl, rfl⟩
/-! ### Fimpl_Var -/
def Fimpl_Var.l2 : Nat → Int → (List UInt8) → Option (List UInt8)
  | 0, _, _ => none
  | k2 + 1, v16, v17 => cond (decide (v16 > (127 : Int))) (cond (decide ((2 * (v17.length + ([(ofI (Go.bits .or .i64 (Go.bits .and .i64 v16 (127 : Int)) (128 : Int)))] : List UInt8).length) + 192) * 1 ≤ 281474976710656)) ((Fimpl_Var.l2 k2) (shrI .i64 v16 (7 : Int)) (v17 ++ ([(ofI (Go.bits .or .i64 (Go.bits .and .i64 v16 (127 : Int)) (128 : Int)))] : List UInt8))) none) (cond (decide ((2 * (v17.length + ([(ofI v16)] : List UInt8).length) + 192) * 1 ≤ 281474976710656)) (some (v17 ++ ([(ofI v16)] : List UInt8))) none)
def Fimpl_Var (k : Nat) (a0 : Int) : Option (List UInt8) := (Fimpl_within k a0 (0 : Int) (562949953421311 : Int)).bind fun r2 => cond (!r2) (some ([] : List UInt8)) (Fimpl_Var.l2 k a0 ([] : List UInt8))
theorem ent128 : Enters Try.prog 128 := ⟨Try.f128, Try.func128, rfl, by decide⟩
set_option maxHeartbeats 8000000 in
set_option maxRecDepth 100000 in
theorem Fimpl_Var_gives (k : Nat) (a0 : Int) (r : List UInt8) (H : Fimpl_Var k a0 = some r) : Gives Try.prog 128 [V.one (cI a0)] [] [V.one (cS r)] [] := by
  refine Gives.intro Try.func128 rfl rfl rfl rfl ?_
  intro F hF hm
  unfold Fimpl_Var at H
  obtain ⟨K, hK⟩ : ∃ K, k ≤ K := ⟨k, Nat.le_refl k⟩
  refine WpC.seq ?_
  refine WpC.regionL ?_
  refine L.assign hF rfl rfl rfl ?_
  refine L.nil ?_
  refine WpC.seq ?_
  refine WpC.seq ?_
  refine WpC.regionL ?_
  refine L.move hF rfl rfl rfl ?_
  obtain ⟨r2, hr2, H⟩ := bindS H
  refine L.call [false, false, false] [] [] 1 hF rfl rfl rfl ent93 rfl rfl rfl rfl rfl (Fimpl_within_gives k  a0 (0 : Int) (562949953421311 : Int) r2 hr2) rfl ?_
  refine L.not hF rfl rfl rfl ?_
  refine L.nil ?_
  refine WpC.cond rfl (fun hc => ?_) (fun hc => ?_)
  · replace H := condT hc H
    refine WpC.seq ?_
    refine WpC.regionL ?_
    refine L.assign hF rfl rfl rfl ?_
    refine L.nil ?_
    refine WpC.ret ?_
    cases H
    exact Leaves.ret rfl rfl rfl ⟨rfl, rfl⟩
  · replace H := condF hc H
    refine WpC.skip ?_
    refine WpC.seq ?_
    refine WpC.regionL ?_
    refine L.buildSlice (e := eB) 2 ([] : List UInt8) Try.underlying35 info5 rfl rfl rfl hF rfl rfl rfl rfl rfl rfl rfl rfl ?_
    refine L.assign hF rfl rfl rfl ?_
    refine L.nil ?_
    refine WpC.seq ?_
    refine WpC.block ?_
    refine WpC.loopL (P := Try.prog) (fun n σ => ∃ v16 : Int, ∃ v17 : List UInt8, n ≤ K ∧ Fimpl_Var.l2 n v16 v17 = some r ∧ σ = mkSt [(0, one (cI v16)), (3, one (Cell.own 0))] [(0, ⟨1, List.map eB v17⟩)] [] 1) k ⟨_, ⟨a0, ([] : List UInt8), by omega, H, rfl⟩, Le.mk [(0, 2)] hm rfl ⟨⟨_, rfl, rfl⟩, ⟨_, rfl, rfl⟩, trivial⟩ ⟨⟨_, rfl, rfl⟩, trivial⟩ trivial⟩ ?_
    clear H
    rintro k2 _ ⟨v16, v17, hk2, H, rfl⟩
    cases k2 with
    | zero => cases H
    | succ k2 =>
      rw [Fimpl_Var.l2] at H
      refine WpC.seq ?_
      refine WpC.seq ?_
      refine WpC.regionL ?_
      refine L.move hF rfl rfl rfl ?_
      refine L.bin hF rfl rfl rfl rfl rfl rfl ?_
      refine L.nil ?_
      refine WpC.cond rfl (fun hc => ?_) (fun hc => ?_)
      · replace H := condT hc H
        refine WpC.skip ?_
        refine WpC.block ?_
        refine WpC.seq ?_
        refine WpC.regionL ?_
        refine L.move hF rfl rfl rfl ?_
        refine L.move hF rfl rfl rfl ?_
        refine L.bin hF rfl rfl rfl rfl rfl rfl ?_
        refine L.bin hF rfl rfl rfl rfl rfl rfl ?_
        refine L.toB Try.underlying3 Try.underlying5 hF rfl rfl rfl ?_
        refine L.buildSlice (e := eB) 1 ([(ofI (Go.bits .or .i64 (Go.bits .and .i64 v16 (127 : Int)) (128 : Int)))] : List UInt8) Try.underlying35 info5 rfl rfl rfl hF rfl rfl rfl rfl rfl rfl rfl rfl ?_
        obtain ⟨h18, H⟩ := condG H
        refine L.append (xs := v17) (ys := ([(ofI (Go.bits .or .i64 (Go.bits .and .i64 v16 (127 : Int)) (128 : Int)))] : List UInt8)) (e := eB) 2 Try.underlying35 info5 rfl rfl hF rfl rfl rfl rfl rfl rfl rfl rfl (fun _ => rfl) (fun _ _ h1 h2 => by cases h1; cases h2; rfl) ⟨_, Try.underlying35⟩ (of_decide_eq_true h18) rfl rfl ?_
        refine L.assign hF rfl rfl rfl ?_
        refine L.nil ?_
        refine WpC.regionL ?_
        refine L.move hF rfl rfl rfl ?_
        refine L.shr hF rfl rfl rfl rfl (by decide) ?_
        refine L.assign hF rfl rfl rfl ?_
        refine L.nil ?_
        exact ⟨k2, _, by omega, ⟨(shrI .i64 v16 (7 : Int)), (v17 ++ ([(ofI (Go.bits .or .i64 (Go.bits .and .i64 v16 (127 : Int)) (128 : Int)))] : List UInt8)), by omega, H, rfl⟩, Le.mk [(0, 2)] hm rfl ⟨⟨_, rfl, rfl⟩, ⟨_, rfl, rfl⟩, trivial⟩ ⟨⟨_, rfl, rfl⟩, trivial⟩ trivial⟩
      · replace H := condF hc H
        refine WpC.exit ?_
        refine WpC.seq ?_
        refine WpC.regionL ?_
        refine L.move hF rfl rfl rfl ?_
        refine L.move hF rfl rfl rfl ?_
        refine L.toB Try.underlying3 Try.underlying5 hF rfl rfl rfl ?_
        refine L.buildSlice (e := eB) 1 ([(ofI v16)] : List UInt8) Try.underlying35 info5 rfl rfl rfl hF rfl rfl rfl rfl rfl rfl rfl rfl ?_
        obtain ⟨h19, H⟩ := condG H
        refine L.append (xs := v17) (ys := ([(ofI v16)] : List UInt8)) (e := eB) 2 Try.underlying35 info5 rfl rfl hF rfl rfl rfl rfl rfl rfl rfl rfl (fun _ => rfl) (fun _ _ h1 h2 => by cases h1; cases h2; rfl) ⟨_, Try.underlying35⟩ (of_decide_eq_true h19) rfl rfl ?_
        refine L.b2s (xs := (v17 ++ ([(ofI v16)] : List UInt8))) Try.underlying35 Try.underlying5 Try.underlying9 hF rfl rfl rfl rfl ?_
        refine L.assign hF rfl rfl rfl ?_
        refine L.nil ?_
        refine WpC.ret ?_
        cases H
        exact Leaves.ret rfl rfl rfl ⟨rfl, rfl⟩
/-! ### Fimpl_ShowRules -/
def Fimpl_ShowRules.l14 (cl12 : (List UInt8) → (List Timpl_Rule) → Int → Int → Option (List UInt8)) : Nat → (List UInt8) → (List Timpl_Rule) → Int → Int → (List Int) → Int → Int → Option (List UInt8)
  | 0, _, _, _, _, _, _, _ => none
  | k14 + 1, v541, v542, v543, v544, v545, v546, v547 => cond (decide (v547 < v546)) ((at? v545 v547).bind fun b551 => (Fimpl_Var k14 b551).bind fun r552 => cond (decide (v541.length + r552.length ≤ 9223372036854775807)) ((Fimpl_ShowRules.l14 cl12 k14) (v541 ++ r552) v542 v543 v544 v545 v546 (IntKind.i64.wrap (v547 + (1 : Int)))) none) (cl12 v541 v542 v543 (IntKind.i64.wrap (v544 + (1 : Int))))
def Fimpl_ShowRules.l12 : Nat → (List UInt8) → (List Timpl_Rule) → Int → Int → Option (List UInt8)
  | 0, _, _, _, _ => none
  | k12 + 1, v460, v461, v462, v463 => cond (decide (v463 < v462)) ((at? v461 v463).bind fun b509 => (Fimpl_Var k12 b509.Kind).bind fun r510 => cond (decide (v460.length + r510.length ≤ 9223372036854775807)) ((Fimpl_Var k12 b509.N).bind fun r512 => cond (decide ((v460 ++ r510).length + r512.length ≤ 9223372036854775807)) ((Fimpl_Var k12 (b509.Set.length : Int)).bind fun r514 => cond (decide (((v460 ++ r510) ++ r512).length + r514.length ≤ 9223372036854775807)) (Fimpl_ShowRules.l14 (Fimpl_ShowRules.l12 k12) k12 (((v460 ++ r510) ++ r512) ++ r514) v461 v462 v463 b509.Set (b509.Set.length : Int) (0 : Int)) none) none) none) (some v460)
def Fimpl_ShowRules (k : Nat) (a0 : List Timpl_Rule) : Option (List UInt8) := (Fimpl_RulesOk k a0).bind fun r2 => cond (!r2) (some ([] : List UInt8)) ((Fimpl_Var k (a0.length : Int)).bind fun r3 => Fimpl_ShowRules.l12 k r3 a0 (a0.length : Int) (0 : Int))
theorem ent69 : Enters Try.prog 69 := ⟨Try.f69, Try.func69, rfl, by decide⟩
set_option maxHeartbeats 8000000 in
set_option maxRecDepth 100000 in
theorem Fimpl_ShowRules_gives (k : Nat) (g0 : Bool) (a0 : List Timpl_Rule) (r : List UInt8) (H : Fimpl_ShowRules k a0 = some r) : Gives Try.prog 69 [V.one (Cell.sl g0 (List.map eTimpl_Rule a0))] [] [V.one (cS r)] [] := by
  refine Gives.intro Try.func69 rfl rfl rfl rfl ?_
  intro F hF hm
  unfold Fimpl_ShowRules at H
  obtain ⟨K, hK⟩ : ∃ K, k ≤ K := ⟨k, Nat.le_refl k⟩
  refine WpC.seq ?_
  refine WpC.regionL ?_
  refine L.assign hF rfl rfl rfl ?_
  refine L.nil ?_
  refine WpC.seq ?_
  refine WpC.seq ?_
  refine WpC.regionL ?_
  refine L.move hF rfl rfl rfl ?_
  obtain ⟨r2, hr2, H⟩ := bindS H
  refine L.call [false] [] [] 1 hF rfl rfl rfl ent64 rfl rfl rfl rfl rfl (Fimpl_RulesOk_gives k g0 a0 r2 hr2) rfl ?_
  refine L.not hF rfl rfl rfl ?_
  refine L.nil ?_
  refine WpC.cond rfl (fun hc => ?_) (fun hc => ?_)
  · replace H := condT hc H
    refine WpC.seq ?_
    refine WpC.regionL ?_
    refine L.assign hF rfl rfl rfl ?_
    refine L.nil ?_
    refine WpC.ret ?_
    cases H
    exact Leaves.ret rfl rfl rfl ⟨rfl, rfl⟩
  · replace H := condF hc H
    refine WpC.skip ?_
    refine WpC.seq ?_
    refine WpC.regionL ?_
    refine L.move hF rfl rfl rfl ?_
    refine L.lenR (xs := a0) (e := eTimpl_Rule) Try.underlying71 hF rfl rfl rfl rfl ?_
    obtain ⟨r3, hr3, H⟩ := bindS H
    refine L.call [false] [] [] 2 hF rfl rfl rfl ent128 rfl rfl rfl rfl rfl (Fimpl_Var_gives k  (a0.length : Int) r3 hr3) rfl ?_
    refine L.assign hF rfl rfl rfl ?_
    refine L.nil ?_
    refine WpC.seq ?_
    refine WpC.seq ?_
    refine WpC.regionL ?_
    refine L.move hF rfl rfl rfl ?_
    refine L.lenR (xs := a0) (e := eTimpl_Rule) Try.underlying71 hF rfl rfl rfl rfl ?_
    refine L.move hF rfl rfl rfl ?_
    refine L.nil ?_
    refine WpC.block ?_
    refine WpC.loopL (P := Try.prog) (fun n σ => ∃ v460 : List UInt8, ∃ v461 : List Timpl_Rule, ∃ v462 : Int, ∃ v463 : Int, n ≤ K ∧ Fimpl_ShowRules.l12 n v460 v461 v462 v463 = some r ∧ σ = mkSt [(3, one (cS v460)), (14, one (Cell.sl g0 (List.map eTimpl_Rule v461))), (15, one (cI v462)), (16, one (cI v463))] [] [] 0) k ⟨_, ⟨r3, a0, (a0.length : Int), (0 : Int), by omega, H, rfl⟩, Le.mk [] hm rfl ⟨⟨_, rfl, rfl⟩, ⟨_, rfl, rfl⟩, ⟨_, rfl, rfl⟩, ⟨_, rfl, rfl⟩, trivial⟩ trivial trivial⟩ ?_
    clear H
    rintro k12 _ ⟨v460, v461, v462, v463, hk12, H, rfl⟩
    cases k12 with
    | zero => cases H
    | succ k12 =>
      rw [Fimpl_ShowRules.l12] at H
      refine WpC.seq ?_
      refine WpC.regionL ?_
      refine L.bin hF rfl rfl rfl rfl rfl rfl ?_
      refine L.nil ?_
      refine WpC.seq ?_
      refine WpC.cond rfl (fun hc => ?_) (fun hc => ?_)
      · replace H := condT hc H
        refine WpC.skip ?_
        refine WpC.seq ?_
        refine WpC.block ?_
        refine WpC.seq ?_
        refine WpC.regionL ?_
        obtain ⟨b509, hb509, H⟩ := bindS H
        refine L.idxR (xs := v461) (e := eTimpl_Rule) Try.underlying71 info133 hF rfl rfl rfl rfl rfl hb509 rfl rfl ?_
        refine L.loadPe shape133 hF rfl rfl rfl rfl rfl ?_
        refine L.alloc 0 info133 rfl hF rfl rfl rfl rfl ?_
        refine L.storePtr shape133 hF rfl rfl rfl rfl rfl rfl rfl ?_
        refine L.nil ?_
        refine WpC.seq ?_
        obtain ⟨r510, hr510, H⟩ := bindS H
        obtain ⟨h511, H⟩ := condG H
        obtain ⟨r512, hr512, H⟩ := bindS H
        obtain ⟨h513, H⟩ := condG H
        obtain ⟨r514, hr514, H⟩ := bindS H
        obtain ⟨h515, H⟩ := condG H
        refine A.begin mixed rfl rfl ?_
        intro W hI hO
        have n32767 : W 0 #[true, true, true, true, true, true, true, true, true, true, true, true, true, true, true] (mkSt [(3, one (cS (((v460 ++ r510) ++ r512) ++ r514))), (5, one (Cell.ptr 0 0)), (14, one (Cell.sl g0 (List.map eTimpl_Rule v461))), (15, one (cI v462)), (16, one (cI v463))] [] [(0, [cI b509.Kind, Cell.sl true (List.map eI b509.Set), cI b509.N])] 1) := by
          refine hI _ _ _ (A.done (by kernel_rfl) ?_)
          refine WpC.seq ?_
          refine WpC.regionL ?_
          refine L.fieldAddr Try.underlying133 rfl info77 rfl hF rfl rfl rfl rfl rfl ?_
          refine L.loadPtr shape77 hF rfl rfl rfl rfl rfl rfl ?_
          refine L.lenR (xs := b509.Set) (e := eI) Try.underlying77 hF rfl rfl rfl rfl ?_
          refine L.move hF rfl rfl rfl ?_
          refine L.nil ?_
          refine WpC.block ?_
          refine WpC.loopL (P := Try.prog) (fun n σ => ∃ v541 : List UInt8, ∃ v542 : List Timpl_Rule, ∃ v543 : Int, ∃ v544 : Int, ∃ v545 : List Int, ∃ v546 : Int, ∃ v547 : Int, n ≤ K ∧ Fimpl_ShowRules.l14 (Fimpl_ShowRules.l12 k12) n v541 v542 v543 v544 v545 v546 v547 = some r ∧ σ = mkSt [(3, one (cS v541)), (14, one (Cell.sl g0 (List.map eTimpl_Rule v542))), (15, one (cI v543)), (16, one (cI v544)), (35, one (Cell.sl true (List.map eI v545))), (36, one (cI v546)), (37, one (cI v547))] [] [] 0) k12 ⟨_, ⟨(((v460 ++ r510) ++ r512) ++ r514), v461, v462, v463, b509.Set, (b509.Set.length : Int), (0 : Int), by omega, H, rfl⟩, Le.mk [] hm rfl ⟨⟨_, rfl, rfl⟩, ⟨_, rfl, rfl⟩, ⟨_, rfl, rfl⟩, ⟨_, rfl, rfl⟩, ⟨_, rfl, rfl⟩, ⟨_, rfl, rfl⟩, ⟨_, rfl, rfl⟩, trivial⟩ trivial trivial⟩ ?_
          clear H
          rintro k14 _ ⟨v541, v542, v543, v544, v545, v546, v547, hk14, H, rfl⟩
          cases k14 with
          | zero => cases H
          | succ k14 =>
            rw [Fimpl_ShowRules.l14] at H
            refine WpC.seq ?_
            refine WpC.regionL ?_
            refine L.bin hF rfl rfl rfl rfl rfl rfl ?_
            refine L.nil ?_
            refine WpC.seq ?_
            refine WpC.cond rfl (fun hc => ?_) (fun hc => ?_)
            · replace H := condT hc H
              refine WpC.skip ?_
              refine WpC.seq ?_
              refine WpC.block ?_
              refine WpC.seq ?_
              refine WpC.regionL ?_
              obtain ⟨b551, hb551, H⟩ := bindS H
              refine L.idxR (xs := v545) (e := eI) Try.underlying77 info3 hF rfl rfl rfl rfl rfl hb551 rfl rfl ?_
              refine L.loadPe shape3 hF rfl rfl rfl rfl rfl ?_
              refine L.assign hF rfl rfl rfl ?_
              refine L.nil ?_
              refine WpC.regionL ?_
              refine L.move hF rfl rfl rfl ?_
              refine L.move hF rfl rfl rfl ?_
              obtain ⟨r552, hr552, H⟩ := bindS H
              refine L.call [false] [] [] 0 hF rfl rfl rfl ent128 rfl rfl rfl rfl rfl (Fimpl_Var_gives k14  b551 r552 hr552) rfl ?_
              obtain ⟨h553, H⟩ := condG H
              refine L.catS hF rfl rfl rfl rfl (of_decide_eq_true h553) ?_
              refine L.assign hF rfl rfl rfl ?_
              refine L.nil ?_
              refine WpC.regionL ?_
              refine L.bin hF rfl rfl rfl rfl rfl rfl ?_
              refine L.move hF rfl rfl rfl ?_
              refine L.nil ?_
              exact ⟨k14, _, by omega, ⟨(v541 ++ r552), v542, v543, v544, v545, v546, (IntKind.i64.wrap (v547 + (1 : Int))), by omega, H, rfl⟩, Le.mk [] hm rfl ⟨⟨_, rfl, rfl⟩, ⟨_, rfl, rfl⟩, ⟨_, rfl, rfl⟩, ⟨_, rfl, rfl⟩, ⟨_, rfl, rfl⟩, ⟨_, rfl, rfl⟩, ⟨_, rfl, rfl⟩, trivial⟩ trivial trivial⟩
            · replace H := condF hc H
              refine WpC.exit ?_
              refine WpC.regionL ?_
              refine L.bin hF rfl rfl rfl rfl rfl rfl ?_
              refine L.move hF rfl rfl rfl ?_
              refine L.nil ?_
              exact ⟨k12, _, by omega, ⟨v541, v542, v543, (IntKind.i64.wrap (v544 + (1 : Int))), by omega, H, rfl⟩, Le.mk [] hm rfl ⟨⟨_, rfl, rfl⟩, ⟨_, rfl, rfl⟩, ⟨_, rfl, rfl⟩, ⟨_, rfl, rfl⟩, trivial⟩ trivial trivial⟩
        have n16383 : W 1 #[true, true, true, true, true, true, true, true, true, true, true, true, true, true, false] (mkSt [(3, one (cS v460)), (5, one (Cell.ptr 0 0)), (14, one (Cell.sl g0 (List.map eTimpl_Rule v461))), (15, one (cI v462)), (16, one (cI v463)), (33, one (cS (((v460 ++ r510) ++ r512) ++ r514)))] [] [(0, [cI b509.Kind, Cell.sl true (List.map eI b509.Set), cI b509.N])] 1) := by
          refine hI _ _ _ ?_
          refine A.take 14 rfl (by kernel_rfl) (by kernel_rfl) (by kernel_rfl) rfl (Ca.assign) (fun Q0 k0 => L.assign hF rfl rfl rfl (L.nil k0)) ?_
          exact A.on (hO _ _ _ n32767) (Le.mk [(0, 0)] hm rfl ⟨⟨_, rfl, rfl⟩, ⟨_, rfl, rfl⟩, ⟨_, rfl, rfl⟩, ⟨_, rfl, rfl⟩, ⟨_, rfl, rfl⟩, trivial⟩ trivial ⟨⟨_, _, rfl, rfl, rfl⟩, trivial⟩)
        have n8191 : W 2 #[true, true, true, true, true, true, true, true, true, true, true, true, true, false, false] (mkSt [(3, one (cS v460)), (5, one (Cell.ptr 0 0)), (14, one (Cell.sl g0 (List.map eTimpl_Rule v461))), (15, one (cI v462)), (16, one (cI v463)), (28, one (cS ((v460 ++ r510) ++ r512))), (32, one (cS r514))] [] [(0, [cI b509.Kind, Cell.sl true (List.map eI b509.Set), cI b509.N])] 1) := by
          refine hI _ _ _ ?_
          refine A.take 13 rfl (by kernel_rfl) (by kernel_rfl) (by kernel_rfl) rfl (Ca.bin rfl rfl (calm_str _ _ _ _ _ _)) (fun Q0 k0 => L.catS hF rfl rfl rfl rfl (of_decide_eq_true h515) (L.nil k0)) ?_
          exact A.on (hO _ _ _ n16383) (Le.mk [(0, 0)] hm rfl ⟨⟨_, rfl, rfl⟩, ⟨_, rfl, rfl⟩, ⟨_, rfl, rfl⟩, ⟨_, rfl, rfl⟩, ⟨_, rfl, rfl⟩, ⟨_, rfl, rfl⟩, trivial⟩ trivial ⟨⟨_, _, rfl, rfl, rfl⟩, trivial⟩)
        have n4095 : W 3 #[true, true, true, true, true, true, true, true, true, true, true, true, false, false, false] (mkSt [(3, one (cS v460)), (5, one (Cell.ptr 0 0)), (14, one (Cell.sl g0 (List.map eTimpl_Rule v461))), (15, one (cI v462)), (16, one (cI v463)), (28, one (cS ((v460 ++ r510) ++ r512))), (31, one (cI (b509.Set.length : Int)))] [] [(0, [cI b509.Kind, Cell.sl true (List.map eI b509.Set), cI b509.N])] 1) := by
          refine hI _ _ _ ?_
          refine A.all [12] (by kernel_rfl) rfl ⟨⟨_, rfl, ?_⟩, trivial⟩
          · refine L.call [false] [] [] 1 hF rfl rfl rfl ent128 rfl rfl rfl rfl rfl (Fimpl_Var_gives k12  (b509.Set.length : Int) r514 hr514) rfl ?_
            refine L.nil ?_
            exact A.on (hO _ _ _ n8191) (Le.mk [(0, 0)] hm rfl ⟨⟨_, rfl, rfl⟩, ⟨_, rfl, rfl⟩, ⟨_, rfl, rfl⟩, ⟨_, rfl, rfl⟩, ⟨_, rfl, rfl⟩, ⟨_, rfl, rfl⟩, ⟨_, rfl, rfl⟩, trivial⟩ trivial ⟨⟨_, _, rfl, rfl, rfl⟩, trivial⟩)
        have n2047 : W 4 #[true, true, true, true, true, true, true, true, true, true, true, false, false, false, false] (mkSt [(3, one (cS v460)), (5, one (Cell.ptr 0 0)), (14, one (Cell.sl g0 (List.map eTimpl_Rule v461))), (15, one (cI v462)), (16, one (cI v463)), (28, one (cS ((v460 ++ r510) ++ r512))), (30, one (Cell.sl true (List.map eI b509.Set)))] [] [(0, [cI b509.Kind, Cell.sl true (List.map eI b509.Set), cI b509.N])] 1) := by
          refine hI _ _ _ ?_
          refine A.take 11 rfl (by kernel_rfl) (by kernel_rfl) (by kernel_rfl) rfl (Ca.lenR (xs := b509.Set) (e := eI) Try.underlying77 rfl rfl) (fun Q0 k0 => L.lenR (xs := b509.Set) (e := eI) Try.underlying77 hF rfl rfl rfl rfl (L.nil k0)) ?_
          exact A.on (hO _ _ _ n4095) (Le.mk [(0, 0)] hm rfl ⟨⟨_, rfl, rfl⟩, ⟨_, rfl, rfl⟩, ⟨_, rfl, rfl⟩, ⟨_, rfl, rfl⟩, ⟨_, rfl, rfl⟩, ⟨_, rfl, rfl⟩, ⟨_, rfl, rfl⟩, trivial⟩ trivial ⟨⟨_, _, rfl, rfl, rfl⟩, trivial⟩)
        have n3839 : W 4 #[true, true, true, true, true, true, true, true, false, true, true, true, false, false, false] (mkSt [(3, one (cS v460)), (5, one (Cell.ptr 0 0)), (14, one (Cell.sl g0 (List.map eTimpl_Rule v461))), (15, one (cI v462)), (16, one (cI v463)), (24, one (cS (v460 ++ r510))), (27, one (cS r512)), (31, one (cI (b509.Set.length : Int)))] [] [(0, [cI b509.Kind, Cell.sl true (List.map eI b509.Set), cI b509.N])] 1) := by
          refine hI _ _ _ ?_
          refine A.take 8 rfl (by kernel_rfl) (by kernel_rfl) (by kernel_rfl) rfl (Ca.bin rfl rfl (calm_str _ _ _ _ _ _)) (fun Q0 k0 => L.catS hF rfl rfl rfl rfl (of_decide_eq_true h513) (L.nil k0)) ?_
          exact A.on (hO _ _ _ n4095) (Le.mk [(0, 0)] hm rfl ⟨⟨_, rfl, rfl⟩, ⟨_, rfl, rfl⟩, ⟨_, rfl, rfl⟩, ⟨_, rfl, rfl⟩, ⟨_, rfl, rfl⟩, ⟨_, rfl, rfl⟩, ⟨_, rfl, rfl⟩, trivial⟩ trivial ⟨⟨_, _, rfl, rfl, rfl⟩, trivial⟩)
        have n1023 : W 5 #[true, true, true, true, true, true, true, true, true, true, false, false, false, false, false] (mkSt [(3, one (cS v460)), (5, one (Cell.ptr 0 0)), (14, one (Cell.sl g0 (List.map eTimpl_Rule v461))), (15, one (cI v462)), (16, one (cI v463)), (28, one (cS ((v460 ++ r510) ++ r512))), (29, one (Cell.ptr 0 1))] [] [(0, [cI b509.Kind, Cell.sl true (List.map eI b509.Set), cI b509.N])] 1) := by
          refine hI _ _ _ ?_
          refine A.all [10] (by kernel_rfl) rfl ⟨⟨_, rfl, ?_⟩, trivial⟩
          · refine L.loadPtr shape77 hF rfl rfl rfl rfl rfl rfl ?_
            refine L.nil ?_
            exact A.on (hO _ _ _ n2047) (Le.mk [(0, 0)] hm rfl ⟨⟨_, rfl, rfl⟩, ⟨_, rfl, rfl⟩, ⟨_, rfl, rfl⟩, ⟨_, rfl, rfl⟩, ⟨_, rfl, rfl⟩, ⟨_, rfl, rfl⟩, ⟨_, rfl, rfl⟩, trivial⟩ trivial ⟨⟨_, _, rfl, rfl, rfl⟩, trivial⟩)
        have n3711 : W 5 #[true, true, true, true, true, true, true, false, false, true, true, true, false, false, false] (mkSt [(3, one (cS v460)), (5, one (Cell.ptr 0 0)), (14, one (Cell.sl g0 (List.map eTimpl_Rule v461))), (15, one (cI v462)), (16, one (cI v463)), (24, one (cS (v460 ++ r510))), (26, one (cI b509.N)), (31, one (cI (b509.Set.length : Int)))] [] [(0, [cI b509.Kind, Cell.sl true (List.map eI b509.Set), cI b509.N])] 1) := by
          refine hI _ _ _ ?_
          refine A.all [7] (by kernel_rfl) rfl ⟨⟨_, rfl, ?_⟩, trivial⟩
          · refine L.call [false] [] [] 1 hF rfl rfl rfl ent128 rfl rfl rfl rfl rfl (Fimpl_Var_gives k12  b509.N r512 hr512) rfl ?_
            refine L.nil ?_
            exact A.on (hO _ _ _ n3839) (Le.mk [(0, 0)] hm rfl ⟨⟨_, rfl, rfl⟩, ⟨_, rfl, rfl⟩, ⟨_, rfl, rfl⟩, ⟨_, rfl, rfl⟩, ⟨_, rfl, rfl⟩, ⟨_, rfl, rfl⟩, ⟨_, rfl, rfl⟩, ⟨_, rfl, rfl⟩, trivial⟩ trivial ⟨⟨_, _, rfl, rfl, rfl⟩, trivial⟩)
        have n767 : W 6 #[true, true, true, true, true, true, true, true, false, true, false, false, false, false, false] (mkSt [(3, one (cS v460)), (5, one (Cell.ptr 0 0)), (14, one (Cell.sl g0 (List.map eTimpl_Rule v461))), (15, one (cI v462)), (16, one (cI v463)), (24, one (cS (v460 ++ r510))), (27, one (cS r512)), (29, one (Cell.ptr 0 1))] [] [(0, [cI b509.Kind, Cell.sl true (List.map eI b509.Set), cI b509.N])] 1) := by
          refine hI _ _ _ ?_
          refine A.take 8 rfl (by kernel_rfl) (by kernel_rfl) (by kernel_rfl) rfl (Ca.bin rfl rfl (calm_str _ _ _ _ _ _)) (fun Q0 k0 => L.catS hF rfl rfl rfl rfl (of_decide_eq_true h513) (L.nil k0)) ?_
          exact A.on (hO _ _ _ n1023) (Le.mk [(0, 0)] hm rfl ⟨⟨_, rfl, rfl⟩, ⟨_, rfl, rfl⟩, ⟨_, rfl, rfl⟩, ⟨_, rfl, rfl⟩, ⟨_, rfl, rfl⟩, ⟨_, rfl, rfl⟩, ⟨_, rfl, rfl⟩, trivial⟩ trivial ⟨⟨_, _, rfl, rfl, rfl⟩, trivial⟩)
        have n1663 : W 6 #[true, true, true, true, true, true, true, false, false, true, true, false, false, false, false] (mkSt [(3, one (cS v460)), (5, one (Cell.ptr 0 0)), (14, one (Cell.sl g0 (List.map eTimpl_Rule v461))), (15, one (cI v462)), (16, one (cI v463)), (24, one (cS (v460 ++ r510))), (26, one (cI b509.N)), (30, one (Cell.sl true (List.map eI b509.Set)))] [] [(0, [cI b509.Kind, Cell.sl true (List.map eI b509.Set), cI b509.N])] 1) := by
          refine hI _ _ _ ?_
          refine A.take 11 rfl (by kernel_rfl) (by kernel_rfl) (by kernel_rfl) rfl (Ca.lenR (xs := b509.Set) (e := eI) Try.underlying77 rfl rfl) (fun Q0 k0 => L.lenR (xs := b509.Set) (e := eI) Try.underlying77 hF rfl rfl rfl rfl (L.nil k0)) ?_
          exact A.on (hO _ _ _ n3711) (Le.mk [(0, 0)] hm rfl ⟨⟨_, rfl, rfl⟩, ⟨_, rfl, rfl⟩, ⟨_, rfl, rfl⟩, ⟨_, rfl, rfl⟩, ⟨_, rfl, rfl⟩, ⟨_, rfl, rfl⟩, ⟨_, rfl, rfl⟩, ⟨_, rfl, rfl⟩, trivial⟩ trivial ⟨⟨_, _, rfl, rfl, rfl⟩, trivial⟩)
        have n3647 : W 6 #[true, true, true, true, true, true, false, false, false, true, true, true, false, false, false] (mkSt [(3, one (cS v460)), (5, one (Cell.ptr 0 0)), (14, one (Cell.sl g0 (List.map eTimpl_Rule v461))), (15, one (cI v462)), (16, one (cI v463)), (24, one (cS (v460 ++ r510))), (25, one (Cell.ptr 0 2)), (31, one (cI (b509.Set.length : Int)))] [] [(0, [cI b509.Kind, Cell.sl true (List.map eI b509.Set), cI b509.N])] 1) := by
          refine hI _ _ _ ?_
          refine A.all [6] (by kernel_rfl) rfl ⟨⟨_, rfl, ?_⟩, trivial⟩
          · refine L.loadPtr shape3 hF rfl rfl rfl rfl rfl rfl ?_
            refine L.nil ?_
            exact A.on (hO _ _ _ n3711) (Le.mk [(0, 0)] hm rfl ⟨⟨_, rfl, rfl⟩, ⟨_, rfl, rfl⟩, ⟨_, rfl, rfl⟩, ⟨_, rfl, rfl⟩, ⟨_, rfl, rfl⟩, ⟨_, rfl, rfl⟩, ⟨_, rfl, rfl⟩, ⟨_, rfl, rfl⟩, trivial⟩ trivial ⟨⟨_, _, rfl, rfl, rfl⟩, trivial⟩)
        have n3695 : W 6 #[true, true, true, true, false, true, true, false, false, true, true, true, false, false, false] (mkSt [(3, one (cS v460)), (5, one (Cell.ptr 0 0)), (14, one (Cell.sl g0 (List.map eTimpl_Rule v461))), (15, one (cI v462)), (16, one (cI v463)), (20, one (cS v460)), (23, one (cS r510)), (26, one (cI b509.N)), (31, one (cI (b509.Set.length : Int)))] [] [(0, [cI b509.Kind, Cell.sl true (List.map eI b509.Set), cI b509.N])] 1) := by
          refine hI _ _ _ ?_
          refine A.take 4 rfl (by kernel_rfl) (by kernel_rfl) (by kernel_rfl) rfl (Ca.bin rfl rfl (calm_str _ _ _ _ _ _)) (fun Q0 k0 => L.catS hF rfl rfl rfl rfl (of_decide_eq_true h511) (L.nil k0)) ?_
          exact A.on (hO _ _ _ n3711) (Le.mk [(0, 0)] hm rfl ⟨⟨_, rfl, rfl⟩, ⟨_, rfl, rfl⟩, ⟨_, rfl, rfl⟩, ⟨_, rfl, rfl⟩, ⟨_, rfl, rfl⟩, ⟨_, rfl, rfl⟩, ⟨_, rfl, rfl⟩, ⟨_, rfl, rfl⟩, trivial⟩ trivial ⟨⟨_, _, rfl, rfl, rfl⟩, trivial⟩)
        have n639 : W 7 #[true, true, true, true, true, true, true, false, false, true, false, false, false, false, false] (mkSt [(3, one (cS v460)), (5, one (Cell.ptr 0 0)), (14, one (Cell.sl g0 (List.map eTimpl_Rule v461))), (15, one (cI v462)), (16, one (cI v463)), (24, one (cS (v460 ++ r510))), (26, one (cI b509.N)), (29, one (Cell.ptr 0 1))] [] [(0, [cI b509.Kind, Cell.sl true (List.map eI b509.Set), cI b509.N])] 1) := by
          refine hI _ _ _ ?_
          refine A.all [7, 10] (by kernel_rfl) rfl ⟨⟨_, rfl, ?_⟩, ⟨_, rfl, ?_⟩, trivial⟩
          · refine L.call [false] [] [] 1 hF rfl rfl rfl ent128 rfl rfl rfl rfl rfl (Fimpl_Var_gives k12  b509.N r512 hr512) rfl ?_
            refine L.nil ?_
            exact A.on (hO _ _ _ n767) (Le.mk [(0, 0)] hm rfl ⟨⟨_, rfl, rfl⟩, ⟨_, rfl, rfl⟩, ⟨_, rfl, rfl⟩, ⟨_, rfl, rfl⟩, ⟨_, rfl, rfl⟩, ⟨_, rfl, rfl⟩, ⟨_, rfl, rfl⟩, ⟨_, rfl, rfl⟩, trivial⟩ trivial ⟨⟨_, _, rfl, rfl, rfl⟩, trivial⟩)
          · refine L.loadPtr shape77 hF rfl rfl rfl rfl rfl rfl ?_
            refine L.nil ?_
            exact A.on (hO _ _ _ n1663) (Le.mk [(0, 0)] hm rfl ⟨⟨_, rfl, rfl⟩, ⟨_, rfl, rfl⟩, ⟨_, rfl, rfl⟩, ⟨_, rfl, rfl⟩, ⟨_, rfl, rfl⟩, ⟨_, rfl, rfl⟩, ⟨_, rfl, rfl⟩, ⟨_, rfl, rfl⟩, trivial⟩ trivial ⟨⟨_, _, rfl, rfl, rfl⟩, trivial⟩)
        have n3631 : W 7 #[true, true, true, true, false, true, false, false, false, true, true, true, false, false, false] (mkSt [(3, one (cS v460)), (5, one (Cell.ptr 0 0)), (14, one (Cell.sl g0 (List.map eTimpl_Rule v461))), (15, one (cI v462)), (16, one (cI v463)), (20, one (cS v460)), (23, one (cS r510)), (25, one (Cell.ptr 0 2)), (31, one (cI (b509.Set.length : Int)))] [] [(0, [cI b509.Kind, Cell.sl true (List.map eI b509.Set), cI b509.N])] 1) := by
          refine hI _ _ _ ?_
          refine A.take 4 rfl (by kernel_rfl) (by kernel_rfl) (by kernel_rfl) rfl (Ca.bin rfl rfl (calm_str _ _ _ _ _ _)) (fun Q0 k0 => L.catS hF rfl rfl rfl rfl (of_decide_eq_true h511) (L.nil k0)) ?_
          exact A.on (hO _ _ _ n3647) (Le.mk [(0, 0)] hm rfl ⟨⟨_, rfl, rfl⟩, ⟨_, rfl, rfl⟩, ⟨_, rfl, rfl⟩, ⟨_, rfl, rfl⟩, ⟨_, rfl, rfl⟩, ⟨_, rfl, rfl⟩, ⟨_, rfl, rfl⟩, ⟨_, rfl, rfl⟩, trivial⟩ trivial ⟨⟨_, _, rfl, rfl, rfl⟩, trivial⟩)
        have n1599 : W 7 #[true, true, true, true, true, true, false, false, false, true, true, false, false, false, false] (mkSt [(3, one (cS v460)), (5, one (Cell.ptr 0 0)), (14, one (Cell.sl g0 (List.map eTimpl_Rule v461))), (15, one (cI v462)), (16, one (cI v463)), (24, one (cS (v460 ++ r510))), (25, one (Cell.ptr 0 2)), (30, one (Cell.sl true (List.map eI b509.Set)))] [] [(0, [cI b509.Kind, Cell.sl true (List.map eI b509.Set), cI b509.N])] 1) := by
          refine hI _ _ _ ?_
          refine A.take 11 rfl (by kernel_rfl) (by kernel_rfl) (by kernel_rfl) rfl (Ca.lenR (xs := b509.Set) (e := eI) Try.underlying77 rfl rfl) (fun Q0 k0 => L.lenR (xs := b509.Set) (e := eI) Try.underlying77 hF rfl rfl rfl rfl (L.nil k0)) ?_
          exact A.on (hO _ _ _ n3647) (Le.mk [(0, 0)] hm rfl ⟨⟨_, rfl, rfl⟩, ⟨_, rfl, rfl⟩, ⟨_, rfl, rfl⟩, ⟨_, rfl, rfl⟩, ⟨_, rfl, rfl⟩, ⟨_, rfl, rfl⟩, ⟨_, rfl, rfl⟩, ⟨_, rfl, rfl⟩, trivial⟩ trivial ⟨⟨_, _, rfl, rfl, rfl⟩, trivial⟩)
        have n3687 : W 7 #[true, true, true, false, false, true, true, false, false, true, true, true, false, false, false] (mkSt [(3, one (cS v460)), (5, one (Cell.ptr 0 0)), (14, one (Cell.sl g0 (List.map eTimpl_Rule v461))), (15, one (cI v462)), (16, one (cI v463)), (20, one (cS v460)), (22, one (cI b509.Kind)), (26, one (cI b509.N)), (31, one (cI (b509.Set.length : Int)))] [] [(0, [cI b509.Kind, Cell.sl true (List.map eI b509.Set), cI b509.N])] 1) := by
          refine hI _ _ _ ?_
          refine A.all [3] (by kernel_rfl) rfl ⟨⟨_, rfl, ?_⟩, trivial⟩
          · refine L.call [false] [] [] 1 hF rfl rfl rfl ent128 rfl rfl rfl rfl rfl (Fimpl_Var_gives k12  b509.Kind r510 hr510) rfl ?_
            refine L.nil ?_
            exact A.on (hO _ _ _ n3695) (Le.mk [(0, 0)] hm rfl ⟨⟨_, rfl, rfl⟩, ⟨_, rfl, rfl⟩, ⟨_, rfl, rfl⟩, ⟨_, rfl, rfl⟩, ⟨_, rfl, rfl⟩, ⟨_, rfl, rfl⟩, ⟨_, rfl, rfl⟩, ⟨_, rfl, rfl⟩, ⟨_, rfl, rfl⟩, trivial⟩ trivial ⟨⟨_, _, rfl, rfl, rfl⟩, trivial⟩)
        have n3623 : W 8 #[true, true, true, false, false, true, false, false, false, true, true, true, false, false, false] (mkSt [(3, one (cS v460)), (5, one (Cell.ptr 0 0)), (14, one (Cell.sl g0 (List.map eTimpl_Rule v461))), (15, one (cI v462)), (16, one (cI v463)), (20, one (cS v460)), (22, one (cI b509.Kind)), (25, one (Cell.ptr 0 2)), (31, one (cI (b509.Set.length : Int)))] [] [(0, [cI b509.Kind, Cell.sl true (List.map eI b509.Set), cI b509.N])] 1) := by
          refine hI _ _ _ ?_
          refine A.all [3, 6] (by kernel_rfl) rfl ⟨⟨_, rfl, ?_⟩, ⟨_, rfl, ?_⟩, trivial⟩
          · refine L.call [false] [] [] 1 hF rfl rfl rfl ent128 rfl rfl rfl rfl rfl (Fimpl_Var_gives k12  b509.Kind r510 hr510) rfl ?_
            refine L.nil ?_
            exact A.on (hO _ _ _ n3631) (Le.mk [(0, 0)] hm rfl ⟨⟨_, rfl, rfl⟩, ⟨_, rfl, rfl⟩, ⟨_, rfl, rfl⟩, ⟨_, rfl, rfl⟩, ⟨_, rfl, rfl⟩, ⟨_, rfl, rfl⟩, ⟨_, rfl, rfl⟩, ⟨_, rfl, rfl⟩, ⟨_, rfl, rfl⟩, trivial⟩ trivial ⟨⟨_, _, rfl, rfl, rfl⟩, trivial⟩)
          · refine L.loadPtr shape3 hF rfl rfl rfl rfl rfl rfl ?_
            refine L.nil ?_
            exact A.on (hO _ _ _ n3687) (Le.mk [(0, 0)] hm rfl ⟨⟨_, rfl, rfl⟩, ⟨_, rfl, rfl⟩, ⟨_, rfl, rfl⟩, ⟨_, rfl, rfl⟩, ⟨_, rfl, rfl⟩, ⟨_, rfl, rfl⟩, ⟨_, rfl, rfl⟩, ⟨_, rfl, rfl⟩, ⟨_, rfl, rfl⟩, trivial⟩ trivial ⟨⟨_, _, rfl, rfl, rfl⟩, trivial⟩)
        have n575 : W 8 #[true, true, true, true, true, true, false, false, false, true, false, false, false, false, false] (mkSt [(3, one (cS v460)), (5, one (Cell.ptr 0 0)), (14, one (Cell.sl g0 (List.map eTimpl_Rule v461))), (15, one (cI v462)), (16, one (cI v463)), (24, one (cS (v460 ++ r510))), (25, one (Cell.ptr 0 2)), (29, one (Cell.ptr 0 1))] [] [(0, [cI b509.Kind, Cell.sl true (List.map eI b509.Set), cI b509.N])] 1) := by
          refine hI _ _ _ ?_
          refine A.all [6, 10] (by kernel_rfl) rfl ⟨⟨_, rfl, ?_⟩, ⟨_, rfl, ?_⟩, trivial⟩
          · refine L.loadPtr shape3 hF rfl rfl rfl rfl rfl rfl ?_
            refine L.nil ?_
            exact A.on (hO _ _ _ n639) (Le.mk [(0, 0)] hm rfl ⟨⟨_, rfl, rfl⟩, ⟨_, rfl, rfl⟩, ⟨_, rfl, rfl⟩, ⟨_, rfl, rfl⟩, ⟨_, rfl, rfl⟩, ⟨_, rfl, rfl⟩, ⟨_, rfl, rfl⟩, ⟨_, rfl, rfl⟩, trivial⟩ trivial ⟨⟨_, _, rfl, rfl, rfl⟩, trivial⟩)
          · refine L.loadPtr shape77 hF rfl rfl rfl rfl rfl rfl ?_
            refine L.nil ?_
            exact A.on (hO _ _ _ n1599) (Le.mk [(0, 0)] hm rfl ⟨⟨_, rfl, rfl⟩, ⟨_, rfl, rfl⟩, ⟨_, rfl, rfl⟩, ⟨_, rfl, rfl⟩, ⟨_, rfl, rfl⟩, ⟨_, rfl, rfl⟩, ⟨_, rfl, rfl⟩, ⟨_, rfl, rfl⟩, trivial⟩ trivial ⟨⟨_, _, rfl, rfl, rfl⟩, trivial⟩)
        have n3683 : W 8 #[true, true, false, false, false, true, true, false, false, true, true, true, false, false, false] (mkSt [(3, one (cS v460)), (5, one (Cell.ptr 0 0)), (14, one (Cell.sl g0 (List.map eTimpl_Rule v461))), (15, one (cI v462)), (16, one (cI v463)), (20, one (cS v460)), (21, one (Cell.ptr 0 0)), (26, one (cI b509.N)), (31, one (cI (b509.Set.length : Int)))] [] [(0, [cI b509.Kind, Cell.sl true (List.map eI b509.Set), cI b509.N])] 1) := by
          refine hI _ _ _ ?_
          refine A.all [2] (by kernel_rfl) rfl ⟨⟨_, rfl, ?_⟩, trivial⟩
          · refine L.loadPtr shape3 hF rfl rfl rfl rfl rfl rfl ?_
            refine L.nil ?_
            exact A.on (hO _ _ _ n3687) (Le.mk [(0, 0)] hm rfl ⟨⟨_, rfl, rfl⟩, ⟨_, rfl, rfl⟩, ⟨_, rfl, rfl⟩, ⟨_, rfl, rfl⟩, ⟨_, rfl, rfl⟩, ⟨_, rfl, rfl⟩, ⟨_, rfl, rfl⟩, ⟨_, rfl, rfl⟩, ⟨_, rfl, rfl⟩, trivial⟩ trivial ⟨⟨_, _, rfl, rfl, rfl⟩, trivial⟩)
        have n1639 : W 8 #[true, true, true, false, false, true, true, false, false, true, true, false, false, false, false] (mkSt [(3, one (cS v460)), (5, one (Cell.ptr 0 0)), (14, one (Cell.sl g0 (List.map eTimpl_Rule v461))), (15, one (cI v462)), (16, one (cI v463)), (20, one (cS v460)), (22, one (cI b509.Kind)), (26, one (cI b509.N)), (30, one (Cell.sl true (List.map eI b509.Set)))] [] [(0, [cI b509.Kind, Cell.sl true (List.map eI b509.Set), cI b509.N])] 1) := by
          refine hI _ _ _ ?_
          refine A.take 11 rfl (by kernel_rfl) (by kernel_rfl) (by kernel_rfl) rfl (Ca.lenR (xs := b509.Set) (e := eI) Try.underlying77 rfl rfl) (fun Q0 k0 => L.lenR (xs := b509.Set) (e := eI) Try.underlying77 hF rfl rfl rfl rfl (L.nil k0)) ?_
          exact A.on (hO _ _ _ n3687) (Le.mk [(0, 0)] hm rfl ⟨⟨_, rfl, rfl⟩, ⟨_, rfl, rfl⟩, ⟨_, rfl, rfl⟩, ⟨_, rfl, rfl⟩, ⟨_, rfl, rfl⟩, ⟨_, rfl, rfl⟩, ⟨_, rfl, rfl⟩, ⟨_, rfl, rfl⟩, ⟨_, rfl, rfl⟩, trivial⟩ trivial ⟨⟨_, _, rfl, rfl, rfl⟩, trivial⟩)
        have n623 : W 8 #[true, true, true, true, false, true, true, false, false, true, false, false, false, false, false] (mkSt [(3, one (cS v460)), (5, one (Cell.ptr 0 0)), (14, one (Cell.sl g0 (List.map eTimpl_Rule v461))), (15, one (cI v462)), (16, one (cI v463)), (20, one (cS v460)), (23, one (cS r510)), (26, one (cI b509.N)), (29, one (Cell.ptr 0 1))] [] [(0, [cI b509.Kind, Cell.sl true (List.map eI b509.Set), cI b509.N])] 1) := by
          refine hI _ _ _ ?_
          refine A.take 4 rfl (by kernel_rfl) (by kernel_rfl) (by kernel_rfl) rfl (Ca.bin rfl rfl (calm_str _ _ _ _ _ _)) (fun Q0 k0 => L.catS hF rfl rfl rfl rfl (of_decide_eq_true h511) (L.nil k0)) ?_
          exact A.on (hO _ _ _ n639) (Le.mk [(0, 0)] hm rfl ⟨⟨_, rfl, rfl⟩, ⟨_, rfl, rfl⟩, ⟨_, rfl, rfl⟩, ⟨_, rfl, rfl⟩, ⟨_, rfl, rfl⟩, ⟨_, rfl, rfl⟩, ⟨_, rfl, rfl⟩, ⟨_, rfl, rfl⟩, trivial⟩ trivial ⟨⟨_, _, rfl, rfl, rfl⟩, trivial⟩)
        have n3619 : W 9 #[true, true, false, false, false, true, false, false, false, true, true, true, false, false, false] (mkSt [(3, one (cS v460)), (5, one (Cell.ptr 0 0)), (14, one (Cell.sl g0 (List.map eTimpl_Rule v461))), (15, one (cI v462)), (16, one (cI v463)), (20, one (cS v460)), (21, one (Cell.ptr 0 0)), (25, one (Cell.ptr 0 2)), (31, one (cI (b509.Set.length : Int)))] [] [(0, [cI b509.Kind, Cell.sl true (List.map eI b509.Set), cI b509.N])] 1) := by
          refine hI _ _ _ ?_
          refine A.all [2, 6] (by kernel_rfl) rfl ⟨⟨_, rfl, ?_⟩, ⟨_, rfl, ?_⟩, trivial⟩
          · refine L.loadPtr shape3 hF rfl rfl rfl rfl rfl rfl ?_
            refine L.nil ?_
            exact A.on (hO _ _ _ n3623) (Le.mk [(0, 0)] hm rfl ⟨⟨_, rfl, rfl⟩, ⟨_, rfl, rfl⟩, ⟨_, rfl, rfl⟩, ⟨_, rfl, rfl⟩, ⟨_, rfl, rfl⟩, ⟨_, rfl, rfl⟩, ⟨_, rfl, rfl⟩, ⟨_, rfl, rfl⟩, ⟨_, rfl, rfl⟩, trivial⟩ trivial ⟨⟨_, _, rfl, rfl, rfl⟩, trivial⟩)
          · refine L.loadPtr shape3 hF rfl rfl rfl rfl rfl rfl ?_
            refine L.nil ?_
            exact A.on (hO _ _ _ n3683) (Le.mk [(0, 0)] hm rfl ⟨⟨_, rfl, rfl⟩, ⟨_, rfl, rfl⟩, ⟨_, rfl, rfl⟩, ⟨_, rfl, rfl⟩, ⟨_, rfl, rfl⟩, ⟨_, rfl, rfl⟩, ⟨_, rfl, rfl⟩, ⟨_, rfl, rfl⟩, ⟨_, rfl, rfl⟩, trivial⟩ trivial ⟨⟨_, _, rfl, rfl, rfl⟩, trivial⟩)
        have n1575 : W 9 #[true, true, true, false, false, true, false, false, false, true, true, false, false, false, false] (mkSt [(3, one (cS v460)), (5, one (Cell.ptr 0 0)), (14, one (Cell.sl g0 (List.map eTimpl_Rule v461))), (15, one (cI v462)), (16, one (cI v463)), (20, one (cS v460)), (22, one (cI b509.Kind)), (25, one (Cell.ptr 0 2)), (30, one (Cell.sl true (List.map eI b509.Set)))] [] [(0, [cI b509.Kind, Cell.sl true (List.map eI b509.Set), cI b509.N])] 1) := by
          refine hI _ _ _ ?_
          refine A.take 11 rfl (by kernel_rfl) (by kernel_rfl) (by kernel_rfl) rfl (Ca.lenR (xs := b509.Set) (e := eI) Try.underlying77 rfl rfl) (fun Q0 k0 => L.lenR (xs := b509.Set) (e := eI) Try.underlying77 hF rfl rfl rfl rfl (L.nil k0)) ?_
          exact A.on (hO _ _ _ n3623) (Le.mk [(0, 0)] hm rfl ⟨⟨_, rfl, rfl⟩, ⟨_, rfl, rfl⟩, ⟨_, rfl, rfl⟩, ⟨_, rfl, rfl⟩, ⟨_, rfl, rfl⟩, ⟨_, rfl, rfl⟩, ⟨_, rfl, rfl⟩, ⟨_, rfl, rfl⟩, ⟨_, rfl, rfl⟩, trivial⟩ trivial ⟨⟨_, _, rfl, rfl, rfl⟩, trivial⟩)
        have n559 : W 9 #[true, true, true, true, false, true, false, false, false, true, false, false, false, false, false] (mkSt [(3, one (cS v460)), (5, one (Cell.ptr 0 0)), (14, one (Cell.sl g0 (List.map eTimpl_Rule v461))), (15, one (cI v462)), (16, one (cI v463)), (20, one (cS v460)), (23, one (cS r510)), (25, one (Cell.ptr 0 2)), (29, one (Cell.ptr 0 1))] [] [(0, [cI b509.Kind, Cell.sl true (List.map eI b509.Set), cI b509.N])] 1) := by
          refine hI _ _ _ ?_
          refine A.take 4 rfl (by kernel_rfl) (by kernel_rfl) (by kernel_rfl) rfl (Ca.bin rfl rfl (calm_str _ _ _ _ _ _)) (fun Q0 k0 => L.catS hF rfl rfl rfl rfl (of_decide_eq_true h511) (L.nil k0)) ?_
          exact A.on (hO _ _ _ n575) (Le.mk [(0, 0)] hm rfl ⟨⟨_, rfl, rfl⟩, ⟨_, rfl, rfl⟩, ⟨_, rfl, rfl⟩, ⟨_, rfl, rfl⟩, ⟨_, rfl, rfl⟩, ⟨_, rfl, rfl⟩, ⟨_, rfl, rfl⟩, ⟨_, rfl, rfl⟩, trivial⟩ trivial ⟨⟨_, _, rfl, rfl, rfl⟩, trivial⟩)
        have n1635 : W 9 #[true, true, false, false, false, true, true, false, false, true, true, false, false, false, false] (mkSt [(3, one (cS v460)), (5, one (Cell.ptr 0 0)), (14, one (Cell.sl g0 (List.map eTimpl_Rule v461))), (15, one (cI v462)), (16, one (cI v463)), (20, one (cS v460)), (21, one (Cell.ptr 0 0)), (26, one (cI b509.N)), (30, one (Cell.sl true (List.map eI b509.Set)))] [] [(0, [cI b509.Kind, Cell.sl true (List.map eI b509.Set), cI b509.N])] 1) := by
          refine hI _ _ _ ?_
          refine A.take 11 rfl (by kernel_rfl) (by kernel_rfl) (by kernel_rfl) rfl (Ca.lenR (xs := b509.Set) (e := eI) Try.underlying77 rfl rfl) (fun Q0 k0 => L.lenR (xs := b509.Set) (e := eI) Try.underlying77 hF rfl rfl rfl rfl (L.nil k0)) ?_
          exact A.on (hO _ _ _ n3683) (Le.mk [(0, 0)] hm rfl ⟨⟨_, rfl, rfl⟩, ⟨_, rfl, rfl⟩, ⟨_, rfl, rfl⟩, ⟨_, rfl, rfl⟩, ⟨_, rfl, rfl⟩, ⟨_, rfl, rfl⟩, ⟨_, rfl, rfl⟩, ⟨_, rfl, rfl⟩, ⟨_, rfl, rfl⟩, trivial⟩ trivial ⟨⟨_, _, rfl, rfl, rfl⟩, trivial⟩)
        have n615 : W 9 #[true, true, true, false, false, true, true, false, false, true, false, false, false, false, false] (mkSt [(3, one (cS v460)), (5, one (Cell.ptr 0 0)), (14, one (Cell.sl g0 (List.map eTimpl_Rule v461))), (15, one (cI v462)), (16, one (cI v463)), (20, one (cS v460)), (22, one (cI b509.Kind)), (26, one (cI b509.N)), (29, one (Cell.ptr 0 1))] [] [(0, [cI b509.Kind, Cell.sl true (List.map eI b509.Set), cI b509.N])] 1) := by
          refine hI _ _ _ ?_
          refine A.all [3, 10] (by kernel_rfl) rfl ⟨⟨_, rfl, ?_⟩, ⟨_, rfl, ?_⟩, trivial⟩
          · refine L.call [false] [] [] 1 hF rfl rfl rfl ent128 rfl rfl rfl rfl rfl (Fimpl_Var_gives k12  b509.Kind r510 hr510) rfl ?_
            refine L.nil ?_
            exact A.on (hO _ _ _ n623) (Le.mk [(0, 0)] hm rfl ⟨⟨_, rfl, rfl⟩, ⟨_, rfl, rfl⟩, ⟨_, rfl, rfl⟩, ⟨_, rfl, rfl⟩, ⟨_, rfl, rfl⟩, ⟨_, rfl, rfl⟩, ⟨_, rfl, rfl⟩, ⟨_, rfl, rfl⟩, ⟨_, rfl, rfl⟩, trivial⟩ trivial ⟨⟨_, _, rfl, rfl, rfl⟩, trivial⟩)
          · refine L.loadPtr shape77 hF rfl rfl rfl rfl rfl rfl ?_
            refine L.nil ?_
            exact A.on (hO _ _ _ n1639) (Le.mk [(0, 0)] hm rfl ⟨⟨_, rfl, rfl⟩, ⟨_, rfl, rfl⟩, ⟨_, rfl, rfl⟩, ⟨_, rfl, rfl⟩, ⟨_, rfl, rfl⟩, ⟨_, rfl, rfl⟩, ⟨_, rfl, rfl⟩, ⟨_, rfl, rfl⟩, ⟨_, rfl, rfl⟩, trivial⟩ trivial ⟨⟨_, _, rfl, rfl, rfl⟩, trivial⟩)
        have n1571 : W 10 #[true, true, false, false, false, true, false, false, false, true, true, false, false, false, false] (mkSt [(3, one (cS v460)), (5, one (Cell.ptr 0 0)), (14, one (Cell.sl g0 (List.map eTimpl_Rule v461))), (15, one (cI v462)), (16, one (cI v463)), (20, one (cS v460)), (21, one (Cell.ptr 0 0)), (25, one (Cell.ptr 0 2)), (30, one (Cell.sl true (List.map eI b509.Set)))] [] [(0, [cI b509.Kind, Cell.sl true (List.map eI b509.Set), cI b509.N])] 1) := by
          refine hI _ _ _ ?_
          refine A.take 11 rfl (by kernel_rfl) (by kernel_rfl) (by kernel_rfl) rfl (Ca.lenR (xs := b509.Set) (e := eI) Try.underlying77 rfl rfl) (fun Q0 k0 => L.lenR (xs := b509.Set) (e := eI) Try.underlying77 hF rfl rfl rfl rfl (L.nil k0)) ?_
          exact A.on (hO _ _ _ n3619) (Le.mk [(0, 0)] hm rfl ⟨⟨_, rfl, rfl⟩, ⟨_, rfl, rfl⟩, ⟨_, rfl, rfl⟩, ⟨_, rfl, rfl⟩, ⟨_, rfl, rfl⟩, ⟨_, rfl, rfl⟩, ⟨_, rfl, rfl⟩, ⟨_, rfl, rfl⟩, ⟨_, rfl, rfl⟩, trivial⟩ trivial ⟨⟨_, _, rfl, rfl, rfl⟩, trivial⟩)
        have n551 : W 10 #[true, true, true, false, false, true, false, false, false, true, false, false, false, false, false] (mkSt [(3, one (cS v460)), (5, one (Cell.ptr 0 0)), (14, one (Cell.sl g0 (List.map eTimpl_Rule v461))), (15, one (cI v462)), (16, one (cI v463)), (20, one (cS v460)), (22, one (cI b509.Kind)), (25, one (Cell.ptr 0 2)), (29, one (Cell.ptr 0 1))] [] [(0, [cI b509.Kind, Cell.sl true (List.map eI b509.Set), cI b509.N])] 1) := by
          refine hI _ _ _ ?_
          refine A.all [3, 6, 10] (by kernel_rfl) rfl ⟨⟨_, rfl, ?_⟩, ⟨_, rfl, ?_⟩, ⟨_, rfl, ?_⟩, trivial⟩
          · refine L.call [false] [] [] 1 hF rfl rfl rfl ent128 rfl rfl rfl rfl rfl (Fimpl_Var_gives k12  b509.Kind r510 hr510) rfl ?_
            refine L.nil ?_
            exact A.on (hO _ _ _ n559) (Le.mk [(0, 0)] hm rfl ⟨⟨_, rfl, rfl⟩, ⟨_, rfl, rfl⟩, ⟨_, rfl, rfl⟩, ⟨_, rfl, rfl⟩, ⟨_, rfl, rfl⟩, ⟨_, rfl, rfl⟩, ⟨_, rfl, rfl⟩, ⟨_, rfl, rfl⟩, ⟨_, rfl, rfl⟩, trivial⟩ trivial ⟨⟨_, _, rfl, rfl, rfl⟩, trivial⟩)
          · refine L.loadPtr shape3 hF rfl rfl rfl rfl rfl rfl ?_
            refine L.nil ?_
            exact A.on (hO _ _ _ n615) (Le.mk [(0, 0)] hm rfl ⟨⟨_, rfl, rfl⟩, ⟨_, rfl, rfl⟩, ⟨_, rfl, rfl⟩, ⟨_, rfl, rfl⟩, ⟨_, rfl, rfl⟩, ⟨_, rfl, rfl⟩, ⟨_, rfl, rfl⟩, ⟨_, rfl, rfl⟩, ⟨_, rfl, rfl⟩, trivial⟩ trivial ⟨⟨_, _, rfl, rfl, rfl⟩, trivial⟩)
          · refine L.loadPtr shape77 hF rfl rfl rfl rfl rfl rfl ?_
            refine L.nil ?_
            exact A.on (hO _ _ _ n1575) (Le.mk [(0, 0)] hm rfl ⟨⟨_, rfl, rfl⟩, ⟨_, rfl, rfl⟩, ⟨_, rfl, rfl⟩, ⟨_, rfl, rfl⟩, ⟨_, rfl, rfl⟩, ⟨_, rfl, rfl⟩, ⟨_, rfl, rfl⟩, ⟨_, rfl, rfl⟩, ⟨_, rfl, rfl⟩, trivial⟩ trivial ⟨⟨_, _, rfl, rfl, rfl⟩, trivial⟩)
        have n611 : W 10 #[true, true, false, false, false, true, true, false, false, true, false, false, false, false, false] (mkSt [(3, one (cS v460)), (5, one (Cell.ptr 0 0)), (14, one (Cell.sl g0 (List.map eTimpl_Rule v461))), (15, one (cI v462)), (16, one (cI v463)), (20, one (cS v460)), (21, one (Cell.ptr 0 0)), (26, one (cI b509.N)), (29, one (Cell.ptr 0 1))] [] [(0, [cI b509.Kind, Cell.sl true (List.map eI b509.Set), cI b509.N])] 1) := by
          refine hI _ _ _ ?_
          refine A.all [2, 10] (by kernel_rfl) rfl ⟨⟨_, rfl, ?_⟩, ⟨_, rfl, ?_⟩, trivial⟩
          · refine L.loadPtr shape3 hF rfl rfl rfl rfl rfl rfl ?_
            refine L.nil ?_
            exact A.on (hO _ _ _ n615) (Le.mk [(0, 0)] hm rfl ⟨⟨_, rfl, rfl⟩, ⟨_, rfl, rfl⟩, ⟨_, rfl, rfl⟩, ⟨_, rfl, rfl⟩, ⟨_, rfl, rfl⟩, ⟨_, rfl, rfl⟩, ⟨_, rfl, rfl⟩, ⟨_, rfl, rfl⟩, ⟨_, rfl, rfl⟩, trivial⟩ trivial ⟨⟨_, _, rfl, rfl, rfl⟩, trivial⟩)
          · refine L.loadPtr shape77 hF rfl rfl rfl rfl rfl rfl ?_
            refine L.nil ?_
            exact A.on (hO _ _ _ n1635) (Le.mk [(0, 0)] hm rfl ⟨⟨_, rfl, rfl⟩, ⟨_, rfl, rfl⟩, ⟨_, rfl, rfl⟩, ⟨_, rfl, rfl⟩, ⟨_, rfl, rfl⟩, ⟨_, rfl, rfl⟩, ⟨_, rfl, rfl⟩, ⟨_, rfl, rfl⟩, ⟨_, rfl, rfl⟩, trivial⟩ trivial ⟨⟨_, _, rfl, rfl, rfl⟩, trivial⟩)
        have n547 : W 11 #[true, true, false, false, false, true, false, false, false, true, false, false, false, false, false] (mkSt [(3, one (cS v460)), (5, one (Cell.ptr 0 0)), (14, one (Cell.sl g0 (List.map eTimpl_Rule v461))), (15, one (cI v462)), (16, one (cI v463)), (20, one (cS v460)), (21, one (Cell.ptr 0 0)), (25, one (Cell.ptr 0 2)), (29, one (Cell.ptr 0 1))] [] [(0, [cI b509.Kind, Cell.sl true (List.map eI b509.Set), cI b509.N])] 1) := by
          refine hI _ _ _ ?_
          refine A.all [2, 6, 10] (by kernel_rfl) rfl ⟨⟨_, rfl, ?_⟩, ⟨_, rfl, ?_⟩, ⟨_, rfl, ?_⟩, trivial⟩
          · refine L.loadPtr shape3 hF rfl rfl rfl rfl rfl rfl ?_
            refine L.nil ?_
            exact A.on (hO _ _ _ n551) (Le.mk [(0, 0)] hm rfl ⟨⟨_, rfl, rfl⟩, ⟨_, rfl, rfl⟩, ⟨_, rfl, rfl⟩, ⟨_, rfl, rfl⟩, ⟨_, rfl, rfl⟩, ⟨_, rfl, rfl⟩, ⟨_, rfl, rfl⟩, ⟨_, rfl, rfl⟩, ⟨_, rfl, rfl⟩, trivial⟩ trivial ⟨⟨_, _, rfl, rfl, rfl⟩, trivial⟩)
          · refine L.loadPtr shape3 hF rfl rfl rfl rfl rfl rfl ?_
            refine L.nil ?_
            exact A.on (hO _ _ _ n611) (Le.mk [(0, 0)] hm rfl ⟨⟨_, rfl, rfl⟩, ⟨_, rfl, rfl⟩, ⟨_, rfl, rfl⟩, ⟨_, rfl, rfl⟩, ⟨_, rfl, rfl⟩, ⟨_, rfl, rfl⟩, ⟨_, rfl, rfl⟩, ⟨_, rfl, rfl⟩, ⟨_, rfl, rfl⟩, trivial⟩ trivial ⟨⟨_, _, rfl, rfl, rfl⟩, trivial⟩)
          · refine L.loadPtr shape77 hF rfl rfl rfl rfl rfl rfl ?_
            refine L.nil ?_
            exact A.on (hO _ _ _ n1571) (Le.mk [(0, 0)] hm rfl ⟨⟨_, rfl, rfl⟩, ⟨_, rfl, rfl⟩, ⟨_, rfl, rfl⟩, ⟨_, rfl, rfl⟩, ⟨_, rfl, rfl⟩, ⟨_, rfl, rfl⟩, ⟨_, rfl, rfl⟩, ⟨_, rfl, rfl⟩, ⟨_, rfl, rfl⟩, trivial⟩ trivial ⟨⟨_, _, rfl, rfl, rfl⟩, trivial⟩)
        have n35 : W 12 #[true, true, false, false, false, true, false, false, false, false, false, false, false, false, false] (mkSt [(3, one (cS v460)), (5, one (Cell.ptr 0 0)), (14, one (Cell.sl g0 (List.map eTimpl_Rule v461))), (15, one (cI v462)), (16, one (cI v463)), (20, one (cS v460)), (21, one (Cell.ptr 0 0)), (25, one (Cell.ptr 0 2))] [] [(0, [cI b509.Kind, Cell.sl true (List.map eI b509.Set), cI b509.N])] 1) := by
          refine hI _ _ _ ?_
          refine A.take 9 rfl (by kernel_rfl) (by kernel_rfl) (by kernel_rfl) rfl (Ca.fieldAddr Try.underlying133 rfl info77 rfl) (fun Q0 k0 => L.fieldAddr Try.underlying133 rfl info77 rfl hF rfl rfl rfl rfl rfl (L.nil k0)) ?_
          exact A.on (hO _ _ _ n547) (Le.mk [(0, 0)] hm rfl ⟨⟨_, rfl, rfl⟩, ⟨_, rfl, rfl⟩, ⟨_, rfl, rfl⟩, ⟨_, rfl, rfl⟩, ⟨_, rfl, rfl⟩, ⟨_, rfl, rfl⟩, ⟨_, rfl, rfl⟩, ⟨_, rfl, rfl⟩, ⟨_, rfl, rfl⟩, trivial⟩ trivial ⟨⟨_, _, rfl, rfl, rfl⟩, trivial⟩)
        have n3 : W 13 #[true, true, false, false, false, false, false, false, false, false, false, false, false, false, false] (mkSt [(3, one (cS v460)), (5, one (Cell.ptr 0 0)), (14, one (Cell.sl g0 (List.map eTimpl_Rule v461))), (15, one (cI v462)), (16, one (cI v463)), (20, one (cS v460)), (21, one (Cell.ptr 0 0))] [] [(0, [cI b509.Kind, Cell.sl true (List.map eI b509.Set), cI b509.N])] 1) := by
          refine hI _ _ _ ?_
          refine A.take 5 rfl (by kernel_rfl) (by kernel_rfl) (by kernel_rfl) rfl (Ca.fieldAddr Try.underlying133 rfl info3 rfl) (fun Q0 k0 => L.fieldAddr Try.underlying133 rfl info3 rfl hF rfl rfl rfl rfl rfl (L.nil k0)) ?_
          exact A.on (hO _ _ _ n35) (Le.mk [(0, 0)] hm rfl ⟨⟨_, rfl, rfl⟩, ⟨_, rfl, rfl⟩, ⟨_, rfl, rfl⟩, ⟨_, rfl, rfl⟩, ⟨_, rfl, rfl⟩, ⟨_, rfl, rfl⟩, ⟨_, rfl, rfl⟩, ⟨_, rfl, rfl⟩, trivial⟩ trivial ⟨⟨_, _, rfl, rfl, rfl⟩, trivial⟩)
        have n1 : W 14 #[true, false, false, false, false, false, false, false, false, false, false, false, false, false, false] (mkSt [(3, one (cS v460)), (5, one (Cell.ptr 0 0)), (14, one (Cell.sl g0 (List.map eTimpl_Rule v461))), (15, one (cI v462)), (16, one (cI v463)), (20, one (cS v460))] [] [(0, [cI b509.Kind, Cell.sl true (List.map eI b509.Set), cI b509.N])] 1) := by
          refine hI _ _ _ ?_
          refine A.take 1 rfl (by kernel_rfl) (by kernel_rfl) (by kernel_rfl) rfl (Ca.fieldAddr Try.underlying133 rfl info3 rfl) (fun Q0 k0 => L.fieldAddr Try.underlying133 rfl info3 rfl hF rfl rfl rfl rfl rfl (L.nil k0)) ?_
          exact A.on (hO _ _ _ n3) (Le.mk [(0, 0)] hm rfl ⟨⟨_, rfl, rfl⟩, ⟨_, rfl, rfl⟩, ⟨_, rfl, rfl⟩, ⟨_, rfl, rfl⟩, ⟨_, rfl, rfl⟩, ⟨_, rfl, rfl⟩, ⟨_, rfl, rfl⟩, trivial⟩ trivial ⟨⟨_, _, rfl, rfl, rfl⟩, trivial⟩)
        have n0 : W 15 #[false, false, false, false, false, false, false, false, false, false, false, false, false, false, false] (mkSt [(3, one (cS v460)), (5, one (Cell.ptr 0 0)), (14, one (Cell.sl g0 (List.map eTimpl_Rule v461))), (15, one (cI v462)), (16, one (cI v463))] [] [(0, [cI b509.Kind, Cell.sl true (List.map eI b509.Set), cI b509.N])] 1) := by
          refine hI _ _ _ ?_
          refine A.take 0 rfl (by kernel_rfl) (by kernel_rfl) (by kernel_rfl) rfl (Ca.move) (fun Q0 k0 => L.move hF rfl rfl rfl (L.nil k0)) ?_
          exact A.on (hO _ _ _ n1) (Le.mk [(0, 0)] hm rfl ⟨⟨_, rfl, rfl⟩, ⟨_, rfl, rfl⟩, ⟨_, rfl, rfl⟩, ⟨_, rfl, rfl⟩, ⟨_, rfl, rfl⟩, ⟨_, rfl, rfl⟩, trivial⟩ trivial ⟨⟨_, _, rfl, rfl, rfl⟩, trivial⟩)
        exact hI _ _ _ (A.on (hO _ _ _ n0) (Le.mk [(0, 0)] hm rfl ⟨⟨_, rfl, rfl⟩, ⟨_, rfl, rfl⟩, ⟨_, rfl, rfl⟩, ⟨_, rfl, rfl⟩, ⟨_, rfl, rfl⟩, trivial⟩ trivial ⟨⟨_, _, rfl, rfl, rfl⟩, trivial⟩))
      · replace H := condF hc H
        refine WpC.exit ?_
        refine WpC.seq ?_
        refine WpC.regionL ?_
        refine L.move hF rfl rfl rfl ?_
        refine L.assign hF rfl rfl rfl ?_
        refine L.nil ?_
        refine WpC.ret ?_
        cases H
        exact Leaves.ret rfl rfl rfl ⟨rfl, rfl⟩
end Go.Proofs.Ytflcaebmammlfaa.M
