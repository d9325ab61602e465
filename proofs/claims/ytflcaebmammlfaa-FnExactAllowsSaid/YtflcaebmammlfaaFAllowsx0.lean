import Derived.Test.YtflcaebmammlfaaMgZc
import Derived.Test.YtflcaebmammlfaaProg
namespace Go.Proofs.Ytflcaebmammlfaa.M
open Go Go.MG
set_option linter.unusedVariables false
set_option linter.unusedSimpArgs false
structure Tlaws_Rule where
  Kind : Int
  Set : List Int
  N : Int
def eTlaws_Rule (x : Tlaws_Rule) : List Cell := [cI x.Kind, Cell.sl true (List.map eI x.Set), cI x.N]
structure Timpl_Rule where
  Kind : Int
  Set : List Int
  N : Int
def eTimpl_Rule (x : Timpl_Rule) : List Cell := [cI x.Kind, Cell.sl true (List.map eI x.Set), cI x.N]
structure Tlaws_Ask where
  Server : Int
  Op : Int
  Groups : List Int
  Now : Int
  Used : Int
def eTlaws_Ask (x : Tlaws_Ask) : List Cell := [cI x.Server, cI x.Op, Cell.sl true (List.map eI x.Groups), cI x.Now, cI x.Used]
structure Timpl_Ask where
  Server : Int
  Op : Int
  Groups : List Int
  Now : Int
  Used : Int
def eTimpl_Ask (x : Timpl_Ask) : List Cell := [cI x.Server, cI x.Op, Cell.sl true (List.map eI x.Groups), cI x.Now, cI x.Used]
theorem mixed : Try.prog.follows .mixedOrders = true := by kernel_rfl
theorem shape3 : MG.shape Try.prog 3 = some (false, 1) := by kernel_rfl
theorem shape77 : MG.shape Try.prog 77 = some (false, 1) := by kernel_rfl
theorem shape89 : MG.shape Try.prog 89 = some (true, 5) := by kernel_rfl
theorem shape92 : MG.shape Try.prog 92 = some (true, 5) := by kernel_rfl
theorem shape131 : MG.shape Try.prog 131 = some (true, 3) := by kernel_rfl
theorem shape133 : MG.shape Try.prog 133 = some (true, 3) := by kernel_rfl
theorem info3 : Try.prog.info? 3 = some Try.t3 := by kernel_rfl
theorem info77 : Try.prog.info? 77 = some Try.t77 := by kernel_rfl
theorem info92 : Try.prog.info? 92 = some Try.t92 := by kernel_rfl
theorem info131 : Try.prog.info? 131 = some Try.t131 := by kernel_rfl
theorem info133 : Try.prog.info? 133 = some Try.t133 := by kernel_rfl
/-! ### Flaws_szIntS -/
def Flaws_szIntS (k : Nat) (a0 : List Int) (a1 : Int) : Option Int := cond (decide ((IntKind.i64.wrap (a1 - (a0.length : Int))) < (0 : Int))) (some (-1 : Int)) (some (IntKind.i64.wrap (a1 - (a0.length : Int))))
theorem ent135 : Enters Try.prog 135 := ⟨Try.f135, Try.func135, rfl, by decide⟩
set_option maxHeartbeats 8000000 in
set_option maxRecDepth 100000 in
theorem Flaws_szIntS_gives (k : Nat) (g0 : Bool) (a0 : List Int) (a1 : Int) (r : Int) (H : Flaws_szIntS k a0 a1 = some r) : Gives Try.prog 135 [V.one (Cell.sl g0 (List.map eI a0)), V.one (cI a1)] [] [V.one (cI r)] [] := by
  refine Gives.intro Try.func135 rfl rfl rfl rfl ?_
  intro F hF hm
  unfold Flaws_szIntS at H
  obtain ⟨K, hK⟩ : ∃ K, k ≤ K := ⟨k, Nat.le_refl k⟩
  refine WpC.seq ?_
  refine WpC.regionL ?_
  refine L.assign hF rfl rfl rfl ?_
  refine L.nil ?_
  refine WpC.seq ?_
  refine WpC.regionL ?_
  refine L.move hF rfl rfl rfl ?_
  refine L.move hF rfl rfl rfl ?_
  refine L.lenR (xs := a0) (e := eI) Try.underlying77 hF rfl rfl rfl rfl ?_
  refine L.bin hF rfl rfl rfl rfl rfl rfl ?_
  refine L.assign hF rfl rfl rfl ?_
  refine L.nil ?_
  refine WpC.seq ?_
  refine WpC.seq ?_
  refine WpC.regionL ?_
  refine L.move hF rfl rfl rfl ?_
  refine L.bin hF rfl rfl rfl rfl rfl rfl ?_
  refine L.nil ?_
  refine WpC.cond rfl (fun hc => ?_) (fun hc => ?_)
  · replace H := condT hc H
    refine WpC.seq ?_
    refine WpC.regionL ?_
    refine L.assign hF rfl rfl rfl ?_
    refine L.nil ?_
    refine WpC.ret ?_
    cases H
    exact Leaves.ret rfl rfl rfl ⟨rfl, rfl⟩
  · replace H := condF hc H
    refine WpC.skip ?_
    refine WpC.seq ?_
    refine WpC.regionL ?_
    refine L.move hF rfl rfl rfl ?_
    refine L.assign hF rfl rfl rfl ?_
    refine L.nil ?_
    refine WpC.ret ?_
    cases H
    exact Leaves.ret rfl rfl rfl ⟨rfl, rfl⟩
/-! ### Flaws_szRule -/
def Flaws_szRule (k : Nat) (a0 : Tlaws_Rule) (a1 : Int) : Option Int := (Flaws_szIntS k a0.Set a1).bind fun r1 => cond (decide (r1 < (0 : Int))) (some (-1 : Int)) (some r1)
theorem ent118 : Enters Try.prog 118 := ⟨Try.f118, Try.func118, rfl, by decide⟩
set_option maxHeartbeats 8000000 in
set_option maxRecDepth 100000 in
theorem Flaws_szRule_gives (k : Nat) (g0 : Bool) (a0 : Tlaws_Rule) (a1 : Int) (r : Int) (H : Flaws_szRule k a0 a1 = some r) : Gives Try.prog 118 [V.agg [cI a0.Kind, Cell.sl g0 (List.map eI a0.Set), cI a0.N], V.one (cI a1)] [] [V.one (cI r)] [] := by
  refine Gives.intro Try.func118 rfl rfl rfl rfl ?_
  intro F hF hm
  unfold Flaws_szRule at H
  obtain ⟨K, hK⟩ : ∃ K, k ≤ K := ⟨k, Nat.le_refl k⟩
  refine WpC.seq ?_
  refine WpC.regionL ?_
  refine L.box 4 hF rfl rfl rfl rfl ?_
  refine L.assign hF rfl rfl rfl ?_
  refine L.nil ?_
  refine WpC.seq ?_
  refine WpC.regionL ?_
  refine L.fieldAddr Try.underlying131 rfl info77 rfl hF rfl rfl rfl rfl rfl ?_
  refine L.loadPtr shape77 hF rfl rfl rfl rfl rfl rfl ?_
  refine L.move hF rfl rfl rfl ?_
  obtain ⟨r1, hr1, H⟩ := bindS H
  refine L.call [false, false] [] [] 5 hF rfl rfl rfl ent135 rfl rfl rfl rfl rfl (Flaws_szIntS_gives k g0 a0.Set a1 r1 hr1) rfl ?_
  refine L.assign hF rfl rfl rfl ?_
  refine L.nil ?_
  refine WpC.seq ?_
  refine WpC.seq ?_
  refine WpC.regionL ?_
  refine L.move hF rfl rfl rfl ?_
  refine L.bin hF rfl rfl rfl rfl rfl rfl ?_
  refine L.nil ?_
  refine WpC.cond rfl (fun hc => ?_) (fun hc => ?_)
  · replace H := condT hc H
    refine WpC.seq ?_
    refine WpC.regionL ?_
    refine L.assign hF rfl rfl rfl ?_
    refine L.nil ?_
    refine WpC.ret ?_
    cases H
    exact Leaves.ret rfl rfl rfl ⟨rfl, rfl⟩
  · replace H := condF hc H
    refine WpC.skip ?_
    refine WpC.seq ?_
    refine WpC.regionL ?_
    refine L.move hF rfl rfl rfl ?_
    refine L.assign hF rfl rfl rfl ?_
    refine L.nil ?_
    refine WpC.ret ?_
    cases H
    exact Leaves.ret rfl rfl rfl ⟨rfl, rfl⟩
/-! ### Flaws_szRuleS -/
def Flaws_szRuleS.l2 : Nat → (List Tlaws_Rule) → Int → Int → Option Int
  | 0, _, _, _ => none
  | k2 + 1, v34, v35, v36 => cond (decide (v36 < (v34.length : Int))) ((at? v34 v36).bind fun b39 => (Flaws_szRule k2 b39 v35).bind fun r40 => cond (decide (r40 < (0 : Int))) (some (-1 : Int)) ((Flaws_szRuleS.l2 k2) v34 r40 (IntKind.i64.wrap (v36 + (1 : Int))))) (some v35)
def Flaws_szRuleS (k : Nat) (a0 : List Tlaws_Rule) (a1 : Int) : Option Int := cond (decide ((IntKind.i64.wrap (a1 - (a0.length : Int))) < (0 : Int))) (some (-1 : Int)) (Flaws_szRuleS.l2 k a0 (IntKind.i64.wrap (a1 - (a0.length : Int))) (0 : Int))
theorem ent61 : Enters Try.prog 61 := ⟨Try.f61, Try.func61, rfl, by decide⟩
set_option maxHeartbeats 8000000 in
set_option maxRecDepth 100000 in
theorem Flaws_szRuleS_gives (k : Nat) (g0 : Bool) (a0 : List Tlaws_Rule) (a1 : Int) (r : Int) (H : Flaws_szRuleS k a0 a1 = some r) : Gives Try.prog 61 [V.one (Cell.sl g0 (List.map eTlaws_Rule a0)), V.one (cI a1)] [] [V.one (cI r)] [] := by
  refine Gives.intro Try.func61 rfl rfl rfl rfl ?_
  intro F hF hm
  unfold Flaws_szRuleS at H
  obtain ⟨K, hK⟩ : ∃ K, k ≤ K := ⟨k, Nat.le_refl k⟩
  refine WpC.seq ?_
  refine WpC.regionL ?_
  refine L.assign hF rfl rfl rfl ?_
  refine L.nil ?_
  refine WpC.seq ?_
  refine WpC.regionL ?_
  refine L.move hF rfl rfl rfl ?_
  refine L.move hF rfl rfl rfl ?_
  refine L.lenR (xs := a0) (e := eTlaws_Rule) Try.underlying68 hF rfl rfl rfl rfl ?_
  refine L.bin hF rfl rfl rfl rfl rfl rfl ?_
  refine L.assign hF rfl rfl rfl ?_
  refine L.nil ?_
  refine WpC.seq ?_
  refine WpC.seq ?_
  refine WpC.regionL ?_
  refine L.move hF rfl rfl rfl ?_
  refine L.bin hF rfl rfl rfl rfl rfl rfl ?_
  refine L.nil ?_
  refine WpC.cond rfl (fun hc => ?_) (fun hc => ?_)
  · replace H := condT hc H
    refine WpC.seq ?_
    refine WpC.regionL ?_
    refine L.assign hF rfl rfl rfl ?_
    refine L.nil ?_
    refine WpC.ret ?_
    cases H
    exact Leaves.ret rfl rfl rfl ⟨rfl, rfl⟩
  · replace H := condF hc H
    refine WpC.skip ?_
    refine WpC.seq ?_
    refine WpC.seq ?_
    refine WpC.regionL ?_
    refine L.assign hF rfl rfl rfl ?_
    refine L.nil ?_
    refine WpC.block ?_
    refine WpC.loopL (P := Try.prog) (fun n σ => ∃ v34 : List Tlaws_Rule, ∃ v35 : Int, ∃ v36 : Int, n ≤ K ∧ Flaws_szRuleS.l2 n v34 v35 v36 = some r ∧ σ = mkSt [(0, one (Cell.sl g0 (List.map eTlaws_Rule v34))), (1, one (cI v35)), (5, one (cI v36))] [] [] 0) k ⟨_, ⟨a0, (IntKind.i64.wrap (a1 - (a0.length : Int))), (0 : Int), by omega, H, rfl⟩, Le.mk [] hm rfl ⟨⟨_, rfl, rfl⟩, ⟨_, rfl, rfl⟩, ⟨_, rfl, rfl⟩, trivial⟩ trivial trivial⟩ ?_
    clear H
    rintro k2 _ ⟨v34, v35, v36, hk2, H, rfl⟩
    cases k2 with
    | zero => cases H
    | succ k2 =>
      rw [Flaws_szRuleS.l2] at H
      refine WpC.seq ?_
      refine WpC.seq ?_
      refine WpC.regionL ?_
      refine L.move hF rfl rfl rfl ?_
      refine L.move hF rfl rfl rfl ?_
      refine L.lenR (xs := v34) (e := eTlaws_Rule) Try.underlying68 hF rfl rfl rfl rfl ?_
      refine L.bin hF rfl rfl rfl rfl rfl rfl ?_
      refine L.nil ?_
      refine WpC.cond rfl (fun hc => ?_) (fun hc => ?_)
      · replace H := condT hc H
        refine WpC.skip ?_
        refine WpC.seq ?_
        refine WpC.block ?_
        refine WpC.seq ?_
        refine WpC.regionL ?_
        refine L.move hF rfl rfl rfl ?_
        refine L.move hF rfl rfl rfl ?_
        obtain ⟨b39, hb39, H⟩ := bindS H
        refine L.idxR (xs := v34) (e := eTlaws_Rule) Try.underlying68 info131 hF rfl rfl rfl rfl rfl hb39 rfl rfl ?_
        refine L.loadPe shape131 hF rfl rfl rfl rfl rfl ?_
        refine L.move hF rfl rfl rfl ?_
        obtain ⟨r40, hr40, H⟩ := bindS H
        refine L.call [false, false] [] [] 0 hF rfl rfl rfl ent118 rfl rfl rfl rfl rfl (Flaws_szRule_gives k2 true b39 v35 r40 hr40) rfl ?_
        refine L.assign hF rfl rfl rfl ?_
        refine L.nil ?_
        refine WpC.seq ?_
        refine WpC.regionL ?_
        refine L.move hF rfl rfl rfl ?_
        refine L.bin hF rfl rfl rfl rfl rfl rfl ?_
        refine L.nil ?_
        refine WpC.cond rfl (fun hc => ?_) (fun hc => ?_)
        · replace H := condT hc H
          refine WpC.seq ?_
          refine WpC.regionL ?_
          refine L.assign hF rfl rfl rfl ?_
          refine L.nil ?_
          refine WpC.ret ?_
          cases H
          exact Leaves.ret rfl rfl rfl ⟨rfl, rfl⟩
        · replace H := condF hc H
          refine WpC.skip ?_
          refine WpC.regionL ?_
          refine L.move hF rfl rfl rfl ?_
          refine L.bin hF rfl rfl rfl rfl rfl rfl ?_
          refine L.assign hF rfl rfl rfl ?_
          refine L.nil ?_
          exact ⟨k2, _, by omega, ⟨v34, r40, (IntKind.i64.wrap (v36 + (1 : Int))), by omega, H, rfl⟩, Le.mk [] hm rfl ⟨⟨_, rfl, rfl⟩, ⟨_, rfl, rfl⟩, ⟨_, rfl, rfl⟩, trivial⟩ trivial trivial⟩
      · replace H := condF hc H
        refine WpC.exit ?_
        refine WpC.seq ?_
        refine WpC.regionL ?_
        refine L.move hF rfl rfl rfl ?_
        refine L.assign hF rfl rfl rfl ?_
        refine L.nil ?_
        refine WpC.ret ?_
        cases H
        exact Leaves.ret rfl rfl rfl ⟨rfl, rfl⟩
/-! ### Flaws_szAsk -/
def Flaws_szAsk (k : Nat) (a0 : Tlaws_Ask) (a1 : Int) : Option Int := (Flaws_szIntS k a0.Groups a1).bind fun r1 => cond (decide (r1 < (0 : Int))) (some (-1 : Int)) (some r1)
theorem ent83 : Enters Try.prog 83 := ⟨Try.f83, Try.func83, rfl, by decide⟩
set_option maxHeartbeats 8000000 in
set_option maxRecDepth 100000 in
theorem Flaws_szAsk_gives (k : Nat) (g0 : Bool) (a0 : Tlaws_Ask) (a1 : Int) (r : Int) (H : Flaws_szAsk k a0 a1 = some r) : Gives Try.prog 83 [V.agg [cI a0.Server, cI a0.Op, Cell.sl g0 (List.map eI a0.Groups), cI a0.Now, cI a0.Used], V.one (cI a1)] [] [V.one (cI r)] [] := by
  refine Gives.intro Try.func83 rfl rfl rfl rfl ?_
  intro F hF hm
  unfold Flaws_szAsk at H
  obtain ⟨K, hK⟩ : ∃ K, k ≤ K := ⟨k, Nat.le_refl k⟩
  refine WpC.seq ?_
  refine WpC.regionL ?_
  refine L.box 6 hF rfl rfl rfl rfl ?_
  refine L.assign hF rfl rfl rfl ?_
  refine L.nil ?_
  refine WpC.seq ?_
  refine WpC.regionL ?_
  refine L.fieldAddr Try.underlying89 rfl info77 rfl hF rfl rfl rfl rfl rfl ?_
  refine L.loadPtr shape77 hF rfl rfl rfl rfl rfl rfl ?_
  refine L.move hF rfl rfl rfl ?_
  obtain ⟨r1, hr1, H⟩ := bindS H
  refine L.call [false, false] [] [] 7 hF rfl rfl rfl ent135 rfl rfl rfl rfl rfl (Flaws_szIntS_gives k g0 a0.Groups a1 r1 hr1) rfl ?_
  refine L.assign hF rfl rfl rfl ?_
  refine L.nil ?_
  refine WpC.seq ?_
  refine WpC.seq ?_
  refine WpC.regionL ?_
  refine L.move hF rfl rfl rfl ?_
  refine L.bin hF rfl rfl rfl rfl rfl rfl ?_
  refine L.nil ?_
  refine WpC.cond rfl (fun hc => ?_) (fun hc => ?_)
  · replace H := condT hc H
    refine WpC.seq ?_
    refine WpC.regionL ?_
    refine L.assign hF rfl rfl rfl ?_
    refine L.nil ?_
    refine WpC.ret ?_
    cases H
    exact Leaves.ret rfl rfl rfl ⟨rfl, rfl⟩
  · replace H := condF hc H
    refine WpC.skip ?_
    refine WpC.seq ?_
    refine WpC.regionL ?_
    refine L.move hF rfl rfl rfl ?_
    refine L.assign hF rfl rfl rfl ?_
    refine L.nil ?_
    refine WpC.ret ?_
    cases H
    exact Leaves.ret rfl rfl rfl ⟨rfl, rfl⟩
/-! ### Flaws_toIntS -/
def Flaws_toIntS.l2 : Nat → (List Int) → (List Int) → Int → Option (List Int)
  | 0, _, _, _ => none
  | k2 + 1, v35, v36, v37 => cond (decide (v37 < (v35.length : Int))) ((at? v35 v37).bind fun b40 => (at? v36 v37).bind fun b41 => (Flaws_toIntS.l2 k2) v35 (v36.set v37.toNat b40) (IntKind.i64.wrap (v37 + (1 : Int)))) (some v36)
def Flaws_toIntS (k : Nat) (a0 : List Int) : Option (List Int) := cond (decide (0 ≤ (a0.length : Int) ∧ (a0.length : Int) ≤ (a0.length : Int) ∧ 8 * (a0.length : Int) ≤ 281474976710656 ∧ (a0.length : Int) ≤ 9223372036854775807)) (Flaws_toIntS.l2 k a0 (List.replicate (a0.length : Int).toNat (0 : Int)) (0 : Int)) none
theorem ent137 : Enters Try.prog 137 := ⟨Try.f137, Try.func137, rfl, by decide⟩
set_option maxHeartbeats 8000000 in
set_option maxRecDepth 100000 in
theorem Flaws_toIntS_gives (k : Nat) (g0 : Bool) (a0 : List Int) (r : List Int) (H : Flaws_toIntS k a0 = some r) : Gives Try.prog 137 [V.one (Cell.sl g0 (List.map eI a0))] [] [V.one (Cell.ow 1 (List.map eI r))] [] := by
  refine Gives.intro Try.func137 rfl rfl rfl rfl ?_
  intro F hF hm
  unfold Flaws_toIntS at H
  obtain ⟨K, hK⟩ : ∃ K, k ≤ K := ⟨k, Nat.le_refl k⟩
  refine WpC.seq ?_
  refine WpC.regionL ?_
  refine L.assign hF rfl rfl rfl ?_
  refine L.nil ?_
  refine WpC.seq ?_
  refine WpC.regionL ?_
  refine L.move hF rfl rfl rfl ?_
  refine L.lenR (xs := a0) (e := eI) Try.underlying77 hF rfl rfl rfl rfl ?_
  obtain ⟨h1, H⟩ := condG H
  refine L.makeSlice (e := eI) 1 (0 : Int) Try.underlying77 info3 rfl rfl rfl hF rfl rfl rfl rfl (of_decide_eq_true h1) rfl rfl ?_
  refine L.assign hF rfl rfl rfl ?_
  refine L.nil ?_
  refine WpC.seq ?_
  refine WpC.seq ?_
  refine WpC.regionL ?_
  refine L.assign hF rfl rfl rfl ?_
  refine L.nil ?_
  refine WpC.block ?_
  refine WpC.loopL (P := Try.prog) (fun n σ => ∃ v35 : List Int, ∃ v36 : List Int, ∃ v37 : Int, n ≤ K ∧ Flaws_toIntS.l2 n v35 v36 v37 = some r ∧ σ = mkSt [(0, one (Cell.sl g0 (List.map eI v35))), (3, one (Cell.own 0)), (4, one (cI v37))] [(0, ⟨1, List.map eI v36⟩)] [] 1) k ⟨_, ⟨a0, (List.replicate (a0.length : Int).toNat (0 : Int)), (0 : Int), by omega, H, rfl⟩, Le.mk [(0, 1)] hm rfl ⟨⟨_, rfl, rfl⟩, ⟨_, rfl, rfl⟩, ⟨_, rfl, rfl⟩, trivial⟩ ⟨⟨_, rfl, rfl⟩, trivial⟩ trivial⟩ ?_
  clear H
  rintro k2 _ ⟨v35, v36, v37, hk2, H, rfl⟩
  cases k2 with
  | zero => cases H
  | succ k2 =>
    rw [Flaws_toIntS.l2] at H
    refine WpC.seq ?_
    refine WpC.seq ?_
    refine WpC.regionL ?_
    refine L.move hF rfl rfl rfl ?_
    refine L.move hF rfl rfl rfl ?_
    refine L.lenR (xs := v35) (e := eI) Try.underlying77 hF rfl rfl rfl rfl ?_
    refine L.bin hF rfl rfl rfl rfl rfl rfl ?_
    refine L.nil ?_
    refine WpC.cond rfl (fun hc => ?_) (fun hc => ?_)
    · replace H := condT hc H
      refine WpC.skip ?_
      refine WpC.seq ?_
      refine WpC.block ?_
      refine WpC.regionL ?_
      refine L.move hF rfl rfl rfl ?_
      refine L.move hF rfl rfl rfl ?_
      refine L.move hF rfl rfl rfl ?_
      refine L.move hF rfl rfl rfl ?_
      obtain ⟨b40, hb40, H⟩ := bindS H
      refine L.idxR (xs := v35) (e := eI) Try.underlying77 info3 hF rfl rfl rfl rfl rfl hb40 rfl rfl ?_
      refine L.loadPe shape3 hF rfl rfl rfl rfl rfl ?_
      obtain ⟨b41, hb41, H⟩ := bindS H
      refine L.idxR (xs := v36) (e := eI) Try.underlying77 info3 hF rfl rfl rfl rfl rfl hb41 rfl rfl ?_
      refine L.storeEp (xs := v36) (e := eI) (a' := b40) shape3 hF rfl rfl rfl rfl rfl rfl rfl (at?_get hb41).2 rfl rfl ?_
      refine L.nil ?_
      refine WpC.regionL ?_
      refine L.move hF rfl rfl rfl ?_
      refine L.bin hF rfl rfl rfl rfl rfl rfl ?_
      refine L.assign hF rfl rfl rfl ?_
      refine L.nil ?_
      exact ⟨k2, _, by omega, ⟨v35, (v36.set v37.toNat b40), (IntKind.i64.wrap (v37 + (1 : Int))), by omega, H, rfl⟩, Le.mk [(0, 0)] hm rfl ⟨⟨_, rfl, rfl⟩, ⟨_, rfl, rfl⟩, ⟨_, rfl, rfl⟩, trivial⟩ ⟨⟨_, rfl, rfl⟩, trivial⟩ trivial⟩
    · replace H := condF hc H
      refine WpC.exit ?_
      refine WpC.seq ?_
      refine WpC.regionL ?_
      refine L.move hF rfl rfl rfl ?_
      refine L.assign hF rfl rfl rfl ?_
      refine L.nil ?_
      refine WpC.ret ?_
      cases H
      exact Leaves.ret rfl rfl rfl ⟨rfl, rfl⟩
/-! ### Flaws_toRule -/
def Flaws_toRule (k : Nat) (a0 : Tlaws_Rule) : Option Timpl_Rule := (Flaws_toIntS k a0.Set).bind fun r1 => some (⟨a0.Kind, r1, a0.N⟩ : Timpl_Rule)
theorem ent120 : Enters Try.prog 120 := ⟨Try.f120, Try.func120, rfl, by decide⟩
set_option maxHeartbeats 8000000 in
set_option maxRecDepth 100000 in
theorem Flaws_toRule_gives (k : Nat) (g0 : Bool) (a0 : Tlaws_Rule) (r : Timpl_Rule) (H : Flaws_toRule k a0 = some r) : Gives Try.prog 120 [V.agg [cI a0.Kind, Cell.sl g0 (List.map eI a0.Set), cI a0.N]] [] [V.agg [cI r.Kind, Cell.ow 1 (List.map eI r.Set), cI r.N]] [] := by
  refine Gives.intro Try.func120 rfl rfl rfl rfl ?_
  intro F hF hm
  unfold Flaws_toRule at H
  obtain ⟨K, hK⟩ : ∃ K, k ≤ K := ⟨k, Nat.le_refl k⟩
  refine WpC.seq ?_
  refine WpC.regionL ?_
  refine L.box 3 hF rfl rfl rfl rfl ?_
  refine L.alloc 4 info133 rfl hF rfl rfl rfl rfl ?_
  refine L.nil ?_
  refine WpC.seq ?_
  refine WpC.regionL ?_
  refine L.alloc 5 info133 rfl hF rfl rfl rfl rfl ?_
  refine L.nil ?_
  refine WpC.seq ?_
  refine WpC.regionL ?_
  refine L.fieldAddr Try.underlying131 rfl info3 rfl hF rfl rfl rfl rfl rfl ?_
  refine L.loadPtr shape3 hF rfl rfl rfl rfl rfl rfl ?_
  refine L.fieldAddr Try.underlying133 rfl info3 rfl hF rfl rfl rfl rfl rfl ?_
  refine L.storePtr shape3 hF rfl rfl rfl rfl rfl rfl rfl ?_
  refine L.nil ?_
  refine WpC.seq ?_
  refine WpC.regionL ?_
  refine L.fieldAddr Try.underlying131 rfl info77 rfl hF rfl rfl rfl rfl rfl ?_
  refine L.loadPtr shape77 hF rfl rfl rfl rfl rfl rfl ?_
  obtain ⟨r1, hr1, H⟩ := bindS H
  refine L.call [false] [] [] 6 hF rfl rfl rfl ent137 rfl rfl rfl rfl rfl (Flaws_toIntS_gives k g0 a0.Set r1 hr1) rfl ?_
  refine L.fieldAddr Try.underlying133 rfl info77 rfl hF rfl rfl rfl rfl rfl ?_
  refine L.storePtr shape77 hF rfl rfl rfl rfl rfl rfl rfl ?_
  refine L.nil ?_
  refine WpC.seq ?_
  refine WpC.regionL ?_
  refine L.fieldAddr Try.underlying131 rfl info3 rfl hF rfl rfl rfl rfl rfl ?_
  refine L.loadPtr shape3 hF rfl rfl rfl rfl rfl rfl ?_
  refine L.fieldAddr Try.underlying133 rfl info3 rfl hF rfl rfl rfl rfl rfl ?_
  refine L.storePtr shape3 hF rfl rfl rfl rfl rfl rfl rfl ?_
  refine L.nil ?_
  refine WpC.seq ?_
  refine WpC.regionL ?_
  refine L.loadPtr shape133 hF rfl rfl rfl rfl rfl rfl ?_
  refine L.storePtr shape133 hF rfl rfl rfl rfl rfl rfl rfl ?_
  refine L.nil ?_
  refine WpC.ret ?_
  cases H
  exact Leaves.ret rfl rfl rfl ⟨rfl, rfl⟩
/-! ### Flaws_toRuleS -/
def Flaws_toRuleS.l2 : Nat → (List Tlaws_Rule) → (List Timpl_Rule) → Int → Option (List Timpl_Rule)
  | 0, _, _, _ => none
  | k2 + 1, v45, v46, v47 => cond (decide (v47 < (v45.length : Int))) ((at? v45 v47).bind fun b51 => (Flaws_toRule k2 b51).bind fun r52 => (at? v46 v47).bind fun b53 => (Flaws_toRuleS.l2 k2) v45 (v46.set v47.toNat r52) (IntKind.i64.wrap (v47 + (1 : Int)))) (some v46)
def Flaws_toRuleS (k : Nat) (a0 : List Tlaws_Rule) : Option (List Timpl_Rule) := cond (decide (0 ≤ (a0.length : Int) ∧ (a0.length : Int) ≤ (a0.length : Int) ∧ 40 * (a0.length : Int) ≤ 281474976710656 ∧ (a0.length : Int) ≤ 9223372036854775807)) (Flaws_toRuleS.l2 k a0 (List.replicate (a0.length : Int).toNat (⟨(0 : Int), [], (0 : Int)⟩ : Timpl_Rule)) (0 : Int)) none
theorem ent63 : Enters Try.prog 63 := ⟨Try.f63, Try.func63, rfl, by decide⟩
set_option maxHeartbeats 8000000 in
set_option maxRecDepth 100000 in
theorem Flaws_toRuleS_gives (k : Nat) (g0 : Bool) (a0 : List Tlaws_Rule) (r : List Timpl_Rule) (H : Flaws_toRuleS k a0 = some r) : Gives Try.prog 63 [V.one (Cell.sl g0 (List.map eTlaws_Rule a0))] [] [V.one (Cell.ow 3 (List.map eTimpl_Rule r))] [] := by
  refine Gives.intro Try.func63 rfl rfl rfl rfl ?_
  intro F hF hm
  unfold Flaws_toRuleS at H
  obtain ⟨K, hK⟩ : ∃ K, k ≤ K := ⟨k, Nat.le_refl k⟩
  refine WpC.seq ?_
  refine WpC.regionL ?_
  refine L.assign hF rfl rfl rfl ?_
  refine L.nil ?_
  refine WpC.seq ?_
  refine WpC.regionL ?_
  refine L.move hF rfl rfl rfl ?_
  refine L.lenR (xs := a0) (e := eTlaws_Rule) Try.underlying68 hF rfl rfl rfl rfl ?_
  obtain ⟨h1, H⟩ := condG H
  refine L.makeSliceN (e := eTimpl_Rule) 1 (⟨(0 : Int), [], (0 : Int)⟩ : Timpl_Rule) Try.underlying71 info133 rfl rfl rfl hF rfl rfl rfl rfl (of_decide_eq_true h1) rfl rfl ⟨rfl, rfl⟩ ?_
  refine L.assign hF rfl rfl rfl ?_
  refine L.nil ?_
  refine WpC.seq ?_
  refine WpC.seq ?_
  refine WpC.regionL ?_
  refine L.assign hF rfl rfl rfl ?_
  refine L.nil ?_
  refine WpC.block ?_
  refine WpC.loopL (P := Try.prog) (fun n σ => ∃ v45 : List Tlaws_Rule, ∃ v46 : List Timpl_Rule, ∃ v47 : Int, n ≤ K ∧ Flaws_toRuleS.l2 n v45 v46 v47 = some r ∧ σ = mkSt [(0, one (Cell.sl g0 (List.map eTlaws_Rule v45))), (3, one (Cell.own 0)), (4, one (cI v47))] [(0, ⟨3, List.map eTimpl_Rule v46⟩)] [] 1) k ⟨_, ⟨a0, (List.replicate (a0.length : Int).toNat (⟨(0 : Int), [], (0 : Int)⟩ : Timpl_Rule)), (0 : Int), by omega, H, rfl⟩, Le.mk [(0, 1)] hm rfl ⟨⟨_, rfl, rfl⟩, ⟨_, rfl, rfl⟩, ⟨_, rfl, rfl⟩, trivial⟩ ⟨⟨_, rfl, rfl⟩, trivial⟩ trivial⟩ ?_
  clear H
  rintro k2 _ ⟨v45, v46, v47, hk2, H, rfl⟩
  cases k2 with
  | zero => cases H
  | succ k2 =>
    rw [Flaws_toRuleS.l2] at H
    refine WpC.seq ?_
    refine WpC.seq ?_
    refine WpC.regionL ?_
    refine L.move hF rfl rfl rfl ?_
    refine L.move hF rfl rfl rfl ?_
    refine L.lenR (xs := v45) (e := eTlaws_Rule) Try.underlying68 hF rfl rfl rfl rfl ?_
    refine L.bin hF rfl rfl rfl rfl rfl rfl ?_
    refine L.nil ?_
    refine WpC.cond rfl (fun hc => ?_) (fun hc => ?_)
    · replace H := condT hc H
      refine WpC.skip ?_
      refine WpC.seq ?_
      refine WpC.block ?_
      refine WpC.regionL ?_
      refine L.move hF rfl rfl rfl ?_
      refine L.move hF rfl rfl rfl ?_
      refine L.move hF rfl rfl rfl ?_
      refine L.move hF rfl rfl rfl ?_
      obtain ⟨b51, hb51, H⟩ := bindS H
      refine L.idxR (xs := v45) (e := eTlaws_Rule) Try.underlying68 info131 hF rfl rfl rfl rfl rfl hb51 rfl rfl ?_
      refine L.loadPe shape131 hF rfl rfl rfl rfl rfl ?_
      obtain ⟨r52, hr52, H⟩ := bindS H
      refine L.call [false] [] [] 1 hF rfl rfl rfl ent120 rfl rfl rfl rfl rfl (Flaws_toRule_gives k2 true b51 r52 hr52) rfl ?_
      obtain ⟨b53, hb53, H⟩ := bindS H
      refine L.idxR (xs := v46) (e := eTimpl_Rule) Try.underlying71 info133 hF rfl rfl rfl rfl rfl hb53 rfl rfl ?_
      refine L.storeEp (xs := v46) (e := eTimpl_Rule) (a' := r52) shape133 hF rfl rfl rfl rfl rfl rfl rfl (at?_get hb53).2 rfl rfl ?_
      refine L.nil ?_
      refine WpC.regionL ?_
      refine L.move hF rfl rfl rfl ?_
      refine L.bin hF rfl rfl rfl rfl rfl rfl ?_
      refine L.assign hF rfl rfl rfl ?_
      refine L.nil ?_
      exact ⟨k2, _, by omega, ⟨v45, (v46.set v47.toNat r52), (IntKind.i64.wrap (v47 + (1 : Int))), by omega, H, rfl⟩, Le.mk [(0, 0)] hm rfl ⟨⟨_, rfl, rfl⟩, ⟨_, rfl, rfl⟩, ⟨_, rfl, rfl⟩, trivial⟩ ⟨⟨_, rfl, rfl⟩, trivial⟩ trivial⟩
    · replace H := condF hc H
      refine WpC.exit ?_
      refine WpC.seq ?_
      refine WpC.regionL ?_
      refine L.move hF rfl rfl rfl ?_
      refine L.assign hF rfl rfl rfl ?_
      refine L.nil ?_
      refine WpC.ret ?_
      cases H
      exact Leaves.ret rfl rfl rfl ⟨rfl, rfl⟩
/-! ### Flaws_toAsk -/
def Flaws_toAsk (k : Nat) (a0 : Tlaws_Ask) : Option Timpl_Ask := (Flaws_toIntS k a0.Groups).bind fun r1 => some (⟨a0.Server, a0.Op, r1, a0.Now, a0.Used⟩ : Timpl_Ask)
theorem ent85 : Enters Try.prog 85 := ⟨Try.f85, Try.func85, rfl, by decide⟩
set_option maxHeartbeats 8000000 in
set_option maxRecDepth 100000 in
theorem Flaws_toAsk_gives (k : Nat) (g0 : Bool) (a0 : Tlaws_Ask) (r : Timpl_Ask) (H : Flaws_toAsk k a0 = some r) : Gives Try.prog 85 [V.agg [cI a0.Server, cI a0.Op, Cell.sl g0 (List.map eI a0.Groups), cI a0.Now, cI a0.Used]] [] [V.agg [cI r.Server, cI r.Op, Cell.ow 1 (List.map eI r.Groups), cI r.Now, cI r.Used]] [] := by
  refine Gives.intro Try.func85 rfl rfl rfl rfl ?_
  intro F hF hm
  unfold Flaws_toAsk at H
  obtain ⟨K, hK⟩ : ∃ K, k ≤ K := ⟨k, Nat.le_refl k⟩
  refine WpC.seq ?_
  refine WpC.regionL ?_
  refine L.box 5 hF rfl rfl rfl rfl ?_
  refine L.alloc 6 info92 rfl hF rfl rfl rfl rfl ?_
  refine L.nil ?_
  refine WpC.seq ?_
  refine WpC.regionL ?_
  refine L.alloc 7 info92 rfl hF rfl rfl rfl rfl ?_
  refine L.nil ?_
  refine WpC.seq ?_
  refine WpC.regionL ?_
  refine L.fieldAddr Try.underlying89 rfl info3 rfl hF rfl rfl rfl rfl rfl ?_
  refine L.loadPtr shape3 hF rfl rfl rfl rfl rfl rfl ?_
  refine L.fieldAddr Try.underlying92 rfl info3 rfl hF rfl rfl rfl rfl rfl ?_
  refine L.storePtr shape3 hF rfl rfl rfl rfl rfl rfl rfl ?_
  refine L.nil ?_
  refine WpC.seq ?_
  refine WpC.regionL ?_
  refine L.fieldAddr Try.underlying89 rfl info3 rfl hF rfl rfl rfl rfl rfl ?_
  refine L.loadPtr shape3 hF rfl rfl rfl rfl rfl rfl ?_
  refine L.fieldAddr Try.underlying92 rfl info3 rfl hF rfl rfl rfl rfl rfl ?_
  refine L.storePtr shape3 hF rfl rfl rfl rfl rfl rfl rfl ?_
  refine L.nil ?_
  refine WpC.seq ?_
  refine WpC.regionL ?_
  refine L.fieldAddr Try.underlying89 rfl info77 rfl hF rfl rfl rfl rfl rfl ?_
  refine L.loadPtr shape77 hF rfl rfl rfl rfl rfl rfl ?_
  obtain ⟨r1, hr1, H⟩ := bindS H
  refine L.call [false] [] [] 8 hF rfl rfl rfl ent137 rfl rfl rfl rfl rfl (Flaws_toIntS_gives k g0 a0.Groups r1 hr1) rfl ?_
  refine L.fieldAddr Try.underlying92 rfl info77 rfl hF rfl rfl rfl rfl rfl ?_
  refine L.storePtr shape77 hF rfl rfl rfl rfl rfl rfl rfl ?_
  refine L.nil ?_
  refine WpC.seq ?_
  refine WpC.regionL ?_
  refine L.fieldAddr Try.underlying89 rfl info3 rfl hF rfl rfl rfl rfl rfl ?_
  refine L.loadPtr shape3 hF rfl rfl rfl rfl rfl rfl ?_
  refine L.fieldAddr Try.underlying92 rfl info3 rfl hF rfl rfl rfl rfl rfl ?_
  refine L.storePtr shape3 hF rfl rfl rfl rfl rfl rfl rfl ?_
  refine L.nil ?_
  refine WpC.seq ?_
  refine WpC.regionL ?_
  refine L.fieldAddr Try.underlying89 rfl info3 rfl hF rfl rfl rfl rfl rfl ?_
  refine L.loadPtr shape3 hF rfl rfl rfl rfl rfl rfl ?_
  refine L.fieldAddr Try.underlying92 rfl info3 rfl hF rfl rfl rfl rfl rfl ?_
  refine L.storePtr shape3 hF rfl rfl rfl rfl rfl rfl rfl ?_
  refine L.nil ?_
  refine WpC.seq ?_
  refine WpC.regionL ?_
  refine L.loadPtr shape92 hF rfl rfl rfl rfl rfl rfl ?_
  refine L.storePtr shape92 hF rfl rfl rfl rfl rfl rfl rfl ?_
  refine L.nil ?_
  refine WpC.ret ?_
  cases H
  exact Leaves.ret rfl rfl rfl ⟨rfl, rfl⟩
/-! ### Fspec_l1In -/
def Fspec_l1In (k : Nat) (a0 : Int) (a1 : Int) (a2 : Int) : Option Bool := cond (decide (a0 ≥ a1)) (some (decide (a0 ≤ a2))) (some false)
theorem ent92 : Enters Try.prog 92 := ⟨Try.f92, Try.func92, rfl, by decide⟩
set_option maxHeartbeats 8000000 in
set_option maxRecDepth 100000 in
theorem Fspec_l1In_gives (k : Nat) (a0 : Int) (a1 : Int) (a2 : Int) (r : Bool) (H : Fspec_l1In k a0 a1 a2 = some r) : Gives Try.prog 92 [V.one (cI a0), V.one (cI a1), V.one (cI a2)] [] [V.one (cL r)] [] := by
  refine Gives.intro Try.func92 rfl rfl rfl rfl ?_
  intro F hF hm
  unfold Fspec_l1In at H
  obtain ⟨K, hK⟩ : ∃ K, k ≤ K := ⟨k, Nat.le_refl k⟩
  refine WpC.seq ?_
  refine WpC.regionL ?_
  refine L.assign hF rfl rfl rfl ?_
  refine L.nil ?_
  refine WpC.seq ?_
  refine WpC.regionL ?_
  refine L.move hF rfl rfl rfl ?_
  refine L.move hF rfl rfl rfl ?_
  refine L.bin hF rfl rfl rfl rfl rfl rfl ?_
  refine L.move hF rfl rfl rfl ?_
  refine L.split (fun hc => ?_) (fun hc => ?_)
  · replace H := condT hc H
    refine L.move hF rfl rfl rfl ?_
    refine L.move hF rfl rfl rfl ?_
    refine L.bin hF rfl rfl rfl rfl rfl rfl ?_
    refine L.pick hF rfl rfl rfl rfl ?_
    refine L.assign hF rfl rfl rfl ?_
    refine L.nil ?_
    refine WpC.ret ?_
    cases H
    exact Leaves.ret rfl rfl rfl ⟨rfl, rfl⟩
  · replace H := condF hc H
    refine L.off hF rfl rfl ?_
    refine L.off hF rfl rfl ?_
    refine L.off hF rfl rfl ?_
    refine L.pick hF rfl rfl rfl rfl ?_
    refine L.assign hF rfl rfl rfl ?_
    refine L.nil ?_
    refine WpC.ret ?_
    cases H
    exact Leaves.ret rfl rfl rfl ⟨rfl, rfl⟩
/-! ### Fspec_l17Set -/
def Fspec_l17Set.j8 (cl7 : (List Int) → Int → Option Bool) (k : Nat) (v122 : List Int) (v123 : Int) (v124 : Bool) (v125 : Bool) (v126 : Bool) : Option Bool := cl7 v122 (IntKind.i64.wrap (v123 + (1 : Int)))
def Fspec_l17Set.l7 : Nat → (List Int) → Int → Option Bool
  | 0, _, _ => none
  | k7 + 1, v112, v113 => cond (decide (v113 < (v112.length : Int))) ((at? v112 v113).bind fun b131 => (Fspec_l1In k7 b131 (0 : Int) (30 : Int)).bind fun r132 => cond (!r132) (some false) (cond (decide (v113 > (0 : Int))) ((at? v112 (IntKind.i64.wrap (v113 - (1 : Int)))).bind fun b135 => (at? v112 v113).bind fun b136 => cond (decide (b135 ≥ b136)) (some false) (Fspec_l17Set.j8 (Fspec_l17Set.l7 k7) k7 v112 v113 (decide (v113 > (0 : Int))) true (decide (b135 ≥ b136)))) (Fspec_l17Set.j8 (Fspec_l17Set.l7 k7) k7 v112 v113 (decide (v113 > (0 : Int))) false false))) (some true)
def Fspec_l17Set (k : Nat) (a0 : List Int) : Option Bool := Fspec_l17Set.l7 k a0 (0 : Int)
theorem ent154 : Enters Try.prog 154 := ⟨Try.f154, Try.func154, rfl, by decide⟩
set_option maxHeartbeats 8000000 in
set_option maxRecDepth 100000 in
theorem Fspec_l17Set_gives (k : Nat) (g0 : Bool) (a0 : List Int) (r : Bool) (H : Fspec_l17Set k a0 = some r) : Gives Try.prog 154 [V.one (Cell.sl g0 (List.map eI a0))] [] [V.one (cL r)] [] := by
  refine Gives.intro Try.func154 rfl rfl rfl rfl ?_
  intro F hF hm
  unfold Fspec_l17Set at H
  obtain ⟨K, hK⟩ : ∃ K, k ≤ K := ⟨k, Nat.le_refl k⟩
  refine WpC.seq ?_
  refine WpC.regionL ?_
  refine L.assign hF rfl rfl rfl ?_
  refine L.nil ?_
  refine WpC.seq ?_
  refine WpC.seq ?_
  refine WpC.regionL ?_
  refine L.assign hF rfl rfl rfl ?_
  refine L.nil ?_
  refine WpC.block ?_
  refine WpC.loopL (P := Try.prog) (fun n σ => ∃ v112 : List Int, ∃ v113 : Int, n ≤ K ∧ Fspec_l17Set.l7 n v112 v113 = some r ∧ σ = mkSt [(0, one (Cell.sl g0 (List.map eI v112))), (3, one (cI v113))] [] [] 0) k ⟨_, ⟨a0, (0 : Int), by omega, H, rfl⟩, Le.mk [] hm rfl ⟨⟨_, rfl, rfl⟩, ⟨_, rfl, rfl⟩, trivial⟩ trivial trivial⟩ ?_
  clear H
  rintro k7 _ ⟨v112, v113, hk7, H, rfl⟩
  cases k7 with
  | zero => cases H
  | succ k7 =>
    rw [Fspec_l17Set.l7] at H
    refine WpC.seq ?_
    refine WpC.seq ?_
    refine WpC.regionL ?_
    refine L.move hF rfl rfl rfl ?_
    refine L.move hF rfl rfl rfl ?_
    refine L.lenR (xs := v112) (e := eI) Try.underlying77 hF rfl rfl rfl rfl ?_
    refine L.bin hF rfl rfl rfl rfl rfl rfl ?_
    refine L.nil ?_
    refine WpC.cond rfl (fun hc => ?_) (fun hc => ?_)
    · replace H := condT hc H
      refine WpC.skip ?_
      refine WpC.join (fun σ => ∃ kj8 : Nat, ∃ v122 : List Int, ∃ v123 : Int, ∃ v124 : Bool, ∃ v125 : Bool, ∃ v126 : Bool, kj8 ≤ K ∧ Fspec_l17Set.j8 (Fspec_l17Set.l7 k7) kj8 v122 v123 v124 v125 v126 = some r ∧ σ = mkSt [(0, one (Cell.sl g0 (List.map eI v122))), (3, one (cI v123)), (17, one (cI v123)), (18, one (cL v124)), (19, one (cL v125)), (30, one (cL v126))] [] [] 0) ?_ ?_
      · rintro _ ⟨kj8, v122, v123, v124, v125, v126, hkj8, H, rfl⟩
        unfold Fspec_l17Set.j8 at H
        refine WpC.regionL ?_
        refine L.move hF rfl rfl rfl ?_
        refine L.bin hF rfl rfl rfl rfl rfl rfl ?_
        refine L.assign hF rfl rfl rfl ?_
        refine L.nil ?_
        exact ⟨k7, _, by omega, ⟨v122, (IntKind.i64.wrap (v123 + (1 : Int))), by omega, H, rfl⟩, Le.mk [] hm rfl ⟨⟨_, rfl, rfl⟩, ⟨_, rfl, rfl⟩, trivial⟩ trivial trivial⟩
      · refine WpC.block ?_
        refine WpC.seq ?_
        obtain ⟨b131, hb131, H⟩ := bindS H
        obtain ⟨r132, hr132, H⟩ := bindS H
        rcases Bool.eq_false_or_eq_true ((!r132)) with hc133 | hc133
        · replace H := condT hc133 H
          refine A.begin mixed rfl rfl ?_
          intro W hI hO
          have n4194303 : W 0 #[true, true, true, true, true, true, true, true, true, true, true, true, true, true, true, true, true, true, true, true, true, true] (mkSt [(0, one (Cell.sl g0 (List.map eI v112))), (3, one (cI v113)), (17, Slot.tup []), (18, Slot.tup []), (19, Slot.tup []), (20, Slot.tup []), (21, Slot.tup []), (22, Slot.tup []), (23, Slot.tup []), (24, Slot.tup []), (25, Slot.tup []), (26, Slot.tup []), (27, Slot.tup []), (28, Slot.tup []), (29, Slot.tup []), (30, Slot.tup []), (31, one (cL true))] [] [] 0) := by
            refine hI _ _ _ (A.done (by kernel_rfl) ?_)
            refine WpC.cond rfl (fun _ => ?_) (fun hc => by cases hc)
            refine WpC.seq ?_
            refine WpC.regionL ?_
            refine L.assign hF rfl rfl rfl ?_
            refine L.nil ?_
            refine WpC.ret ?_
            cases H
            exact Leaves.ret rfl rfl rfl ⟨rfl, rfl⟩
          have n2097151 : W 1 #[true, true, true, true, true, true, true, true, true, true, true, true, true, true, true, true, true, true, true, true, true, false] (mkSt [(0, one (Cell.sl g0 (List.map eI v112))), (3, one (cI v113)), (16, one (cL true)), (17, Slot.tup []), (18, Slot.tup []), (19, Slot.tup []), (20, Slot.tup []), (21, Slot.tup []), (22, Slot.tup []), (23, Slot.tup []), (24, Slot.tup []), (25, Slot.tup []), (26, Slot.tup []), (27, Slot.tup []), (28, Slot.tup []), (29, Slot.tup []), (30, Slot.tup [])] [] [] 0) := by
            refine hI _ _ _ ?_
            refine A.take 21 rfl (by kernel_rfl) (by kernel_rfl) (by kernel_rfl) rfl (Ca.pick) (fun Q0 k0 => L.pick hF rfl rfl rfl rfl (L.nil k0)) ?_
            exact A.on (hO _ _ _ n4194303) (Le.mk [] hm rfl ⟨⟨_, rfl, rfl⟩, ⟨_, rfl, rfl⟩, ⟨_, rfl, rfl⟩, ⟨_, rfl, rfl⟩, ⟨_, rfl, rfl⟩, ⟨_, rfl, rfl⟩, ⟨_, rfl, rfl⟩, ⟨_, rfl, rfl⟩, ⟨_, rfl, rfl⟩, ⟨_, rfl, rfl⟩, ⟨_, rfl, rfl⟩, ⟨_, rfl, rfl⟩, ⟨_, rfl, rfl⟩, ⟨_, rfl, rfl⟩, ⟨_, rfl, rfl⟩, ⟨_, rfl, rfl⟩, ⟨_, rfl, rfl⟩, trivial⟩ trivial trivial)
          have n1048575 : W 2 #[true, true, true, true, true, true, true, true, true, true, true, true, true, true, true, true, true, true, true, true, false, false] (mkSt [(0, one (Cell.sl g0 (List.map eI v112))), (3, one (cI v113)), (16, one (cL true)), (17, Slot.tup []), (18, Slot.tup []), (19, Slot.tup []), (20, Slot.tup []), (21, Slot.tup []), (22, Slot.tup []), (23, Slot.tup []), (24, Slot.tup []), (25, Slot.tup []), (26, Slot.tup []), (27, Slot.tup []), (28, Slot.tup []), (29, Slot.tup [])] [] [] 0) := by
            refine hI _ _ _ ?_
            refine A.off 20 rfl (by kernel_rfl) (by kernel_rfl) (by kernel_rfl) rfl hF rfl rfl ?_
            exact A.on (hO _ _ _ n2097151) (Le.mk [] hm rfl ⟨⟨_, rfl, rfl⟩, ⟨_, rfl, rfl⟩, ⟨_, rfl, rfl⟩, ⟨_, rfl, rfl⟩, ⟨_, rfl, rfl⟩, ⟨_, rfl, rfl⟩, ⟨_, rfl, rfl⟩, ⟨_, rfl, rfl⟩, ⟨_, rfl, rfl⟩, ⟨_, rfl, rfl⟩, ⟨_, rfl, rfl⟩, ⟨_, rfl, rfl⟩, ⟨_, rfl, rfl⟩, ⟨_, rfl, rfl⟩, ⟨_, rfl, rfl⟩, ⟨_, rfl, rfl⟩, ⟨_, rfl, rfl⟩, trivial⟩ trivial trivial)
          have n524287 : W 3 #[true, true, true, true, true, true, true, true, true, true, true, true, true, true, true, true, true, true, true, false, false, false] (mkSt [(0, one (Cell.sl g0 (List.map eI v112))), (3, one (cI v113)), (16, one (cL true)), (17, Slot.tup []), (18, Slot.tup []), (19, Slot.tup []), (20, Slot.tup []), (21, Slot.tup []), (22, Slot.tup []), (23, Slot.tup []), (24, Slot.tup []), (25, Slot.tup []), (26, Slot.tup []), (27, Slot.tup []), (28, Slot.tup [])] [] [] 0) := by
            refine hI _ _ _ ?_
            refine A.off 19 rfl (by kernel_rfl) (by kernel_rfl) (by kernel_rfl) rfl hF rfl rfl ?_
            exact A.on (hO _ _ _ n1048575) (Le.mk [] hm rfl ⟨⟨_, rfl, rfl⟩, ⟨_, rfl, rfl⟩, ⟨_, rfl, rfl⟩, ⟨_, rfl, rfl⟩, ⟨_, rfl, rfl⟩, ⟨_, rfl, rfl⟩, ⟨_, rfl, rfl⟩, ⟨_, rfl, rfl⟩, ⟨_, rfl, rfl⟩, ⟨_, rfl, rfl⟩, ⟨_, rfl, rfl⟩, ⟨_, rfl, rfl⟩, ⟨_, rfl, rfl⟩, ⟨_, rfl, rfl⟩, ⟨_, rfl, rfl⟩, ⟨_, rfl, rfl⟩, trivial⟩ trivial trivial)
          have n262143 : W 4 #[true, true, true, true, true, true, true, true, true, true, true, true, true, true, true, true, true, true, false, false, false, false] (mkSt [(0, one (Cell.sl g0 (List.map eI v112))), (3, one (cI v113)), (16, one (cL true)), (17, Slot.tup []), (18, Slot.tup []), (19, Slot.tup []), (20, Slot.tup []), (21, Slot.tup []), (22, Slot.tup []), (23, Slot.tup []), (24, Slot.tup []), (25, Slot.tup []), (26, Slot.tup []), (27, Slot.tup [])] [] [] 0) := by
            refine hI _ _ _ ?_
            refine A.off 18 rfl (by kernel_rfl) (by kernel_rfl) (by kernel_rfl) rfl hF rfl rfl ?_
            exact A.on (hO _ _ _ n524287) (Le.mk [] hm rfl ⟨⟨_, rfl, rfl⟩, ⟨_, rfl, rfl⟩, ⟨_, rfl, rfl⟩, ⟨_, rfl, rfl⟩, ⟨_, rfl, rfl⟩, ⟨_, rfl, rfl⟩, ⟨_, rfl, rfl⟩, ⟨_, rfl, rfl⟩, ⟨_, rfl, rfl⟩, ⟨_, rfl, rfl⟩, ⟨_, rfl, rfl⟩, ⟨_, rfl, rfl⟩, ⟨_, rfl, rfl⟩, ⟨_, rfl, rfl⟩, ⟨_, rfl, rfl⟩, trivial⟩ trivial trivial)
          have n131071 : W 5 #[true, true, true, true, true, true, true, true, true, true, true, true, true, true, true, true, true, false, false, false, false, false] (mkSt [(0, one (Cell.sl g0 (List.map eI v112))), (3, one (cI v113)), (16, one (cL true)), (17, Slot.tup []), (18, Slot.tup []), (19, Slot.tup []), (20, Slot.tup []), (21, Slot.tup []), (22, Slot.tup []), (23, Slot.tup []), (24, Slot.tup []), (25, Slot.tup []), (26, Slot.tup [])] [] [] 0) := by
            refine hI _ _ _ ?_
            refine A.off 17 rfl (by kernel_rfl) (by kernel_rfl) (by kernel_rfl) rfl hF rfl rfl ?_
            exact A.on (hO _ _ _ n262143) (Le.mk [] hm rfl ⟨⟨_, rfl, rfl⟩, ⟨_, rfl, rfl⟩, ⟨_, rfl, rfl⟩, ⟨_, rfl, rfl⟩, ⟨_, rfl, rfl⟩, ⟨_, rfl, rfl⟩, ⟨_, rfl, rfl⟩, ⟨_, rfl, rfl⟩, ⟨_, rfl, rfl⟩, ⟨_, rfl, rfl⟩, ⟨_, rfl, rfl⟩, ⟨_, rfl, rfl⟩, ⟨_, rfl, rfl⟩, ⟨_, rfl, rfl⟩, trivial⟩ trivial trivial)
          have n65535 : W 6 #[true, true, true, true, true, true, true, true, true, true, true, true, true, true, true, true, false, false, false, false, false, false] (mkSt [(0, one (Cell.sl g0 (List.map eI v112))), (3, one (cI v113)), (16, one (cL true)), (17, Slot.tup []), (18, Slot.tup []), (19, Slot.tup []), (20, Slot.tup []), (21, Slot.tup []), (22, Slot.tup []), (23, Slot.tup []), (24, Slot.tup []), (25, Slot.tup [])] [] [] 0) := by
            refine hI _ _ _ ?_
            refine A.off 16 rfl (by kernel_rfl) (by kernel_rfl) (by kernel_rfl) rfl hF rfl rfl ?_
            exact A.on (hO _ _ _ n131071) (Le.mk [] hm rfl ⟨⟨_, rfl, rfl⟩, ⟨_, rfl, rfl⟩, ⟨_, rfl, rfl⟩, ⟨_, rfl, rfl⟩, ⟨_, rfl, rfl⟩, ⟨_, rfl, rfl⟩, ⟨_, rfl, rfl⟩, ⟨_, rfl, rfl⟩, ⟨_, rfl, rfl⟩, ⟨_, rfl, rfl⟩, ⟨_, rfl, rfl⟩, ⟨_, rfl, rfl⟩, ⟨_, rfl, rfl⟩, trivial⟩ trivial trivial)
          have n32767 : W 7 #[true, true, true, true, true, true, true, true, true, true, true, true, true, true, true, false, false, false, false, false, false, false] (mkSt [(0, one (Cell.sl g0 (List.map eI v112))), (3, one (cI v113)), (16, one (cL true)), (17, Slot.tup []), (18, Slot.tup []), (19, Slot.tup []), (20, Slot.tup []), (21, Slot.tup []), (22, Slot.tup []), (23, Slot.tup []), (24, Slot.tup [])] [] [] 0) := by
            refine hI _ _ _ ?_
            refine A.off 15 rfl (by kernel_rfl) (by kernel_rfl) (by kernel_rfl) rfl hF rfl rfl ?_
            exact A.on (hO _ _ _ n65535) (Le.mk [] hm rfl ⟨⟨_, rfl, rfl⟩, ⟨_, rfl, rfl⟩, ⟨_, rfl, rfl⟩, ⟨_, rfl, rfl⟩, ⟨_, rfl, rfl⟩, ⟨_, rfl, rfl⟩, ⟨_, rfl, rfl⟩, ⟨_, rfl, rfl⟩, ⟨_, rfl, rfl⟩, ⟨_, rfl, rfl⟩, ⟨_, rfl, rfl⟩, ⟨_, rfl, rfl⟩, trivial⟩ trivial trivial)
          have n16383 : W 8 #[true, true, true, true, true, true, true, true, true, true, true, true, true, true, false, false, false, false, false, false, false, false] (mkSt [(0, one (Cell.sl g0 (List.map eI v112))), (3, one (cI v113)), (16, one (cL true)), (17, Slot.tup []), (18, Slot.tup []), (19, Slot.tup []), (20, Slot.tup []), (21, Slot.tup []), (22, Slot.tup []), (23, Slot.tup [])] [] [] 0) := by
            refine hI _ _ _ ?_
            refine A.off 14 rfl (by kernel_rfl) (by kernel_rfl) (by kernel_rfl) rfl hF rfl rfl ?_
            exact A.on (hO _ _ _ n32767) (Le.mk [] hm rfl ⟨⟨_, rfl, rfl⟩, ⟨_, rfl, rfl⟩, ⟨_, rfl, rfl⟩, ⟨_, rfl, rfl⟩, ⟨_, rfl, rfl⟩, ⟨_, rfl, rfl⟩, ⟨_, rfl, rfl⟩, ⟨_, rfl, rfl⟩, ⟨_, rfl, rfl⟩, ⟨_, rfl, rfl⟩, ⟨_, rfl, rfl⟩, trivial⟩ trivial trivial)
          have n8191 : W 9 #[true, true, true, true, true, true, true, true, true, true, true, true, true, false, false, false, false, false, false, false, false, false] (mkSt [(0, one (Cell.sl g0 (List.map eI v112))), (3, one (cI v113)), (16, one (cL true)), (17, Slot.tup []), (18, Slot.tup []), (19, Slot.tup []), (20, Slot.tup []), (21, Slot.tup []), (22, Slot.tup [])] [] [] 0) := by
            refine hI _ _ _ ?_
            refine A.off 13 rfl (by kernel_rfl) (by kernel_rfl) (by kernel_rfl) rfl hF rfl rfl ?_
            exact A.on (hO _ _ _ n16383) (Le.mk [] hm rfl ⟨⟨_, rfl, rfl⟩, ⟨_, rfl, rfl⟩, ⟨_, rfl, rfl⟩, ⟨_, rfl, rfl⟩, ⟨_, rfl, rfl⟩, ⟨_, rfl, rfl⟩, ⟨_, rfl, rfl⟩, ⟨_, rfl, rfl⟩, ⟨_, rfl, rfl⟩, ⟨_, rfl, rfl⟩, trivial⟩ trivial trivial)
          have n4095 : W 10 #[true, true, true, true, true, true, true, true, true, true, true, true, false, false, false, false, false, false, false, false, false, false] (mkSt [(0, one (Cell.sl g0 (List.map eI v112))), (3, one (cI v113)), (16, one (cL true)), (17, Slot.tup []), (18, Slot.tup []), (19, Slot.tup []), (20, Slot.tup []), (21, Slot.tup [])] [] [] 0) := by
            refine hI _ _ _ ?_
            refine A.off 12 rfl (by kernel_rfl) (by kernel_rfl) (by kernel_rfl) rfl hF rfl rfl ?_
            exact A.on (hO _ _ _ n8191) (Le.mk [] hm rfl ⟨⟨_, rfl, rfl⟩, ⟨_, rfl, rfl⟩, ⟨_, rfl, rfl⟩, ⟨_, rfl, rfl⟩, ⟨_, rfl, rfl⟩, ⟨_, rfl, rfl⟩, ⟨_, rfl, rfl⟩, ⟨_, rfl, rfl⟩, ⟨_, rfl, rfl⟩, trivial⟩ trivial trivial)
          have n2047 : W 11 #[true, true, true, true, true, true, true, true, true, true, true, false, false, false, false, false, false, false, false, false, false, false] (mkSt [(0, one (Cell.sl g0 (List.map eI v112))), (3, one (cI v113)), (16, one (cL true)), (17, Slot.tup []), (18, Slot.tup []), (19, Slot.tup []), (20, Slot.tup [])] [] [] 0) := by
            refine hI _ _ _ ?_
            refine A.off 11 rfl (by kernel_rfl) (by kernel_rfl) (by kernel_rfl) rfl hF rfl rfl ?_
            exact A.on (hO _ _ _ n4095) (Le.mk [] hm rfl ⟨⟨_, rfl, rfl⟩, ⟨_, rfl, rfl⟩, ⟨_, rfl, rfl⟩, ⟨_, rfl, rfl⟩, ⟨_, rfl, rfl⟩, ⟨_, rfl, rfl⟩, ⟨_, rfl, rfl⟩, ⟨_, rfl, rfl⟩, trivial⟩ trivial trivial)
          have n1023 : W 12 #[true, true, true, true, true, true, true, true, true, true, false, false, false, false, false, false, false, false, false, false, false, false] (mkSt [(0, one (Cell.sl g0 (List.map eI v112))), (3, one (cI v113)), (16, one (cL true)), (17, Slot.tup []), (18, Slot.tup []), (19, Slot.tup [])] [] [] 0) := by
            refine hI _ _ _ ?_
            refine A.off 10 rfl (by kernel_rfl) (by kernel_rfl) (by kernel_rfl) rfl hF rfl rfl ?_
            exact A.on (hO _ _ _ n2047) (Le.mk [] hm rfl ⟨⟨_, rfl, rfl⟩, ⟨_, rfl, rfl⟩, ⟨_, rfl, rfl⟩, ⟨_, rfl, rfl⟩, ⟨_, rfl, rfl⟩, ⟨_, rfl, rfl⟩, ⟨_, rfl, rfl⟩, trivial⟩ trivial trivial)
          have n511 : W 13 #[true, true, true, true, true, true, true, true, true, false, false, false, false, false, false, false, false, false, false, false, false, false] (mkSt [(0, one (Cell.sl g0 (List.map eI v112))), (3, one (cI v113)), (16, one (cL true)), (17, Slot.tup []), (18, Slot.tup [])] [] [] 0) := by
            refine hI _ _ _ ?_
            refine A.off 9 rfl (by kernel_rfl) (by kernel_rfl) (by kernel_rfl) rfl hF rfl rfl ?_
            exact A.on (hO _ _ _ n1023) (Le.mk [] hm rfl ⟨⟨_, rfl, rfl⟩, ⟨_, rfl, rfl⟩, ⟨_, rfl, rfl⟩, ⟨_, rfl, rfl⟩, ⟨_, rfl, rfl⟩, ⟨_, rfl, rfl⟩, trivial⟩ trivial trivial)
          have n255 : W 14 #[true, true, true, true, true, true, true, true, false, false, false, false, false, false, false, false, false, false, false, false, false, false] (mkSt [(0, one (Cell.sl g0 (List.map eI v112))), (3, one (cI v113)), (16, one (cL true)), (17, Slot.tup [])] [] [] 0) := by
            refine hI _ _ _ ?_
            refine A.off 8 rfl (by kernel_rfl) (by kernel_rfl) (by kernel_rfl) rfl hF rfl rfl ?_
            exact A.on (hO _ _ _ n511) (Le.mk [] hm rfl ⟨⟨_, rfl, rfl⟩, ⟨_, rfl, rfl⟩, ⟨_, rfl, rfl⟩, ⟨_, rfl, rfl⟩, ⟨_, rfl, rfl⟩, trivial⟩ trivial trivial)
          have n127 : W 15 #[true, true, true, true, true, true, true, false, false, false, false, false, false, false, false, false, false, false, false, false, false, false] (mkSt [(0, one (Cell.sl g0 (List.map eI v112))), (3, one (cI v113)), (16, one (cL true))] [] [] 0) := by
            refine hI _ _ _ ?_
            refine A.off 7 rfl (by kernel_rfl) (by kernel_rfl) (by kernel_rfl) rfl hF rfl rfl ?_
            exact A.on (hO _ _ _ n255) (Le.mk [] hm rfl ⟨⟨_, rfl, rfl⟩, ⟨_, rfl, rfl⟩, ⟨_, rfl, rfl⟩, ⟨_, rfl, rfl⟩, trivial⟩ trivial trivial)
          have n63 : W 16 #[true, true, true, true, true, true, false, false, false, false, false, false, false, false, false, false, false, false, false, false, false, false] (mkSt [(0, one (Cell.sl g0 (List.map eI v112))), (3, one (cI v113)), (15, one (cL (!r132)))] [] [] 0) := by
            refine hI _ _ _ ?_
            refine A.take 6 rfl (by kernel_rfl) (by kernel_rfl) (by kernel_rfl) rfl (Ca.move) (fun Q0 k0 => L.move hF rfl rfl rfl (L.nil k0)) ?_
            exact A.on (hO _ _ _ n127) (Le.mk [] hm rfl ⟨⟨_, rfl, rfl⟩, ⟨_, rfl, rfl⟩, ⟨_, rfl, congrArg (fun b => some (one (cL b))) hc133⟩, trivial⟩ trivial trivial)
          have n31 : W 17 #[true, true, true, true, true, false, false, false, false, false, false, false, false, false, false, false, false, false, false, false, false, false] (mkSt [(0, one (Cell.sl g0 (List.map eI v112))), (3, one (cI v113)), (14, one (cL r132))] [] [] 0) := by
            refine hI _ _ _ ?_
            refine A.take 5 rfl (by kernel_rfl) (by kernel_rfl) (by kernel_rfl) rfl (Ca.un rfl rfl) (fun Q0 k0 => L.not hF rfl rfl rfl (L.nil k0)) ?_
            exact A.on (hO _ _ _ n63) (Le.mk [] hm rfl ⟨⟨_, rfl, rfl⟩, ⟨_, rfl, rfl⟩, ⟨_, rfl, rfl⟩, trivial⟩ trivial trivial)
          have n15 : W 18 #[true, true, true, true, false, false, false, false, false, false, false, false, false, false, false, false, false, false, false, false, false, false] (mkSt [(0, one (Cell.sl g0 (List.map eI v112))), (3, one (cI v113)), (13, one (cI b131))] [] [] 0) := by
            refine hI _ _ _ ?_
            refine A.all [4] (by kernel_rfl) rfl ⟨⟨_, rfl, ?_⟩, trivial⟩
            · refine L.call [false, false, false] [] [] 0 hF rfl rfl rfl ent92 rfl rfl rfl rfl rfl (Fspec_l1In_gives k7  b131 (0 : Int) (30 : Int) r132 hr132) rfl ?_
              refine L.nil ?_
              exact A.on (hO _ _ _ n31) (Le.mk [] hm rfl ⟨⟨_, rfl, rfl⟩, ⟨_, rfl, rfl⟩, ⟨_, rfl, rfl⟩, trivial⟩ trivial trivial)
          have n7 : W 19 #[true, true, true, false, false, false, false, false, false, false, false, false, false, false, false, false, false, false, false, false, false, false] (mkSt [(0, one (Cell.sl g0 (List.map eI v112))), (3, one (cI v113)), (12, one (Cell.pe g0 (eI b131) 0))] [] [] 0) := by
            refine hI _ _ _ ?_
            refine A.all [3] (by kernel_rfl) rfl ⟨⟨_, rfl, ?_⟩, trivial⟩
            · refine L.loadPe shape3 hF rfl rfl rfl rfl rfl ?_
              refine L.nil ?_
              exact A.on (hO _ _ _ n15) (Le.mk [] hm rfl ⟨⟨_, rfl, rfl⟩, ⟨_, rfl, rfl⟩, ⟨_, rfl, rfl⟩, trivial⟩ trivial trivial)
          have n3 : W 20 #[true, true, false, false, false, false, false, false, false, false, false, false, false, false, false, false, false, false, false, false, false, false] (mkSt [(0, one (Cell.sl g0 (List.map eI v112))), (3, one (cI v113)), (10, one (Cell.sl g0 (List.map eI v112))), (11, one (cI v113))] [] [] 0) := by
            refine hI _ _ _ ?_
            refine A.take 2 rfl (by kernel_rfl) (by kernel_rfl) (by kernel_rfl) rfl (Ca.indexAddr) (fun Q0 k0 => L.idxR (xs := v112) (e := eI) Try.underlying77 info3 hF rfl rfl rfl rfl rfl hb131 rfl rfl (L.nil k0)) ?_
            exact A.on (hO _ _ _ n7) (Le.mk [] hm rfl ⟨⟨_, rfl, rfl⟩, ⟨_, rfl, rfl⟩, ⟨_, rfl, rfl⟩, trivial⟩ trivial trivial)
          have n1 : W 21 #[true, false, false, false, false, false, false, false, false, false, false, false, false, false, false, false, false, false, false, false, false, false] (mkSt [(0, one (Cell.sl g0 (List.map eI v112))), (3, one (cI v113)), (10, one (Cell.sl g0 (List.map eI v112)))] [] [] 0) := by
            refine hI _ _ _ ?_
            refine A.take 1 rfl (by kernel_rfl) (by kernel_rfl) (by kernel_rfl) rfl (Ca.move) (fun Q0 k0 => L.move hF rfl rfl rfl (L.nil k0)) ?_
            exact A.on (hO _ _ _ n3) (Le.mk [] hm rfl ⟨⟨_, rfl, rfl⟩, ⟨_, rfl, rfl⟩, ⟨_, rfl, rfl⟩, ⟨_, rfl, rfl⟩, trivial⟩ trivial trivial)
          have n0 : W 22 #[false, false, false, false, false, false, false, false, false, false, false, false, false, false, false, false, false, false, false, false, false, false] (mkSt [(0, one (Cell.sl g0 (List.map eI v112))), (3, one (cI v113))] [] [] 0) := by
            refine hI _ _ _ ?_
            refine A.take 0 rfl (by kernel_rfl) (by kernel_rfl) (by kernel_rfl) rfl (Ca.move) (fun Q0 k0 => L.move hF rfl rfl rfl (L.nil k0)) ?_
            exact A.on (hO _ _ _ n1) (Le.mk [] hm rfl ⟨⟨_, rfl, rfl⟩, ⟨_, rfl, rfl⟩, ⟨_, rfl, rfl⟩, trivial⟩ trivial trivial)
          exact hI _ _ _ (A.on (hO _ _ _ n0) (Le.mk [] hm rfl ⟨⟨_, rfl, rfl⟩, ⟨_, rfl, rfl⟩, trivial⟩ trivial trivial))
        · replace H := condF hc133 H
          rcases Bool.eq_false_or_eq_true ((decide (v113 > (0 : Int)))) with hc134 | hc134
          · replace H := condT hc134 H
            obtain ⟨b135, hb135, H⟩ := bindS H
            obtain ⟨b136, hb136, H⟩ := bindS H
            refine A.begin mixed rfl rfl ?_
            intro W hI hO
            have n4194303 : W 0 #[true, true, true, true, true, true, true, true, true, true, true, true, true, true, true, true, true, true, true, true, true, true] (mkSt [(0, one (Cell.sl g0 (List.map eI v112))), (3, one (cI v113)), (17, one (cI v113)), (18, one (cL (decide (v113 > (0 : Int))))), (19, one (cL true)), (20, one (Cell.sl g0 (List.map eI v112))), (21, one (cI v113)), (22, one (cI (IntKind.i64.wrap (v113 - (1 : Int))))), (23, one (Cell.pe g0 (eI b135) 0)), (24, one (cI b135)), (25, one (Cell.sl g0 (List.map eI v112))), (26, one (cI v113)), (27, one (Cell.pe g0 (eI b136) 0)), (28, one (cI b136)), (29, one (cL (decide (b135 ≥ b136)))), (30, one (cL (decide (b135 ≥ b136)))), (31, one (cL (decide (b135 ≥ b136))))] [] [] 0) := by
              refine hI _ _ _ (A.done (by kernel_rfl) ?_)
              refine WpC.cond rfl (fun hc => ?_) (fun hc => ?_)
              · replace H := condT hc H
                refine WpC.seq ?_
                refine WpC.regionL ?_
                refine L.assign hF rfl rfl rfl ?_
                refine L.nil ?_
                refine WpC.ret ?_
                cases H
                exact Leaves.ret rfl rfl rfl ⟨rfl, rfl⟩
              · replace H := condF hc H
                refine WpC.skip ?_
                exact ⟨_, ⟨k7, v112, v113, (decide (v113 > (0 : Int))), true, (decide (b135 ≥ b136)), by omega, H, rfl⟩, Le.mk [] hm rfl ⟨⟨_, rfl, rfl⟩, ⟨_, rfl, rfl⟩, ⟨_, rfl, rfl⟩, ⟨_, rfl, rfl⟩, ⟨_, rfl, rfl⟩, ⟨_, rfl, rfl⟩, trivial⟩ trivial trivial⟩
            have n2097151 : W 1 #[true, true, true, true, true, true, true, true, true, true, true, true, true, true, true, true, true, true, true, true, true, false] (mkSt [(0, one (Cell.sl g0 (List.map eI v112))), (3, one (cI v113)), (16, one (cL false)), (17, one (cI v113)), (18, one (cL (decide (v113 > (0 : Int))))), (19, one (cL true)), (20, one (Cell.sl g0 (List.map eI v112))), (21, one (cI v113)), (22, one (cI (IntKind.i64.wrap (v113 - (1 : Int))))), (23, one (Cell.pe g0 (eI b135) 0)), (24, one (cI b135)), (25, one (Cell.sl g0 (List.map eI v112))), (26, one (cI v113)), (27, one (Cell.pe g0 (eI b136) 0)), (28, one (cI b136)), (29, one (cL (decide (b135 ≥ b136)))), (30, one (cL (decide (b135 ≥ b136))))] [] [] 0) := by
              refine hI _ _ _ ?_
              refine A.take 21 rfl (by kernel_rfl) (by kernel_rfl) (by kernel_rfl) rfl (Ca.pick) (fun Q0 k0 => L.pick hF rfl rfl rfl rfl (L.nil k0)) ?_
              exact A.on (hO _ _ _ n4194303) (Le.mk [] hm rfl ⟨⟨_, rfl, rfl⟩, ⟨_, rfl, rfl⟩, ⟨_, rfl, rfl⟩, ⟨_, rfl, rfl⟩, ⟨_, rfl, rfl⟩, ⟨_, rfl, rfl⟩, ⟨_, rfl, rfl⟩, ⟨_, rfl, rfl⟩, ⟨_, rfl, rfl⟩, ⟨_, rfl, rfl⟩, ⟨_, rfl, rfl⟩, ⟨_, rfl, rfl⟩, ⟨_, rfl, rfl⟩, ⟨_, rfl, rfl⟩, ⟨_, rfl, rfl⟩, ⟨_, rfl, rfl⟩, ⟨_, rfl, rfl⟩, trivial⟩ trivial trivial)
            have n1048575 : W 2 #[true, true, true, true, true, true, true, true, true, true, true, true, true, true, true, true, true, true, true, true, false, false] (mkSt [(0, one (Cell.sl g0 (List.map eI v112))), (3, one (cI v113)), (16, one (cL false)), (17, one (cI v113)), (18, one (cL (decide (v113 > (0 : Int))))), (19, one (cL true)), (20, one (Cell.sl g0 (List.map eI v112))), (21, one (cI v113)), (22, one (cI (IntKind.i64.wrap (v113 - (1 : Int))))), (23, one (Cell.pe g0 (eI b135) 0)), (24, one (cI b135)), (25, one (Cell.sl g0 (List.map eI v112))), (26, one (cI v113)), (27, one (Cell.pe g0 (eI b136) 0)), (28, one (cI b136)), (29, one (cL (decide (b135 ≥ b136))))] [] [] 0) := by
              refine hI _ _ _ ?_
              refine A.take 20 rfl (by kernel_rfl) (by kernel_rfl) (by kernel_rfl) rfl (Ca.pick) (fun Q0 k0 => L.pick hF rfl rfl rfl rfl (L.nil k0)) ?_
              exact A.on (hO _ _ _ n2097151) (Le.mk [] hm rfl ⟨⟨_, rfl, rfl⟩, ⟨_, rfl, rfl⟩, ⟨_, rfl, rfl⟩, ⟨_, rfl, rfl⟩, ⟨_, rfl, rfl⟩, ⟨_, rfl, rfl⟩, ⟨_, rfl, rfl⟩, ⟨_, rfl, rfl⟩, ⟨_, rfl, rfl⟩, ⟨_, rfl, rfl⟩, ⟨_, rfl, rfl⟩, ⟨_, rfl, rfl⟩, ⟨_, rfl, rfl⟩, ⟨_, rfl, rfl⟩, ⟨_, rfl, rfl⟩, ⟨_, rfl, rfl⟩, ⟨_, rfl, rfl⟩, trivial⟩ trivial trivial)
            have n524287 : W 3 #[true, true, true, true, true, true, true, true, true, true, true, true, true, true, true, true, true, true, true, false, false, false] (mkSt [(0, one (Cell.sl g0 (List.map eI v112))), (3, one (cI v113)), (16, one (cL false)), (17, one (cI v113)), (18, one (cL (decide (v113 > (0 : Int))))), (19, one (cL true)), (20, one (Cell.sl g0 (List.map eI v112))), (21, one (cI v113)), (22, one (cI (IntKind.i64.wrap (v113 - (1 : Int))))), (23, one (Cell.pe g0 (eI b135) 0)), (24, one (cI b135)), (25, one (Cell.sl g0 (List.map eI v112))), (26, one (cI v113)), (27, one (Cell.pe g0 (eI b136) 0)), (28, one (cI b136))] [] [] 0) := by
              refine hI _ _ _ ?_
              refine A.take 19 rfl (by kernel_rfl) (by kernel_rfl) (by kernel_rfl) rfl (Ca.bin rfl rfl (calm_int _ _ _ _ _ _ _ _)) (fun Q0 k0 => L.bin hF rfl rfl rfl rfl rfl rfl (L.nil k0)) ?_
              exact A.on (hO _ _ _ n1048575) (Le.mk [] hm rfl ⟨⟨_, rfl, rfl⟩, ⟨_, rfl, rfl⟩, ⟨_, rfl, rfl⟩, ⟨_, rfl, rfl⟩, ⟨_, rfl, rfl⟩, ⟨_, rfl, rfl⟩, ⟨_, rfl, rfl⟩, ⟨_, rfl, rfl⟩, ⟨_, rfl, rfl⟩, ⟨_, rfl, rfl⟩, ⟨_, rfl, rfl⟩, ⟨_, rfl, rfl⟩, ⟨_, rfl, rfl⟩, ⟨_, rfl, rfl⟩, ⟨_, rfl, rfl⟩, ⟨_, rfl, rfl⟩, trivial⟩ trivial trivial)
            have n507903 : W 4 #[true, true, true, true, true, true, true, true, true, true, true, true, true, true, false, true, true, true, true, false, false, false] (mkSt [(0, one (Cell.sl g0 (List.map eI v112))), (3, one (cI v113)), (16, one (cL false)), (17, one (cI v113)), (18, one (cL (decide (v113 > (0 : Int))))), (19, one (cL true)), (20, one (Cell.sl g0 (List.map eI v112))), (21, one (cI v113)), (22, one (cI (IntKind.i64.wrap (v113 - (1 : Int))))), (23, one (Cell.pe g0 (eI b135) 0)), (25, one (Cell.sl g0 (List.map eI v112))), (26, one (cI v113)), (27, one (Cell.pe g0 (eI b136) 0)), (28, one (cI b136))] [] [] 0) := by
              refine hI _ _ _ ?_
              refine A.all [14] (by kernel_rfl) rfl ⟨⟨_, rfl, ?_⟩, trivial⟩
              · refine L.loadPe shape3 hF rfl rfl rfl rfl rfl ?_
                refine L.nil ?_
                exact A.on (hO _ _ _ n524287) (Le.mk [] hm rfl ⟨⟨_, rfl, rfl⟩, ⟨_, rfl, rfl⟩, ⟨_, rfl, rfl⟩, ⟨_, rfl, rfl⟩, ⟨_, rfl, rfl⟩, ⟨_, rfl, rfl⟩, ⟨_, rfl, rfl⟩, ⟨_, rfl, rfl⟩, ⟨_, rfl, rfl⟩, ⟨_, rfl, rfl⟩, ⟨_, rfl, rfl⟩, ⟨_, rfl, rfl⟩, ⟨_, rfl, rfl⟩, ⟨_, rfl, rfl⟩, ⟨_, rfl, rfl⟩, trivial⟩ trivial trivial)
            have n262143 : W 4 #[true, true, true, true, true, true, true, true, true, true, true, true, true, true, true, true, true, true, false, false, false, false] (mkSt [(0, one (Cell.sl g0 (List.map eI v112))), (3, one (cI v113)), (16, one (cL false)), (17, one (cI v113)), (18, one (cL (decide (v113 > (0 : Int))))), (19, one (cL true)), (20, one (Cell.sl g0 (List.map eI v112))), (21, one (cI v113)), (22, one (cI (IntKind.i64.wrap (v113 - (1 : Int))))), (23, one (Cell.pe g0 (eI b135) 0)), (24, one (cI b135)), (25, one (Cell.sl g0 (List.map eI v112))), (26, one (cI v113)), (27, one (Cell.pe g0 (eI b136) 0))] [] [] 0) := by
              refine hI _ _ _ ?_
              refine A.all [18] (by kernel_rfl) rfl ⟨⟨_, rfl, ?_⟩, trivial⟩
              · refine L.loadPe shape3 hF rfl rfl rfl rfl rfl ?_
                refine L.nil ?_
                exact A.on (hO _ _ _ n524287) (Le.mk [] hm rfl ⟨⟨_, rfl, rfl⟩, ⟨_, rfl, rfl⟩, ⟨_, rfl, rfl⟩, ⟨_, rfl, rfl⟩, ⟨_, rfl, rfl⟩, ⟨_, rfl, rfl⟩, ⟨_, rfl, rfl⟩, ⟨_, rfl, rfl⟩, ⟨_, rfl, rfl⟩, ⟨_, rfl, rfl⟩, ⟨_, rfl, rfl⟩, ⟨_, rfl, rfl⟩, ⟨_, rfl, rfl⟩, ⟨_, rfl, rfl⟩, ⟨_, rfl, rfl⟩, trivial⟩ trivial trivial)
            have n245759 : W 5 #[true, true, true, true, true, true, true, true, true, true, true, true, true, true, false, true, true, true, false, false, false, false] (mkSt [(0, one (Cell.sl g0 (List.map eI v112))), (3, one (cI v113)), (16, one (cL false)), (17, one (cI v113)), (18, one (cL (decide (v113 > (0 : Int))))), (19, one (cL true)), (20, one (Cell.sl g0 (List.map eI v112))), (21, one (cI v113)), (22, one (cI (IntKind.i64.wrap (v113 - (1 : Int))))), (23, one (Cell.pe g0 (eI b135) 0)), (25, one (Cell.sl g0 (List.map eI v112))), (26, one (cI v113)), (27, one (Cell.pe g0 (eI b136) 0))] [] [] 0) := by
              refine hI _ _ _ ?_
              refine A.all [14, 18] (by kernel_rfl) rfl ⟨⟨_, rfl, ?_⟩, ⟨_, rfl, ?_⟩, trivial⟩
              · refine L.loadPe shape3 hF rfl rfl rfl rfl rfl ?_
                refine L.nil ?_
                exact A.on (hO _ _ _ n262143) (Le.mk [] hm rfl ⟨⟨_, rfl, rfl⟩, ⟨_, rfl, rfl⟩, ⟨_, rfl, rfl⟩, ⟨_, rfl, rfl⟩, ⟨_, rfl, rfl⟩, ⟨_, rfl, rfl⟩, ⟨_, rfl, rfl⟩, ⟨_, rfl, rfl⟩, ⟨_, rfl, rfl⟩, ⟨_, rfl, rfl⟩, ⟨_, rfl, rfl⟩, ⟨_, rfl, rfl⟩, ⟨_, rfl, rfl⟩, ⟨_, rfl, rfl⟩, trivial⟩ trivial trivial)
              · refine L.loadPe shape3 hF rfl rfl rfl rfl rfl ?_
                refine L.nil ?_
                exact A.on (hO _ _ _ n507903) (Le.mk [] hm rfl ⟨⟨_, rfl, rfl⟩, ⟨_, rfl, rfl⟩, ⟨_, rfl, rfl⟩, ⟨_, rfl, rfl⟩, ⟨_, rfl, rfl⟩, ⟨_, rfl, rfl⟩, ⟨_, rfl, rfl⟩, ⟨_, rfl, rfl⟩, ⟨_, rfl, rfl⟩, ⟨_, rfl, rfl⟩, ⟨_, rfl, rfl⟩, ⟨_, rfl, rfl⟩, ⟨_, rfl, rfl⟩, ⟨_, rfl, rfl⟩, trivial⟩ trivial trivial)
            have n114687 : W 6 #[true, true, true, true, true, true, true, true, true, true, true, true, true, true, false, true, true, false, false, false, false, false] (mkSt [(0, one (Cell.sl g0 (List.map eI v112))), (3, one (cI v113)), (16, one (cL false)), (17, one (cI v113)), (18, one (cL (decide (v113 > (0 : Int))))), (19, one (cL true)), (20, one (Cell.sl g0 (List.map eI v112))), (21, one (cI v113)), (22, one (cI (IntKind.i64.wrap (v113 - (1 : Int))))), (23, one (Cell.pe g0 (eI b135) 0)), (25, one (Cell.sl g0 (List.map eI v112))), (26, one (cI v113))] [] [] 0) := by
              refine hI _ _ _ ?_
              refine A.take 17 rfl (by kernel_rfl) (by kernel_rfl) (by kernel_rfl) rfl (Ca.indexAddr) (fun Q0 k0 => L.idxR (xs := v112) (e := eI) Try.underlying77 info3 hF rfl rfl rfl rfl rfl hb136 rfl rfl (L.nil k0)) ?_
              exact A.on (hO _ _ _ n245759) (Le.mk [] hm rfl ⟨⟨_, rfl, rfl⟩, ⟨_, rfl, rfl⟩, ⟨_, rfl, rfl⟩, ⟨_, rfl, rfl⟩, ⟨_, rfl, rfl⟩, ⟨_, rfl, rfl⟩, ⟨_, rfl, rfl⟩, ⟨_, rfl, rfl⟩, ⟨_, rfl, rfl⟩, ⟨_, rfl, rfl⟩, ⟨_, rfl, rfl⟩, ⟨_, rfl, rfl⟩, ⟨_, rfl, rfl⟩, trivial⟩ trivial trivial)
            have n49151 : W 7 #[true, true, true, true, true, true, true, true, true, true, true, true, true, true, false, true, false, false, false, false, false, false] (mkSt [(0, one (Cell.sl g0 (List.map eI v112))), (3, one (cI v113)), (16, one (cL false)), (17, one (cI v113)), (18, one (cL (decide (v113 > (0 : Int))))), (19, one (cL true)), (20, one (Cell.sl g0 (List.map eI v112))), (21, one (cI v113)), (22, one (cI (IntKind.i64.wrap (v113 - (1 : Int))))), (23, one (Cell.pe g0 (eI b135) 0)), (25, one (Cell.sl g0 (List.map eI v112)))] [] [] 0) := by
              refine hI _ _ _ ?_
              refine A.take 16 rfl (by kernel_rfl) (by kernel_rfl) (by kernel_rfl) rfl (Ca.move) (fun Q0 k0 => L.move hF rfl rfl rfl (L.nil k0)) ?_
              exact A.on (hO _ _ _ n114687) (Le.mk [] hm rfl ⟨⟨_, rfl, rfl⟩, ⟨_, rfl, rfl⟩, ⟨_, rfl, rfl⟩, ⟨_, rfl, rfl⟩, ⟨_, rfl, rfl⟩, ⟨_, rfl, rfl⟩, ⟨_, rfl, rfl⟩, ⟨_, rfl, rfl⟩, ⟨_, rfl, rfl⟩, ⟨_, rfl, rfl⟩, ⟨_, rfl, rfl⟩, ⟨_, rfl, rfl⟩, trivial⟩ trivial trivial)
            have n16383 : W 8 #[true, true, true, true, true, true, true, true, true, true, true, true, true, true, false, false, false, false, false, false, false, false] (mkSt [(0, one (Cell.sl g0 (List.map eI v112))), (3, one (cI v113)), (16, one (cL false)), (17, one (cI v113)), (18, one (cL (decide (v113 > (0 : Int))))), (19, one (cL true)), (20, one (Cell.sl g0 (List.map eI v112))), (21, one (cI v113)), (22, one (cI (IntKind.i64.wrap (v113 - (1 : Int))))), (23, one (Cell.pe g0 (eI b135) 0))] [] [] 0) := by
              refine hI _ _ _ ?_
              refine A.take 15 rfl (by kernel_rfl) (by kernel_rfl) (by kernel_rfl) rfl (Ca.move) (fun Q0 k0 => L.move hF rfl rfl rfl (L.nil k0)) ?_
              exact A.on (hO _ _ _ n49151) (Le.mk [] hm rfl ⟨⟨_, rfl, rfl⟩, ⟨_, rfl, rfl⟩, ⟨_, rfl, rfl⟩, ⟨_, rfl, rfl⟩, ⟨_, rfl, rfl⟩, ⟨_, rfl, rfl⟩, ⟨_, rfl, rfl⟩, ⟨_, rfl, rfl⟩, ⟨_, rfl, rfl⟩, ⟨_, rfl, rfl⟩, ⟨_, rfl, rfl⟩, trivial⟩ trivial trivial)
            have n8191 : W 9 #[true, true, true, true, true, true, true, true, true, true, true, true, true, false, false, false, false, false, false, false, false, false] (mkSt [(0, one (Cell.sl g0 (List.map eI v112))), (3, one (cI v113)), (16, one (cL false)), (17, one (cI v113)), (18, one (cL (decide (v113 > (0 : Int))))), (19, one (cL true)), (20, one (Cell.sl g0 (List.map eI v112))), (21, one (cI v113)), (22, one (cI (IntKind.i64.wrap (v113 - (1 : Int)))))] [] [] 0) := by
              refine hI _ _ _ ?_
              refine A.take 13 rfl (by kernel_rfl) (by kernel_rfl) (by kernel_rfl) rfl (Ca.indexAddr) (fun Q0 k0 => L.idxR (xs := v112) (e := eI) Try.underlying77 info3 hF rfl rfl rfl rfl rfl hb135 rfl rfl (L.nil k0)) ?_
              exact A.on (hO _ _ _ n16383) (Le.mk [] hm rfl ⟨⟨_, rfl, rfl⟩, ⟨_, rfl, rfl⟩, ⟨_, rfl, rfl⟩, ⟨_, rfl, rfl⟩, ⟨_, rfl, rfl⟩, ⟨_, rfl, rfl⟩, ⟨_, rfl, rfl⟩, ⟨_, rfl, rfl⟩, ⟨_, rfl, rfl⟩, ⟨_, rfl, rfl⟩, trivial⟩ trivial trivial)
            have n4095 : W 10 #[true, true, true, true, true, true, true, true, true, true, true, true, false, false, false, false, false, false, false, false, false, false] (mkSt [(0, one (Cell.sl g0 (List.map eI v112))), (3, one (cI v113)), (16, one (cL false)), (17, one (cI v113)), (18, one (cL (decide (v113 > (0 : Int))))), (19, one (cL true)), (20, one (Cell.sl g0 (List.map eI v112))), (21, one (cI v113))] [] [] 0) := by
              refine hI _ _ _ ?_
              refine A.take 12 rfl (by kernel_rfl) (by kernel_rfl) (by kernel_rfl) rfl (Ca.bin rfl rfl (calm_int _ _ _ _ _ _ _ _)) (fun Q0 k0 => L.bin hF rfl rfl rfl rfl rfl rfl (L.nil k0)) ?_
              exact A.on (hO _ _ _ n8191) (Le.mk [] hm rfl ⟨⟨_, rfl, rfl⟩, ⟨_, rfl, rfl⟩, ⟨_, rfl, rfl⟩, ⟨_, rfl, rfl⟩, ⟨_, rfl, rfl⟩, ⟨_, rfl, rfl⟩, ⟨_, rfl, rfl⟩, ⟨_, rfl, rfl⟩, ⟨_, rfl, rfl⟩, trivial⟩ trivial trivial)
            have n2047 : W 11 #[true, true, true, true, true, true, true, true, true, true, true, false, false, false, false, false, false, false, false, false, false, false] (mkSt [(0, one (Cell.sl g0 (List.map eI v112))), (3, one (cI v113)), (16, one (cL false)), (17, one (cI v113)), (18, one (cL (decide (v113 > (0 : Int))))), (19, one (cL true)), (20, one (Cell.sl g0 (List.map eI v112)))] [] [] 0) := by
              refine hI _ _ _ ?_
              refine A.take 11 rfl (by kernel_rfl) (by kernel_rfl) (by kernel_rfl) rfl (Ca.move) (fun Q0 k0 => L.move hF rfl rfl rfl (L.nil k0)) ?_
              exact A.on (hO _ _ _ n4095) (Le.mk [] hm rfl ⟨⟨_, rfl, rfl⟩, ⟨_, rfl, rfl⟩, ⟨_, rfl, rfl⟩, ⟨_, rfl, rfl⟩, ⟨_, rfl, rfl⟩, ⟨_, rfl, rfl⟩, ⟨_, rfl, rfl⟩, ⟨_, rfl, rfl⟩, trivial⟩ trivial trivial)
            have n1023 : W 12 #[true, true, true, true, true, true, true, true, true, true, false, false, false, false, false, false, false, false, false, false, false, false] (mkSt [(0, one (Cell.sl g0 (List.map eI v112))), (3, one (cI v113)), (16, one (cL false)), (17, one (cI v113)), (18, one (cL (decide (v113 > (0 : Int))))), (19, one (cL true))] [] [] 0) := by
              refine hI _ _ _ ?_
              refine A.take 10 rfl (by kernel_rfl) (by kernel_rfl) (by kernel_rfl) rfl (Ca.move) (fun Q0 k0 => L.move hF rfl rfl rfl (L.nil k0)) ?_
              exact A.on (hO _ _ _ n2047) (Le.mk [] hm rfl ⟨⟨_, rfl, rfl⟩, ⟨_, rfl, rfl⟩, ⟨_, rfl, rfl⟩, ⟨_, rfl, rfl⟩, ⟨_, rfl, rfl⟩, ⟨_, rfl, rfl⟩, ⟨_, rfl, rfl⟩, trivial⟩ trivial trivial)
            have n511 : W 13 #[true, true, true, true, true, true, true, true, true, false, false, false, false, false, false, false, false, false, false, false, false, false] (mkSt [(0, one (Cell.sl g0 (List.map eI v112))), (3, one (cI v113)), (16, one (cL false)), (17, one (cI v113)), (18, one (cL (decide (v113 > (0 : Int)))))] [] [] 0) := by
              refine hI _ _ _ ?_
              refine A.take 9 rfl (by kernel_rfl) (by kernel_rfl) (by kernel_rfl) rfl (Ca.move) (fun Q0 k0 => L.move hF rfl rfl rfl (L.nil k0)) ?_
              exact A.on (hO _ _ _ n1023) (Le.mk [] hm rfl ⟨⟨_, rfl, rfl⟩, ⟨_, rfl, rfl⟩, ⟨_, rfl, rfl⟩, ⟨_, rfl, rfl⟩, ⟨_, rfl, rfl⟩, ⟨_, rfl, congrArg (fun b => some (one (cL b))) hc134⟩, trivial⟩ trivial trivial)
            have n255 : W 14 #[true, true, true, true, true, true, true, true, false, false, false, false, false, false, false, false, false, false, false, false, false, false] (mkSt [(0, one (Cell.sl g0 (List.map eI v112))), (3, one (cI v113)), (16, one (cL false)), (17, one (cI v113))] [] [] 0) := by
              refine hI _ _ _ ?_
              refine A.take 8 rfl (by kernel_rfl) (by kernel_rfl) (by kernel_rfl) rfl (Ca.bin rfl rfl (calm_int _ _ _ _ _ _ _ _)) (fun Q0 k0 => L.bin hF rfl rfl rfl rfl rfl rfl (L.nil k0)) ?_
              exact A.on (hO _ _ _ n511) (Le.mk [] hm rfl ⟨⟨_, rfl, rfl⟩, ⟨_, rfl, rfl⟩, ⟨_, rfl, rfl⟩, ⟨_, rfl, rfl⟩, ⟨_, rfl, rfl⟩, trivial⟩ trivial trivial)
            have n127 : W 15 #[true, true, true, true, true, true, true, false, false, false, false, false, false, false, false, false, false, false, false, false, false, false] (mkSt [(0, one (Cell.sl g0 (List.map eI v112))), (3, one (cI v113)), (16, one (cL false))] [] [] 0) := by
              refine hI _ _ _ ?_
              refine A.take 7 rfl (by kernel_rfl) (by kernel_rfl) (by kernel_rfl) rfl (Ca.move) (fun Q0 k0 => L.move hF rfl rfl rfl (L.nil k0)) ?_
              exact A.on (hO _ _ _ n255) (Le.mk [] hm rfl ⟨⟨_, rfl, rfl⟩, ⟨_, rfl, rfl⟩, ⟨_, rfl, rfl⟩, ⟨_, rfl, rfl⟩, trivial⟩ trivial trivial)
            have n63 : W 16 #[true, true, true, true, true, true, false, false, false, false, false, false, false, false, false, false, false, false, false, false, false, false] (mkSt [(0, one (Cell.sl g0 (List.map eI v112))), (3, one (cI v113)), (15, one (cL (!r132)))] [] [] 0) := by
              refine hI _ _ _ ?_
              refine A.take 6 rfl (by kernel_rfl) (by kernel_rfl) (by kernel_rfl) rfl (Ca.move) (fun Q0 k0 => L.move hF rfl rfl rfl (L.nil k0)) ?_
              exact A.on (hO _ _ _ n127) (Le.mk [] hm rfl ⟨⟨_, rfl, rfl⟩, ⟨_, rfl, rfl⟩, ⟨_, rfl, congrArg (fun b => some (one (cL b))) hc133⟩, trivial⟩ trivial trivial)
            have n31 : W 17 #[true, true, true, true, true, false, false, false, false, false, false, false, false, false, false, false, false, false, false, false, false, false] (mkSt [(0, one (Cell.sl g0 (List.map eI v112))), (3, one (cI v113)), (14, one (cL r132))] [] [] 0) := by
              refine hI _ _ _ ?_
              refine A.take 5 rfl (by kernel_rfl) (by kernel_rfl) (by kernel_rfl) rfl (Ca.un rfl rfl) (fun Q0 k0 => L.not hF rfl rfl rfl (L.nil k0)) ?_
              exact A.on (hO _ _ _ n63) (Le.mk [] hm rfl ⟨⟨_, rfl, rfl⟩, ⟨_, rfl, rfl⟩, ⟨_, rfl, rfl⟩, trivial⟩ trivial trivial)
            have n15 : W 18 #[true, true, true, true, false, false, false, false, false, false, false, false, false, false, false, false, false, false, false, false, false, false] (mkSt [(0, one (Cell.sl g0 (List.map eI v112))), (3, one (cI v113)), (13, one (cI b131))] [] [] 0) := by
              refine hI _ _ _ ?_
              refine A.all [4] (by kernel_rfl) rfl ⟨⟨_, rfl, ?_⟩, trivial⟩
              · refine L.call [false, false, false] [] [] 0 hF rfl rfl rfl ent92 rfl rfl rfl rfl rfl (Fspec_l1In_gives k7  b131 (0 : Int) (30 : Int) r132 hr132) rfl ?_
                refine L.nil ?_
                exact A.on (hO _ _ _ n31) (Le.mk [] hm rfl ⟨⟨_, rfl, rfl⟩, ⟨_, rfl, rfl⟩, ⟨_, rfl, rfl⟩, trivial⟩ trivial trivial)
            have n7 : W 19 #[true, true, true, false, false, false, false, false, false, false, false, false, false, false, false, false, false, false, false, false, false, false] (mkSt [(0, one (Cell.sl g0 (List.map eI v112))), (3, one (cI v113)), (12, one (Cell.pe g0 (eI b131) 0))] [] [] 0) := by
              refine hI _ _ _ ?_
              refine A.all [3] (by kernel_rfl) rfl ⟨⟨_, rfl, ?_⟩, trivial⟩
              · refine L.loadPe shape3 hF rfl rfl rfl rfl rfl ?_
                refine L.nil ?_
                exact A.on (hO _ _ _ n15) (Le.mk [] hm rfl ⟨⟨_, rfl, rfl⟩, ⟨_, rfl, rfl⟩, ⟨_, rfl, rfl⟩, trivial⟩ trivial trivial)
            have n3 : W 20 #[true, true, false, false, false, false, false, false, false, false, false, false, false, false, false, false, false, false, false, false, false, false] (mkSt [(0, one (Cell.sl g0 (List.map eI v112))), (3, one (cI v113)), (10, one (Cell.sl g0 (List.map eI v112))), (11, one (cI v113))] [] [] 0) := by
              refine hI _ _ _ ?_
              refine A.take 2 rfl (by kernel_rfl) (by kernel_rfl) (by kernel_rfl) rfl (Ca.indexAddr) (fun Q0 k0 => L.idxR (xs := v112) (e := eI) Try.underlying77 info3 hF rfl rfl rfl rfl rfl hb131 rfl rfl (L.nil k0)) ?_
              exact A.on (hO _ _ _ n7) (Le.mk [] hm rfl ⟨⟨_, rfl, rfl⟩, ⟨_, rfl, rfl⟩, ⟨_, rfl, rfl⟩, trivial⟩ trivial trivial)
            have n1 : W 21 #[true, false, false, false, false, false, false, false, false, false, false, false, false, false, false, false, false, false, false, false, false, false] (mkSt [(0, one (Cell.sl g0 (List.map eI v112))), (3, one (cI v113)), (10, one (Cell.sl g0 (List.map eI v112)))] [] [] 0) := by
              refine hI _ _ _ ?_
              refine A.take 1 rfl (by kernel_rfl) (by kernel_rfl) (by kernel_rfl) rfl (Ca.move) (fun Q0 k0 => L.move hF rfl rfl rfl (L.nil k0)) ?_
              exact A.on (hO _ _ _ n3) (Le.mk [] hm rfl ⟨⟨_, rfl, rfl⟩, ⟨_, rfl, rfl⟩, ⟨_, rfl, rfl⟩, ⟨_, rfl, rfl⟩, trivial⟩ trivial trivial)
            have n0 : W 22 #[false, false, false, false, false, false, false, false, false, false, false, false, false, false, false, false, false, false, false, false, false, false] (mkSt [(0, one (Cell.sl g0 (List.map eI v112))), (3, one (cI v113))] [] [] 0) := by
              refine hI _ _ _ ?_
              refine A.take 0 rfl (by kernel_rfl) (by kernel_rfl) (by kernel_rfl) rfl (Ca.move) (fun Q0 k0 => L.move hF rfl rfl rfl (L.nil k0)) ?_
              exact A.on (hO _ _ _ n1) (Le.mk [] hm rfl ⟨⟨_, rfl, rfl⟩, ⟨_, rfl, rfl⟩, ⟨_, rfl, rfl⟩, trivial⟩ trivial trivial)
            exact hI _ _ _ (A.on (hO _ _ _ n0) (Le.mk [] hm rfl ⟨⟨_, rfl, rfl⟩, ⟨_, rfl, rfl⟩, trivial⟩ trivial trivial))
          · replace H := condF hc134 H
            refine A.begin mixed rfl rfl ?_
            intro W hI hO
            have n4194303 : W 0 #[true, true, true, true, true, true, true, true, true, true, true, true, true, true, true, true, true, true, true, true, true, true] (mkSt [(0, one (Cell.sl g0 (List.map eI v112))), (3, one (cI v113)), (17, one (cI v113)), (18, one (cL (decide (v113 > (0 : Int))))), (19, one (cL false)), (20, Slot.tup []), (21, Slot.tup []), (22, Slot.tup []), (23, Slot.tup []), (24, Slot.tup []), (25, Slot.tup []), (26, Slot.tup []), (27, Slot.tup []), (28, Slot.tup []), (29, Slot.tup []), (30, one (cL false)), (31, one (cL false))] [] [] 0) := by
              refine hI _ _ _ (A.done (by kernel_rfl) ?_)
              refine WpC.cond rfl (fun hc => by cases hc) (fun _ => ?_)
              refine WpC.skip ?_
              exact ⟨_, ⟨k7, v112, v113, (decide (v113 > (0 : Int))), false, false, by omega, H, rfl⟩, Le.mk [] hm rfl ⟨⟨_, rfl, rfl⟩, ⟨_, rfl, rfl⟩, ⟨_, rfl, rfl⟩, ⟨_, rfl, rfl⟩, ⟨_, rfl, rfl⟩, ⟨_, rfl, rfl⟩, trivial⟩ trivial trivial⟩
            have n2097151 : W 1 #[true, true, true, true, true, true, true, true, true, true, true, true, true, true, true, true, true, true, true, true, true, false] (mkSt [(0, one (Cell.sl g0 (List.map eI v112))), (3, one (cI v113)), (16, one (cL false)), (17, one (cI v113)), (18, one (cL (decide (v113 > (0 : Int))))), (19, one (cL false)), (20, Slot.tup []), (21, Slot.tup []), (22, Slot.tup []), (23, Slot.tup []), (24, Slot.tup []), (25, Slot.tup []), (26, Slot.tup []), (27, Slot.tup []), (28, Slot.tup []), (29, Slot.tup []), (30, one (cL false))] [] [] 0) := by
              refine hI _ _ _ ?_
              refine A.take 21 rfl (by kernel_rfl) (by kernel_rfl) (by kernel_rfl) rfl (Ca.pick) (fun Q0 k0 => L.pick hF rfl rfl rfl rfl (L.nil k0)) ?_
              exact A.on (hO _ _ _ n4194303) (Le.mk [] hm rfl ⟨⟨_, rfl, rfl⟩, ⟨_, rfl, rfl⟩, ⟨_, rfl, rfl⟩, ⟨_, rfl, rfl⟩, ⟨_, rfl, rfl⟩, ⟨_, rfl, rfl⟩, ⟨_, rfl, rfl⟩, ⟨_, rfl, rfl⟩, ⟨_, rfl, rfl⟩, ⟨_, rfl, rfl⟩, ⟨_, rfl, rfl⟩, ⟨_, rfl, rfl⟩, ⟨_, rfl, rfl⟩, ⟨_, rfl, rfl⟩, ⟨_, rfl, rfl⟩, ⟨_, rfl, rfl⟩, ⟨_, rfl, rfl⟩, trivial⟩ trivial trivial)
            have n1048575 : W 2 #[true, true, true, true, true, true, true, true, true, true, true, true, true, true, true, true, true, true, true, true, false, false] (mkSt [(0, one (Cell.sl g0 (List.map eI v112))), (3, one (cI v113)), (16, one (cL false)), (17, one (cI v113)), (18, one (cL (decide (v113 > (0 : Int))))), (19, one (cL false)), (20, Slot.tup []), (21, Slot.tup []), (22, Slot.tup []), (23, Slot.tup []), (24, Slot.tup []), (25, Slot.tup []), (26, Slot.tup []), (27, Slot.tup []), (28, Slot.tup []), (29, Slot.tup [])] [] [] 0) := by
              refine hI _ _ _ ?_
              refine A.take 20 rfl (by kernel_rfl) (by kernel_rfl) (by kernel_rfl) rfl (Ca.pick) (fun Q0 k0 => L.pick hF rfl rfl rfl rfl (L.nil k0)) ?_
              exact A.on (hO _ _ _ n2097151) (Le.mk [] hm rfl ⟨⟨_, rfl, rfl⟩, ⟨_, rfl, rfl⟩, ⟨_, rfl, rfl⟩, ⟨_, rfl, rfl⟩, ⟨_, rfl, rfl⟩, ⟨_, rfl, rfl⟩, ⟨_, rfl, rfl⟩, ⟨_, rfl, rfl⟩, ⟨_, rfl, rfl⟩, ⟨_, rfl, rfl⟩, ⟨_, rfl, rfl⟩, ⟨_, rfl, rfl⟩, ⟨_, rfl, rfl⟩, ⟨_, rfl, rfl⟩, ⟨_, rfl, rfl⟩, ⟨_, rfl, rfl⟩, ⟨_, rfl, rfl⟩, trivial⟩ trivial trivial)
            have n524287 : W 3 #[true, true, true, true, true, true, true, true, true, true, true, true, true, true, true, true, true, true, true, false, false, false] (mkSt [(0, one (Cell.sl g0 (List.map eI v112))), (3, one (cI v113)), (16, one (cL false)), (17, one (cI v113)), (18, one (cL (decide (v113 > (0 : Int))))), (19, one (cL false)), (20, Slot.tup []), (21, Slot.tup []), (22, Slot.tup []), (23, Slot.tup []), (24, Slot.tup []), (25, Slot.tup []), (26, Slot.tup []), (27, Slot.tup []), (28, Slot.tup [])] [] [] 0) := by
              refine hI _ _ _ ?_
              refine A.off 19 rfl (by kernel_rfl) (by kernel_rfl) (by kernel_rfl) rfl hF rfl rfl ?_
              exact A.on (hO _ _ _ n1048575) (Le.mk [] hm rfl ⟨⟨_, rfl, rfl⟩, ⟨_, rfl, rfl⟩, ⟨_, rfl, rfl⟩, ⟨_, rfl, rfl⟩, ⟨_, rfl, rfl⟩, ⟨_, rfl, rfl⟩, ⟨_, rfl, rfl⟩, ⟨_, rfl, rfl⟩, ⟨_, rfl, rfl⟩, ⟨_, rfl, rfl⟩, ⟨_, rfl, rfl⟩, ⟨_, rfl, rfl⟩, ⟨_, rfl, rfl⟩, ⟨_, rfl, rfl⟩, ⟨_, rfl, rfl⟩, ⟨_, rfl, rfl⟩, trivial⟩ trivial trivial)
            have n262143 : W 4 #[true, true, true, true, true, true, true, true, true, true, true, true, true, true, true, true, true, true, false, false, false, false] (mkSt [(0, one (Cell.sl g0 (List.map eI v112))), (3, one (cI v113)), (16, one (cL false)), (17, one (cI v113)), (18, one (cL (decide (v113 > (0 : Int))))), (19, one (cL false)), (20, Slot.tup []), (21, Slot.tup []), (22, Slot.tup []), (23, Slot.tup []), (24, Slot.tup []), (25, Slot.tup []), (26, Slot.tup []), (27, Slot.tup [])] [] [] 0) := by
              refine hI _ _ _ ?_
              refine A.off 18 rfl (by kernel_rfl) (by kernel_rfl) (by kernel_rfl) rfl hF rfl rfl ?_
              exact A.on (hO _ _ _ n524287) (Le.mk [] hm rfl ⟨⟨_, rfl, rfl⟩, ⟨_, rfl, rfl⟩, ⟨_, rfl, rfl⟩, ⟨_, rfl, rfl⟩, ⟨_, rfl, rfl⟩, ⟨_, rfl, rfl⟩, ⟨_, rfl, rfl⟩, ⟨_, rfl, rfl⟩, ⟨_, rfl, rfl⟩, ⟨_, rfl, rfl⟩, ⟨_, rfl, rfl⟩, ⟨_, rfl, rfl⟩, ⟨_, rfl, rfl⟩, ⟨_, rfl, rfl⟩, ⟨_, rfl, rfl⟩, trivial⟩ trivial trivial)
            have n131071 : W 5 #[true, true, true, true, true, true, true, true, true, true, true, true, true, true, true, true, true, false, false, false, false, false] (mkSt [(0, one (Cell.sl g0 (List.map eI v112))), (3, one (cI v113)), (16, one (cL false)), (17, one (cI v113)), (18, one (cL (decide (v113 > (0 : Int))))), (19, one (cL false)), (20, Slot.tup []), (21, Slot.tup []), (22, Slot.tup []), (23, Slot.tup []), (24, Slot.tup []), (25, Slot.tup []), (26, Slot.tup [])] [] [] 0) := by
              refine hI _ _ _ ?_
              refine A.off 17 rfl (by kernel_rfl) (by kernel_rfl) (by kernel_rfl) rfl hF rfl rfl ?_
              exact A.on (hO _ _ _ n262143) (Le.mk [] hm rfl ⟨⟨_, rfl, rfl⟩, ⟨_, rfl, rfl⟩, ⟨_, rfl, rfl⟩, ⟨_, rfl, rfl⟩, ⟨_, rfl, rfl⟩, ⟨_, rfl, rfl⟩, ⟨_, rfl, rfl⟩, ⟨_, rfl, rfl⟩, ⟨_, rfl, rfl⟩, ⟨_, rfl, rfl⟩, ⟨_, rfl, rfl⟩, ⟨_, rfl, rfl⟩, ⟨_, rfl, rfl⟩, ⟨_, rfl, rfl⟩, trivial⟩ trivial trivial)
            have n65535 : W 6 #[true, true, true, true, true, true, true, true, true, true, true, true, true, true, true, true, false, false, false, false, false, false] (mkSt [(0, one (Cell.sl g0 (List.map eI v112))), (3, one (cI v113)), (16, one (cL false)), (17, one (cI v113)), (18, one (cL (decide (v113 > (0 : Int))))), (19, one (cL false)), (20, Slot.tup []), (21, Slot.tup []), (22, Slot.tup []), (23, Slot.tup []), (24, Slot.tup []), (25, Slot.tup [])] [] [] 0) := by
              refine hI _ _ _ ?_
              refine A.off 16 rfl (by kernel_rfl) (by kernel_rfl) (by kernel_rfl) rfl hF rfl rfl ?_
              exact A.on (hO _ _ _ n131071) (Le.mk [] hm rfl ⟨⟨_, rfl, rfl⟩, ⟨_, rfl, rfl⟩, ⟨_, rfl, rfl⟩, ⟨_, rfl, rfl⟩, ⟨_, rfl, rfl⟩, ⟨_, rfl, rfl⟩, ⟨_, rfl, rfl⟩, ⟨_, rfl, rfl⟩, ⟨_, rfl, rfl⟩, ⟨_, rfl, rfl⟩, ⟨_, rfl, rfl⟩, ⟨_, rfl, rfl⟩, ⟨_, rfl, rfl⟩, trivial⟩ trivial trivial)
            have n32767 : W 7 #[true, true, true, true, true, true, true, true, true, true, true, true, true, true, true, false, false, false, false, false, false, false] (mkSt [(0, one (Cell.sl g0 (List.map eI v112))), (3, one (cI v113)), (16, one (cL false)), (17, one (cI v113)), (18, one (cL (decide (v113 > (0 : Int))))), (19, one (cL false)), (20, Slot.tup []), (21, Slot.tup []), (22, Slot.tup []), (23, Slot.tup []), (24, Slot.tup [])] [] [] 0) := by
              refine hI _ _ _ ?_
              refine A.off 15 rfl (by kernel_rfl) (by kernel_rfl) (by kernel_rfl) rfl hF rfl rfl ?_
              exact A.on (hO _ _ _ n65535) (Le.mk [] hm rfl ⟨⟨_, rfl, rfl⟩, ⟨_, rfl, rfl⟩, ⟨_, rfl, rfl⟩, ⟨_, rfl, rfl⟩, ⟨_, rfl, rfl⟩, ⟨_, rfl, rfl⟩, ⟨_, rfl, rfl⟩, ⟨_, rfl, rfl⟩, ⟨_, rfl, rfl⟩, ⟨_, rfl, rfl⟩, ⟨_, rfl, rfl⟩, ⟨_, rfl, rfl⟩, trivial⟩ trivial trivial)
            have n16383 : W 8 #[true, true, true, true, true, true, true, true, true, true, true, true, true, true, false, false, false, false, false, false, false, false] (mkSt [(0, one (Cell.sl g0 (List.map eI v112))), (3, one (cI v113)), (16, one (cL false)), (17, one (cI v113)), (18, one (cL (decide (v113 > (0 : Int))))), (19, one (cL false)), (20, Slot.tup []), (21, Slot.tup []), (22, Slot.tup []), (23, Slot.tup [])] [] [] 0) := by
              refine hI _ _ _ ?_
              refine A.off 14 rfl (by kernel_rfl) (by kernel_rfl) (by kernel_rfl) rfl hF rfl rfl ?_
              exact A.on (hO _ _ _ n32767) (Le.mk [] hm rfl ⟨⟨_, rfl, rfl⟩, ⟨_, rfl, rfl⟩, ⟨_, rfl, rfl⟩, ⟨_, rfl, rfl⟩, ⟨_, rfl, rfl⟩, ⟨_, rfl, rfl⟩, ⟨_, rfl, rfl⟩, ⟨_, rfl, rfl⟩, ⟨_, rfl, rfl⟩, ⟨_, rfl, rfl⟩, ⟨_, rfl, rfl⟩, trivial⟩ trivial trivial)
            have n8191 : W 9 #[true, true, true, true, true, true, true, true, true, true, true, true, true, false, false, false, false, false, false, false, false, false] (mkSt [(0, one (Cell.sl g0 (List.map eI v112))), (3, one (cI v113)), (16, one (cL false)), (17, one (cI v113)), (18, one (cL (decide (v113 > (0 : Int))))), (19, one (cL false)), (20, Slot.tup []), (21, Slot.tup []), (22, Slot.tup [])] [] [] 0) := by
              refine hI _ _ _ ?_
              refine A.off 13 rfl (by kernel_rfl) (by kernel_rfl) (by kernel_rfl) rfl hF rfl rfl ?_
              exact A.on (hO _ _ _ n16383) (Le.mk [] hm rfl ⟨⟨_, rfl, rfl⟩, ⟨_, rfl, rfl⟩, ⟨_, rfl, rfl⟩, ⟨_, rfl, rfl⟩, ⟨_, rfl, rfl⟩, ⟨_, rfl, rfl⟩, ⟨_, rfl, rfl⟩, ⟨_, rfl, rfl⟩, ⟨_, rfl, rfl⟩, ⟨_, rfl, rfl⟩, trivial⟩ trivial trivial)
            have n4095 : W 10 #[true, true, true, true, true, true, true, true, true, true, true, true, false, false, false, false, false, false, false, false, false, false] (mkSt [(0, one (Cell.sl g0 (List.map eI v112))), (3, one (cI v113)), (16, one (cL false)), (17, one (cI v113)), (18, one (cL (decide (v113 > (0 : Int))))), (19, one (cL false)), (20, Slot.tup []), (21, Slot.tup [])] [] [] 0) := by
              refine hI _ _ _ ?_
              refine A.off 12 rfl (by kernel_rfl) (by kernel_rfl) (by kernel_rfl) rfl hF rfl rfl ?_
              exact A.on (hO _ _ _ n8191) (Le.mk [] hm rfl ⟨⟨_, rfl, rfl⟩, ⟨_, rfl, rfl⟩, ⟨_, rfl, rfl⟩, ⟨_, rfl, rfl⟩, ⟨_, rfl, rfl⟩, ⟨_, rfl, rfl⟩, ⟨_, rfl, rfl⟩, ⟨_, rfl, rfl⟩, ⟨_, rfl, rfl⟩, trivial⟩ trivial trivial)
            have n2047 : W 11 #[true, true, true, true, true, true, true, true, true, true, true, false, false, false, false, false, false, false, false, false, false, false] (mkSt [(0, one (Cell.sl g0 (List.map eI v112))), (3, one (cI v113)), (16, one (cL false)), (17, one (cI v113)), (18, one (cL (decide (v113 > (0 : Int))))), (19, one (cL false)), (20, Slot.tup [])] [] [] 0) := by
              refine hI _ _ _ ?_
              refine A.off 11 rfl (by kernel_rfl) (by kernel_rfl) (by kernel_rfl) rfl hF rfl rfl ?_
              exact A.on (hO _ _ _ n4095) (Le.mk [] hm rfl ⟨⟨_, rfl, rfl⟩, ⟨_, rfl, rfl⟩, ⟨_, rfl, rfl⟩, ⟨_, rfl, rfl⟩, ⟨_, rfl, rfl⟩, ⟨_, rfl, rfl⟩, ⟨_, rfl, rfl⟩, ⟨_, rfl, rfl⟩, trivial⟩ trivial trivial)
            have n1023 : W 12 #[true, true, true, true, true, true, true, true, true, true, false, false, false, false, false, false, false, false, false, false, false, false] (mkSt [(0, one (Cell.sl g0 (List.map eI v112))), (3, one (cI v113)), (16, one (cL false)), (17, one (cI v113)), (18, one (cL (decide (v113 > (0 : Int))))), (19, one (cL false))] [] [] 0) := by
              refine hI _ _ _ ?_
              refine A.off 10 rfl (by kernel_rfl) (by kernel_rfl) (by kernel_rfl) rfl hF rfl rfl ?_
              exact A.on (hO _ _ _ n2047) (Le.mk [] hm rfl ⟨⟨_, rfl, rfl⟩, ⟨_, rfl, rfl⟩, ⟨_, rfl, rfl⟩, ⟨_, rfl, rfl⟩, ⟨_, rfl, rfl⟩, ⟨_, rfl, rfl⟩, ⟨_, rfl, rfl⟩, trivial⟩ trivial trivial)
            have n511 : W 13 #[true, true, true, true, true, true, true, true, true, false, false, false, false, false, false, false, false, false, false, false, false, false] (mkSt [(0, one (Cell.sl g0 (List.map eI v112))), (3, one (cI v113)), (16, one (cL false)), (17, one (cI v113)), (18, one (cL (decide (v113 > (0 : Int)))))] [] [] 0) := by
              refine hI _ _ _ ?_
              refine A.take 9 rfl (by kernel_rfl) (by kernel_rfl) (by kernel_rfl) rfl (Ca.move) (fun Q0 k0 => L.move hF rfl rfl rfl (L.nil k0)) ?_
              exact A.on (hO _ _ _ n1023) (Le.mk [] hm rfl ⟨⟨_, rfl, rfl⟩, ⟨_, rfl, rfl⟩, ⟨_, rfl, rfl⟩, ⟨_, rfl, rfl⟩, ⟨_, rfl, rfl⟩, ⟨_, rfl, congrArg (fun b => some (one (cL b))) hc134⟩, trivial⟩ trivial trivial)
            have n255 : W 14 #[true, true, true, true, true, true, true, true, false, false, false, false, false, false, false, false, false, false, false, false, false, false] (mkSt [(0, one (Cell.sl g0 (List.map eI v112))), (3, one (cI v113)), (16, one (cL false)), (17, one (cI v113))] [] [] 0) := by
              refine hI _ _ _ ?_
              refine A.take 8 rfl (by kernel_rfl) (by kernel_rfl) (by kernel_rfl) rfl (Ca.bin rfl rfl (calm_int _ _ _ _ _ _ _ _)) (fun Q0 k0 => L.bin hF rfl rfl rfl rfl rfl rfl (L.nil k0)) ?_
              exact A.on (hO _ _ _ n511) (Le.mk [] hm rfl ⟨⟨_, rfl, rfl⟩, ⟨_, rfl, rfl⟩, ⟨_, rfl, rfl⟩, ⟨_, rfl, rfl⟩, ⟨_, rfl, rfl⟩, trivial⟩ trivial trivial)
            have n127 : W 15 #[true, true, true, true, true, true, true, false, false, false, false, false, false, false, false, false, false, false, false, false, false, false] (mkSt [(0, one (Cell.sl g0 (List.map eI v112))), (3, one (cI v113)), (16, one (cL false))] [] [] 0) := by
              refine hI _ _ _ ?_
              refine A.take 7 rfl (by kernel_rfl) (by kernel_rfl) (by kernel_rfl) rfl (Ca.move) (fun Q0 k0 => L.move hF rfl rfl rfl (L.nil k0)) ?_
              exact A.on (hO _ _ _ n255) (Le.mk [] hm rfl ⟨⟨_, rfl, rfl⟩, ⟨_, rfl, rfl⟩, ⟨_, rfl, rfl⟩, ⟨_, rfl, rfl⟩, trivial⟩ trivial trivial)
            have n63 : W 16 #[true, true, true, true, true, true, false, false, false, false, false, false, false, false, false, false, false, false, false, false, false, false] (mkSt [(0, one (Cell.sl g0 (List.map eI v112))), (3, one (cI v113)), (15, one (cL (!r132)))] [] [] 0) := by
              refine hI _ _ _ ?_
              refine A.take 6 rfl (by kernel_rfl) (by kernel_rfl) (by kernel_rfl) rfl (Ca.move) (fun Q0 k0 => L.move hF rfl rfl rfl (L.nil k0)) ?_
              exact A.on (hO _ _ _ n127) (Le.mk [] hm rfl ⟨⟨_, rfl, rfl⟩, ⟨_, rfl, rfl⟩, ⟨_, rfl, congrArg (fun b => some (one (cL b))) hc133⟩, trivial⟩ trivial trivial)
            have n31 : W 17 #[true, true, true, true, true, false, false, false, false, false, false, false, false, false, false, false, false, false, false, false, false, false] (mkSt [(0, one (Cell.sl g0 (List.map eI v112))), (3, one (cI v113)), (14, one (cL r132))] [] [] 0) := by
              refine hI _ _ _ ?_
              refine A.take 5 rfl (by kernel_rfl) (by kernel_rfl) (by kernel_rfl) rfl (Ca.un rfl rfl) (fun Q0 k0 => L.not hF rfl rfl rfl (L.nil k0)) ?_
              exact A.on (hO _ _ _ n63) (Le.mk [] hm rfl ⟨⟨_, rfl, rfl⟩, ⟨_, rfl, rfl⟩, ⟨_, rfl, rfl⟩, trivial⟩ trivial trivial)
            have n15 : W 18 #[true, true, true, true, false, false, false, false, false, false, false, false, false, false, false, false, false, false, false, false, false, false] (mkSt [(0, one (Cell.sl g0 (List.map eI v112))), (3, one (cI v113)), (13, one (cI b131))] [] [] 0) := by
              refine hI _ _ _ ?_
              refine A.all [4] (by kernel_rfl) rfl ⟨⟨_, rfl, ?_⟩, trivial⟩
              · refine L.call [false, false, false] [] [] 0 hF rfl rfl rfl ent92 rfl rfl rfl rfl rfl (Fspec_l1In_gives k7  b131 (0 : Int) (30 : Int) r132 hr132) rfl ?_
                refine L.nil ?_
                exact A.on (hO _ _ _ n31) (Le.mk [] hm rfl ⟨⟨_, rfl, rfl⟩, ⟨_, rfl, rfl⟩, ⟨_, rfl, rfl⟩, trivial⟩ trivial trivial)
            have n7 : W 19 #[true, true, true, false, false, false, false, false, false, false, false, false, false, false, false, false, false, false, false, false, false, false] (mkSt [(0, one (Cell.sl g0 (List.map eI v112))), (3, one (cI v113)), (12, one (Cell.pe g0 (eI b131) 0))] [] [] 0) := by
              refine hI _ _ _ ?_
              refine A.all [3] (by kernel_rfl) rfl ⟨⟨_, rfl, ?_⟩, trivial⟩
              · refine L.loadPe shape3 hF rfl rfl rfl rfl rfl ?_
                refine L.nil ?_
                exact A.on (hO _ _ _ n15) (Le.mk [] hm rfl ⟨⟨_, rfl, rfl⟩, ⟨_, rfl, rfl⟩, ⟨_, rfl, rfl⟩, trivial⟩ trivial trivial)
            have n3 : W 20 #[true, true, false, false, false, false, false, false, false, false, false, false, false, false, false, false, false, false, false, false, false, false] (mkSt [(0, one (Cell.sl g0 (List.map eI v112))), (3, one (cI v113)), (10, one (Cell.sl g0 (List.map eI v112))), (11, one (cI v113))] [] [] 0) := by
              refine hI _ _ _ ?_
              refine A.take 2 rfl (by kernel_rfl) (by kernel_rfl) (by kernel_rfl) rfl (Ca.indexAddr) (fun Q0 k0 => L.idxR (xs := v112) (e := eI) Try.underlying77 info3 hF rfl rfl rfl rfl rfl hb131 rfl rfl (L.nil k0)) ?_
              exact A.on (hO _ _ _ n7) (Le.mk [] hm rfl ⟨⟨_, rfl, rfl⟩, ⟨_, rfl, rfl⟩, ⟨_, rfl, rfl⟩, trivial⟩ trivial trivial)
            have n1 : W 21 #[true, false, false, false, false, false, false, false, false, false, false, false, false, false, false, false, false, false, false, false, false, false] (mkSt [(0, one (Cell.sl g0 (List.map eI v112))), (3, one (cI v113)), (10, one (Cell.sl g0 (List.map eI v112)))] [] [] 0) := by
              refine hI _ _ _ ?_
              refine A.take 1 rfl (by kernel_rfl) (by kernel_rfl) (by kernel_rfl) rfl (Ca.move) (fun Q0 k0 => L.move hF rfl rfl rfl (L.nil k0)) ?_
              exact A.on (hO _ _ _ n3) (Le.mk [] hm rfl ⟨⟨_, rfl, rfl⟩, ⟨_, rfl, rfl⟩, ⟨_, rfl, rfl⟩, ⟨_, rfl, rfl⟩, trivial⟩ trivial trivial)
            have n0 : W 22 #[false, false, false, false, false, false, false, false, false, false, false, false, false, false, false, false, false, false, false, false, false, false] (mkSt [(0, one (Cell.sl g0 (List.map eI v112))), (3, one (cI v113))] [] [] 0) := by
              refine hI _ _ _ ?_
              refine A.take 0 rfl (by kernel_rfl) (by kernel_rfl) (by kernel_rfl) rfl (Ca.move) (fun Q0 k0 => L.move hF rfl rfl rfl (L.nil k0)) ?_
              exact A.on (hO _ _ _ n1) (Le.mk [] hm rfl ⟨⟨_, rfl, rfl⟩, ⟨_, rfl, rfl⟩, ⟨_, rfl, rfl⟩, trivial⟩ trivial trivial)
            exact hI _ _ _ (A.on (hO _ _ _ n0) (Le.mk [] hm rfl ⟨⟨_, rfl, rfl⟩, ⟨_, rfl, rfl⟩, trivial⟩ trivial trivial))
    · replace H := condF hc H
      refine WpC.exit ?_
      refine WpC.seq ?_
      refine WpC.regionL ?_
      refine L.assign hF rfl rfl rfl ?_
      refine L.nil ?_
      refine WpC.ret ?_
      cases H
      exact Leaves.ret rfl rfl rfl ⟨rfl, rfl⟩
/-! ### Fspec_l17Ok -/
def Fspec_l17Ok (k : Nat) (a0 : Timpl_Rule) : Option Bool := (Fspec_l1In k a0.Kind (1 : Int) (3 : Int)).bind fun r4 => cond r4 (cond (a0.N == (0 : Int)) ((Fspec_l17Set k a0.Set).bind fun r6 => some r6) (some false)) ((Fspec_l1In k a0.Kind (4 : Int) (5 : Int)).bind fun r9 => cond r9 (cond ((a0.Set.length : Int) == (0 : Int)) ((Fspec_l1In k a0.N (0 : Int) (100000 : Int)).bind fun r10 => some r10) (some false)) (some false))
theorem ent119 : Enters Try.prog 119 := ⟨Try.f119, Try.func119, rfl, by decide⟩
set_option maxHeartbeats 8000000 in
set_option maxRecDepth 100000 in
theorem Fspec_l17Ok_gives (k : Nat) (g0 : Bool) (a0 : Timpl_Rule) (r : Bool) (H : Fspec_l17Ok k a0 = some r) : Gives Try.prog 119 [V.agg [cI a0.Kind, Cell.sl g0 (List.map eI a0.Set), cI a0.N]] [] [V.one (cL r)] [] := by
  refine Gives.intro Try.func119 rfl rfl rfl rfl ?_
  intro F hF hm
  unfold Fspec_l17Ok at H
  obtain ⟨K, hK⟩ : ∃ K, k ≤ K := ⟨k, Nat.le_refl k⟩
  refine WpC.seq ?_
  refine WpC.regionL ?_
  refine L.box 3 hF rfl rfl rfl rfl ?_
  refine L.assign hF rfl rfl rfl ?_
  refine L.nil ?_
  refine WpC.seq ?_
  refine WpC.seq ?_
  refine WpC.regionL ?_
  refine L.fieldAddr Try.underlying133 rfl info3 rfl hF rfl rfl rfl rfl rfl ?_
  refine L.loadPtr shape3 hF rfl rfl rfl rfl rfl rfl ?_
  obtain ⟨r4, hr4, H⟩ := bindS H
  refine L.call [false, false, false] [] [] 4 hF rfl rfl rfl ent92 rfl rfl rfl rfl rfl (Fspec_l1In_gives k  a0.Kind (1 : Int) (3 : Int) r4 hr4) rfl ?_
  refine L.nil ?_
  refine WpC.cond rfl (fun hc => ?_) (fun hc => ?_)
  · replace H := condT hc H
    refine WpC.seq ?_
    refine WpC.regionL ?_
    refine L.fieldAddr Try.underlying133 rfl info3 rfl hF rfl rfl rfl rfl rfl ?_
    refine L.loadPtr shape3 hF rfl rfl rfl rfl rfl rfl ?_
    refine L.bin hF rfl rfl rfl rfl rfl rfl ?_
    refine L.move hF rfl rfl rfl ?_
    refine L.split (fun hc => ?_) (fun hc => ?_)
    · replace H := condT hc H
      refine L.fieldAddr Try.underlying133 rfl info77 rfl hF rfl rfl rfl rfl rfl ?_
      refine L.loadPtr shape77 hF rfl rfl rfl rfl rfl rfl ?_
      obtain ⟨r6, hr6, H⟩ := bindS H
      refine L.call [false] [] [] 5 hF rfl rfl rfl ent154 rfl rfl rfl rfl rfl (Fspec_l17Set_gives k g0 a0.Set r6 hr6) rfl ?_
      refine L.pick hF rfl rfl rfl rfl ?_
      refine L.assign hF rfl rfl rfl ?_
      refine L.nil ?_
      refine WpC.ret ?_
      cases H
      exact Leaves.ret rfl rfl rfl ⟨rfl, rfl⟩
    · replace H := condF hc H
      refine L.off hF rfl rfl ?_
      refine L.off hF rfl rfl ?_
      refine L.off hF rfl rfl ?_
      refine L.pick hF rfl rfl rfl rfl ?_
      refine L.assign hF rfl rfl rfl ?_
      refine L.nil ?_
      refine WpC.ret ?_
      cases H
      exact Leaves.ret rfl rfl rfl ⟨rfl, rfl⟩
  · replace H := condF hc H
    refine WpC.skip ?_
    refine WpC.seq ?_
    refine WpC.regionL ?_
    refine L.fieldAddr Try.underlying133 rfl info3 rfl hF rfl rfl rfl rfl rfl ?_
    refine L.loadPtr shape3 hF rfl rfl rfl rfl rfl rfl ?_
    obtain ⟨r9, hr9, H⟩ := bindS H
    refine L.call [false, false, false] [] [] 5 hF rfl rfl rfl ent92 rfl rfl rfl rfl rfl (Fspec_l1In_gives k  a0.Kind (4 : Int) (5 : Int) r9 hr9) rfl ?_
    refine L.move hF rfl rfl rfl ?_
    refine L.split (fun hc => ?_) (fun hc => ?_)
    · replace H := condT hc H
      refine L.fieldAddr Try.underlying133 rfl info77 rfl hF rfl rfl rfl rfl rfl ?_
      refine L.loadPtr shape77 hF rfl rfl rfl rfl rfl rfl ?_
      refine L.lenR (xs := a0.Set) (e := eI) Try.underlying77 hF rfl rfl rfl rfl ?_
      refine L.bin hF rfl rfl rfl rfl rfl rfl ?_
      refine L.pick hF rfl rfl rfl rfl ?_
      refine L.move hF rfl rfl rfl ?_
      refine L.split (fun hc => ?_) (fun hc => ?_)
      · replace H := condT hc H
        refine L.fieldAddr Try.underlying133 rfl info3 rfl hF rfl rfl rfl rfl rfl ?_
        refine L.loadPtr shape3 hF rfl rfl rfl rfl rfl rfl ?_
        obtain ⟨r10, hr10, H⟩ := bindS H
        refine L.call [false, false, false] [] [] 6 hF rfl rfl rfl ent92 rfl rfl rfl rfl rfl (Fspec_l1In_gives k  a0.N (0 : Int) (100000 : Int) r10 hr10) rfl ?_
        refine L.pick hF rfl rfl rfl rfl ?_
        refine L.assign hF rfl rfl rfl ?_
        refine L.nil ?_
        refine WpC.ret ?_
        cases H
        exact Leaves.ret rfl rfl rfl ⟨rfl, rfl⟩
      · replace H := condF hc H
        refine L.off hF rfl rfl ?_
        refine L.off hF rfl rfl ?_
        refine L.off hF rfl rfl ?_
        refine L.pick hF rfl rfl rfl rfl ?_
        refine L.assign hF rfl rfl rfl ?_
        refine L.nil ?_
        refine WpC.ret ?_
        cases H
        exact Leaves.ret rfl rfl rfl ⟨rfl, rfl⟩
    · replace H := condF hc H
      refine L.off hF rfl rfl ?_
      refine L.off hF rfl rfl ?_
      refine L.off hF rfl rfl ?_
      refine L.off hF rfl rfl ?_
      refine L.pick hF rfl rfl rfl rfl ?_
      refine L.move hF rfl rfl rfl ?_
      refine L.off hF rfl rfl ?_
      refine L.off hF rfl rfl ?_
      refine L.off hF rfl rfl ?_
      refine L.pick hF rfl rfl rfl rfl ?_
      refine L.assign hF rfl rfl rfl ?_
      refine L.nil ?_
      refine WpC.ret ?_
      cases H
      exact Leaves.ret rfl rfl rfl ⟨rfl, rfl⟩
/-! ### Fspec_RulesOk -/
def Fspec_RulesOk.l2 : Nat → (List Timpl_Rule) → Int → Option Bool
  | 0, _, _ => none
  | k2 + 1, v29, v30 => cond (decide (v30 < (v29.length : Int))) ((at? v29 v30).bind fun b33 => (Fspec_l17Ok k2 b33).bind fun r34 => cond (!r34) (some false) ((Fspec_RulesOk.l2 k2) v29 (IntKind.i64.wrap (v30 + (1 : Int))))) (some true)
def Fspec_RulesOk (k : Nat) (a0 : List Timpl_Rule) : Option Bool := cond (decide ((a0.length : Int) > (20 : Int))) (some false) (Fspec_RulesOk.l2 k a0 (0 : Int))
theorem ent62 : Enters Try.prog 62 := ⟨Try.f62, Try.func62, rfl, by decide⟩
set_option maxHeartbeats 8000000 in
set_option maxRecDepth 100000 in
theorem Fspec_RulesOk_gives (k : Nat) (g0 : Bool) (a0 : List Timpl_Rule) (r : Bool) (H : Fspec_RulesOk k a0 = some r) : Gives Try.prog 62 [V.one (Cell.sl g0 (List.map eTimpl_Rule a0))] [] [V.one (cL r)] [] := by
  refine Gives.intro Try.func62 rfl rfl rfl rfl ?_
  intro F hF hm
  unfold Fspec_RulesOk at H
  obtain ⟨K, hK⟩ : ∃ K, k ≤ K := ⟨k, Nat.le_refl k⟩
  refine WpC.seq ?_
  refine WpC.regionL ?_
  refine L.assign hF rfl rfl rfl ?_
  refine L.nil ?_
  refine WpC.seq ?_
  refine WpC.seq ?_
  refine WpC.regionL ?_
  refine L.move hF rfl rfl rfl ?_
  refine L.lenR (xs := a0) (e := eTimpl_Rule) Try.underlying71 hF rfl rfl rfl rfl ?_
  refine L.bin hF rfl rfl rfl rfl rfl rfl ?_
  refine L.nil ?_
  refine WpC.cond rfl (fun hc => ?_) (fun hc => ?_)
  · replace H := condT hc H
    refine WpC.seq ?_
    refine WpC.regionL ?_
    refine L.assign hF rfl rfl rfl ?_
    refine L.nil ?_
    refine WpC.ret ?_
    cases H
    exact Leaves.ret rfl rfl rfl ⟨rfl, rfl⟩
  · replace H := condF hc H
    refine WpC.skip ?_
    refine WpC.seq ?_
    refine WpC.seq ?_
    refine WpC.regionL ?_
    refine L.assign hF rfl rfl rfl ?_
    refine L.nil ?_
    refine WpC.block ?_
    refine WpC.loopL (P := Try.prog) (fun n σ => ∃ v29 : List Timpl_Rule, ∃ v30 : Int, n ≤ K ∧ Fspec_RulesOk.l2 n v29 v30 = some r ∧ σ = mkSt [(0, one (Cell.sl g0 (List.map eTimpl_Rule v29))), (3, one (cI v30))] [] [] 0) k ⟨_, ⟨a0, (0 : Int), by omega, H, rfl⟩, Le.mk [] hm rfl ⟨⟨_, rfl, rfl⟩, ⟨_, rfl, rfl⟩, trivial⟩ trivial trivial⟩ ?_
    clear H
    rintro k2 _ ⟨v29, v30, hk2, H, rfl⟩
    cases k2 with
    | zero => cases H
    | succ k2 =>
      rw [Fspec_RulesOk.l2] at H
      refine WpC.seq ?_
      refine WpC.seq ?_
      refine WpC.regionL ?_
      refine L.move hF rfl rfl rfl ?_
      refine L.move hF rfl rfl rfl ?_
      refine L.lenR (xs := v29) (e := eTimpl_Rule) Try.underlying71 hF rfl rfl rfl rfl ?_
      refine L.bin hF rfl rfl rfl rfl rfl rfl ?_
      refine L.nil ?_
      refine WpC.cond rfl (fun hc => ?_) (fun hc => ?_)
      · replace H := condT hc H
        refine WpC.skip ?_
        refine WpC.seq ?_
        refine WpC.block ?_
        refine WpC.seq ?_
        refine WpC.regionL ?_
        refine L.move hF rfl rfl rfl ?_
        refine L.move hF rfl rfl rfl ?_
        obtain ⟨b33, hb33, H⟩ := bindS H
        refine L.idxR (xs := v29) (e := eTimpl_Rule) Try.underlying71 info133 hF rfl rfl rfl rfl rfl hb33 rfl rfl ?_
        refine L.loadPe shape133 hF rfl rfl rfl rfl rfl ?_
        obtain ⟨r34, hr34, H⟩ := bindS H
        refine L.call [false] [] [] 0 hF rfl rfl rfl ent119 rfl rfl rfl rfl rfl (Fspec_l17Ok_gives k2 true b33 r34 hr34) rfl ?_
        refine L.not hF rfl rfl rfl ?_
        refine L.nil ?_
        refine WpC.cond rfl (fun hc => ?_) (fun hc => ?_)
        · replace H := condT hc H
          refine WpC.seq ?_
          refine WpC.regionL ?_
          refine L.assign hF rfl rfl rfl ?_
          refine L.nil ?_
          refine WpC.ret ?_
          cases H
          exact Leaves.ret rfl rfl rfl ⟨rfl, rfl⟩
        · replace H := condF hc H
          refine WpC.skip ?_
          refine WpC.regionL ?_
          refine L.move hF rfl rfl rfl ?_
          refine L.bin hF rfl rfl rfl rfl rfl rfl ?_
          refine L.assign hF rfl rfl rfl ?_
          refine L.nil ?_
          exact ⟨k2, _, by omega, ⟨v29, (IntKind.i64.wrap (v30 + (1 : Int))), by omega, H, rfl⟩, Le.mk [] hm rfl ⟨⟨_, rfl, rfl⟩, ⟨_, rfl, rfl⟩, trivial⟩ trivial trivial⟩
      · replace H := condF hc H
        refine WpC.exit ?_
        refine WpC.seq ?_
        refine WpC.regionL ?_
        refine L.assign hF rfl rfl rfl ?_
        refine L.nil ?_
        refine WpC.ret ?_
        cases H
        exact Leaves.ret rfl rfl rfl ⟨rfl, rfl⟩
/-! ### Fspec_l3Has -/
def Fspec_l3Has.l2 : Nat → (List Int) → Int → Int → Option Bool
  | 0, _, _, _ => none
  | k2 + 1, v24, v25, v26 => cond (decide (v26 < (v24.length : Int))) ((at? v24 v26).bind fun b28 => cond (b28 == v25) (some true) ((Fspec_l3Has.l2 k2) v24 v25 (IntKind.i64.wrap (v26 + (1 : Int))))) (some false)
def Fspec_l3Has (k : Nat) (a0 : List Int) (a1 : Int) : Option Bool := Fspec_l3Has.l2 k a0 a1 (0 : Int)
theorem ent165 : Enters Try.prog 165 := ⟨Try.f165, Try.func165, rfl, by decide⟩
set_option maxHeartbeats 8000000 in
set_option maxRecDepth 100000 in
theorem Fspec_l3Has_gives (k : Nat) (g0 : Bool) (a0 : List Int) (a1 : Int) (r : Bool) (H : Fspec_l3Has k a0 a1 = some r) : Gives Try.prog 165 [V.one (Cell.sl g0 (List.map eI a0)), V.one (cI a1)] [] [V.one (cL r)] [] := by
  refine Gives.intro Try.func165 rfl rfl rfl rfl ?_
  intro F hF hm
  unfold Fspec_l3Has at H
  obtain ⟨K, hK⟩ : ∃ K, k ≤ K := ⟨k, Nat.le_refl k⟩
  refine WpC.seq ?_
  refine WpC.regionL ?_
  refine L.assign hF rfl rfl rfl ?_
  refine L.nil ?_
  refine WpC.seq ?_
  refine WpC.seq ?_
  refine WpC.regionL ?_
  refine L.assign hF rfl rfl rfl ?_
  refine L.nil ?_
  refine WpC.block ?_
  refine WpC.loopL (P := Try.prog) (fun n σ => ∃ v24 : List Int, ∃ v25 : Int, ∃ v26 : Int, n ≤ K ∧ Fspec_l3Has.l2 n v24 v25 v26 = some r ∧ σ = mkSt [(0, one (Cell.sl g0 (List.map eI v24))), (1, one (cI v25)), (5, one (cI v26))] [] [] 0) k ⟨_, ⟨a0, a1, (0 : Int), by omega, H, rfl⟩, Le.mk [] hm rfl ⟨⟨_, rfl, rfl⟩, ⟨_, rfl, rfl⟩, ⟨_, rfl, rfl⟩, trivial⟩ trivial trivial⟩ ?_
  clear H
  rintro k2 _ ⟨v24, v25, v26, hk2, H, rfl⟩
  cases k2 with
  | zero => cases H
  | succ k2 =>
    rw [Fspec_l3Has.l2] at H
    refine WpC.seq ?_
    refine WpC.seq ?_
    refine WpC.regionL ?_
    refine L.move hF rfl rfl rfl ?_
    refine L.move hF rfl rfl rfl ?_
    refine L.lenR (xs := v24) (e := eI) Try.underlying77 hF rfl rfl rfl rfl ?_
    refine L.bin hF rfl rfl rfl rfl rfl rfl ?_
    refine L.nil ?_
    refine WpC.cond rfl (fun hc => ?_) (fun hc => ?_)
    · replace H := condT hc H
      refine WpC.skip ?_
      refine WpC.seq ?_
      refine WpC.block ?_
      refine WpC.seq ?_
      refine WpC.regionL ?_
      refine L.move hF rfl rfl rfl ?_
      refine L.move hF rfl rfl rfl ?_
      obtain ⟨b28, hb28, H⟩ := bindS H
      refine L.idxR (xs := v24) (e := eI) Try.underlying77 info3 hF rfl rfl rfl rfl rfl hb28 rfl rfl ?_
      refine L.loadPe shape3 hF rfl rfl rfl rfl rfl ?_
      refine L.move hF rfl rfl rfl ?_
      refine L.bin hF rfl rfl rfl rfl rfl rfl ?_
      refine L.nil ?_
      refine WpC.cond rfl (fun hc => ?_) (fun hc => ?_)
      · replace H := condT hc H
        refine WpC.seq ?_
        refine WpC.regionL ?_
        refine L.assign hF rfl rfl rfl ?_
        refine L.nil ?_
        refine WpC.ret ?_
        cases H
        exact Leaves.ret rfl rfl rfl ⟨rfl, rfl⟩
      · replace H := condF hc H
        refine WpC.skip ?_
        refine WpC.regionL ?_
        refine L.move hF rfl rfl rfl ?_
        refine L.bin hF rfl rfl rfl rfl rfl rfl ?_
        refine L.assign hF rfl rfl rfl ?_
        refine L.nil ?_
        exact ⟨k2, _, by omega, ⟨v24, v25, (IntKind.i64.wrap (v26 + (1 : Int))), by omega, H, rfl⟩, Le.mk [] hm rfl ⟨⟨_, rfl, rfl⟩, ⟨_, rfl, rfl⟩, ⟨_, rfl, rfl⟩, trivial⟩ trivial trivial⟩
    · replace H := condF hc H
      refine WpC.exit ?_
      refine WpC.seq ?_
      refine WpC.regionL ?_
      refine L.assign hF rfl rfl rfl ?_
      refine L.nil ?_
      refine WpC.ret ?_
      cases H
      exact Leaves.ret rfl rfl rfl ⟨rfl, rfl⟩
/-! ### Fspec_l17All -/
def Fspec_l17All.l2 : Nat → (List Int) → (List Int) → Int → Option Bool
  | 0, _, _, _ => none
  | k2 + 1, v34, v35, v36 => cond (decide (v36 < (v34.length : Int))) ((at? v34 v36).bind fun b39 => (Fspec_l3Has k2 v35 b39).bind fun r40 => cond (!r40) (some false) ((Fspec_l17All.l2 k2) v34 v35 (IntKind.i64.wrap (v36 + (1 : Int))))) (some true)
def Fspec_l17All (k : Nat) (a0 : List Int) (a1 : List Int) : Option Bool := Fspec_l17All.l2 k a0 a1 (0 : Int)
theorem ent166 : Enters Try.prog 166 := ⟨Try.f166, Try.func166, rfl, by decide⟩
set_option maxHeartbeats 8000000 in
set_option maxRecDepth 100000 in
theorem Fspec_l17All_gives (k : Nat) (g0 : Bool) (g1 : Bool) (a0 : List Int) (a1 : List Int) (r : Bool) (H : Fspec_l17All k a0 a1 = some r) : Gives Try.prog 166 [V.one (Cell.sl g0 (List.map eI a0)), V.one (Cell.sl g1 (List.map eI a1))] [] [V.one (cL r)] [] := by
  refine Gives.intro Try.func166 rfl rfl rfl rfl ?_
  intro F hF hm
  unfold Fspec_l17All at H
  obtain ⟨K, hK⟩ : ∃ K, k ≤ K := ⟨k, Nat.le_refl k⟩
  refine WpC.seq ?_
  refine WpC.regionL ?_
  refine L.assign hF rfl rfl rfl ?_
  refine L.nil ?_
  refine WpC.seq ?_
  refine WpC.seq ?_
  refine WpC.regionL ?_
  refine L.assign hF rfl rfl rfl ?_
  refine L.nil ?_
  refine WpC.block ?_
  refine WpC.loopL (P := Try.prog) (fun n σ => ∃ v34 : List Int, ∃ v35 : List Int, ∃ v36 : Int, n ≤ K ∧ Fspec_l17All.l2 n v34 v35 v36 = some r ∧ σ = mkSt [(0, one (Cell.sl g0 (List.map eI v34))), (1, one (Cell.sl g1 (List.map eI v35))), (5, one (cI v36))] [] [] 0) k ⟨_, ⟨a0, a1, (0 : Int), by omega, H, rfl⟩, Le.mk [] hm rfl ⟨⟨_, rfl, rfl⟩, ⟨_, rfl, rfl⟩, ⟨_, rfl, rfl⟩, trivial⟩ trivial trivial⟩ ?_
  clear H
  rintro k2 _ ⟨v34, v35, v36, hk2, H, rfl⟩
  cases k2 with
  | zero => cases H
  | succ k2 =>
    rw [Fspec_l17All.l2] at H
    refine WpC.seq ?_
    refine WpC.seq ?_
    refine WpC.regionL ?_
    refine L.move hF rfl rfl rfl ?_
    refine L.move hF rfl rfl rfl ?_
    refine L.lenR (xs := v34) (e := eI) Try.underlying77 hF rfl rfl rfl rfl ?_
    refine L.bin hF rfl rfl rfl rfl rfl rfl ?_
    refine L.nil ?_
    refine WpC.cond rfl (fun hc => ?_) (fun hc => ?_)
    · replace H := condT hc H
      refine WpC.skip ?_
      refine WpC.seq ?_
      refine WpC.block ?_
      refine WpC.seq ?_
      refine WpC.regionL ?_
      refine L.move hF rfl rfl rfl ?_
      refine L.move hF rfl rfl rfl ?_
      refine L.move hF rfl rfl rfl ?_
      obtain ⟨b39, hb39, H⟩ := bindS H
      refine L.idxR (xs := v34) (e := eI) Try.underlying77 info3 hF rfl rfl rfl rfl rfl hb39 rfl rfl ?_
      refine L.loadPe shape3 hF rfl rfl rfl rfl rfl ?_
      obtain ⟨r40, hr40, H⟩ := bindS H
      refine L.call [false, false] [] [] 0 hF rfl rfl rfl ent165 rfl rfl rfl rfl rfl (Fspec_l3Has_gives k2 g1 v35 b39 r40 hr40) rfl ?_
      refine L.not hF rfl rfl rfl ?_
      refine L.nil ?_
      refine WpC.cond rfl (fun hc => ?_) (fun hc => ?_)
      · replace H := condT hc H
        refine WpC.seq ?_
        refine WpC.regionL ?_
        refine L.assign hF rfl rfl rfl ?_
        refine L.nil ?_
        refine WpC.ret ?_
        cases H
        exact Leaves.ret rfl rfl rfl ⟨rfl, rfl⟩
      · replace H := condF hc H
        refine WpC.skip ?_
        refine WpC.regionL ?_
        refine L.move hF rfl rfl rfl ?_
        refine L.bin hF rfl rfl rfl rfl rfl rfl ?_
        refine L.assign hF rfl rfl rfl ?_
        refine L.nil ?_
        exact ⟨k2, _, by omega, ⟨v34, v35, (IntKind.i64.wrap (v36 + (1 : Int))), by omega, H, rfl⟩, Le.mk [] hm rfl ⟨⟨_, rfl, rfl⟩, ⟨_, rfl, rfl⟩, ⟨_, rfl, rfl⟩, trivial⟩ trivial trivial⟩
    · replace H := condF hc H
      refine WpC.exit ?_
      refine WpC.seq ?_
      refine WpC.regionL ?_
      refine L.assign hF rfl rfl rfl ?_
      refine L.nil ?_
      refine WpC.ret ?_
      cases H
      exact Leaves.ret rfl rfl rfl ⟨rfl, rfl⟩
/-! ### Fspec_l17One -/
def Fspec_l17One (k : Nat) (a0 : Timpl_Rule) (a1 : Timpl_Ask) : Option Bool := cond (a0.Kind == (1 : Int)) ((Fspec_l3Has k a0.Set a1.Server).bind fun r4 => some r4) (cond (a0.Kind == (2 : Int)) ((Fspec_l3Has k a0.Set a1.Op).bind fun r5 => some r5) (cond (a0.Kind == (3 : Int)) ((Fspec_l17All k a0.Set a1.Groups).bind fun r6 => some r6) (cond (a0.Kind == (4 : Int)) (some (decide (a1.Now ≤ a0.N))) (some (decide (a1.Used < a0.N))))))
theorem ent136 : Enters Try.prog 136 := ⟨Try.f136, Try.func136, rfl, by decide⟩
set_option maxHeartbeats 8000000 in
set_option maxRecDepth 100000 in
theorem Fspec_l17One_gives (k : Nat) (g0 : Bool) (g1 : Bool) (a0 : Timpl_Rule) (a1 : Timpl_Ask) (r : Bool) (H : Fspec_l17One k a0 a1 = some r) : Gives Try.prog 136 [V.agg [cI a0.Kind, Cell.sl g0 (List.map eI a0.Set), cI a0.N], V.agg [cI a1.Server, cI a1.Op, Cell.sl g1 (List.map eI a1.Groups), cI a1.Now, cI a1.Used]] [] [V.one (cL r)] [] := by
  refine Gives.intro Try.func136 rfl rfl rfl rfl ?_
  intro F hF hm
  unfold Fspec_l17One at H
  obtain ⟨K, hK⟩ : ∃ K, k ≤ K := ⟨k, Nat.le_refl k⟩
  refine WpC.seq ?_
  refine WpC.regionL ?_
  refine L.box 8 hF rfl rfl rfl rfl ?_
  refine L.box 9 hF rfl rfl rfl rfl ?_
  refine L.assign hF rfl rfl rfl ?_
  refine L.nil ?_
  refine WpC.seq ?_
  refine WpC.seq ?_
  refine WpC.regionL ?_
  refine L.fieldAddr Try.underlying133 rfl info3 rfl hF rfl rfl rfl rfl rfl ?_
  refine L.loadPtr shape3 hF rfl rfl rfl rfl rfl rfl ?_
  refine L.nil ?_
  refine WpC.block ?_
  refine WpC.seq ?_
  refine WpC.regionL ?_
  refine L.bin hF rfl rfl rfl rfl rfl rfl ?_
  refine L.assign hF rfl rfl rfl ?_
  refine L.nil ?_
  refine WpC.cond rfl (fun hc => ?_) (fun hc => ?_)
  · replace H := condT hc H
    refine WpC.seq ?_
    refine WpC.regionL ?_
    refine L.fieldAddr Try.underlying133 rfl info77 rfl hF rfl rfl rfl rfl rfl ?_
    refine L.loadPtr shape77 hF rfl rfl rfl rfl rfl rfl ?_
    refine L.fieldAddr Try.underlying92 rfl info3 rfl hF rfl rfl rfl rfl rfl ?_
    refine L.loadPtr shape3 hF rfl rfl rfl rfl rfl rfl ?_
    obtain ⟨r4, hr4, H⟩ := bindS H
    refine L.call [false, false] [] [] 10 hF rfl rfl rfl ent165 rfl rfl rfl rfl rfl (Fspec_l3Has_gives k g0 a0.Set a1.Server r4 hr4) rfl ?_
    refine L.assign hF rfl rfl rfl ?_
    refine L.nil ?_
    refine WpC.ret ?_
    cases H
    exact Leaves.ret rfl rfl rfl ⟨rfl, rfl⟩
  · replace H := condF hc H
    refine WpC.seq ?_
    refine WpC.regionL ?_
    refine L.bin hF rfl rfl rfl rfl rfl rfl ?_
    refine L.assign hF rfl rfl rfl ?_
    refine L.nil ?_
    refine WpC.cond rfl (fun hc => ?_) (fun hc => ?_)
    · replace H := condT hc H
      refine WpC.seq ?_
      refine WpC.regionL ?_
      refine L.fieldAddr Try.underlying133 rfl info77 rfl hF rfl rfl rfl rfl rfl ?_
      refine L.loadPtr shape77 hF rfl rfl rfl rfl rfl rfl ?_
      refine L.fieldAddr Try.underlying92 rfl info3 rfl hF rfl rfl rfl rfl rfl ?_
      refine L.loadPtr shape3 hF rfl rfl rfl rfl rfl rfl ?_
      obtain ⟨r5, hr5, H⟩ := bindS H
      refine L.call [false, false] [] [] 10 hF rfl rfl rfl ent165 rfl rfl rfl rfl rfl (Fspec_l3Has_gives k g0 a0.Set a1.Op r5 hr5) rfl ?_
      refine L.assign hF rfl rfl rfl ?_
      refine L.nil ?_
      refine WpC.ret ?_
      cases H
      exact Leaves.ret rfl rfl rfl ⟨rfl, rfl⟩
    · replace H := condF hc H
      refine WpC.seq ?_
      refine WpC.regionL ?_
      refine L.bin hF rfl rfl rfl rfl rfl rfl ?_
      refine L.assign hF rfl rfl rfl ?_
      refine L.nil ?_
      refine WpC.cond rfl (fun hc => ?_) (fun hc => ?_)
      · replace H := condT hc H
        refine WpC.seq ?_
        refine WpC.regionL ?_
        refine L.fieldAddr Try.underlying133 rfl info77 rfl hF rfl rfl rfl rfl rfl ?_
        refine L.loadPtr shape77 hF rfl rfl rfl rfl rfl rfl ?_
        refine L.fieldAddr Try.underlying92 rfl info77 rfl hF rfl rfl rfl rfl rfl ?_
        refine L.loadPtr shape77 hF rfl rfl rfl rfl rfl rfl ?_
        obtain ⟨r6, hr6, H⟩ := bindS H
        refine L.call [false, false] [] [] 10 hF rfl rfl rfl ent166 rfl rfl rfl rfl rfl (Fspec_l17All_gives k g0 g1 a0.Set a1.Groups r6 hr6) rfl ?_
        refine L.assign hF rfl rfl rfl ?_
        refine L.nil ?_
        refine WpC.ret ?_
        cases H
        exact Leaves.ret rfl rfl rfl ⟨rfl, rfl⟩
      · replace H := condF hc H
        refine WpC.seq ?_
        refine WpC.regionL ?_
        refine L.bin hF rfl rfl rfl rfl rfl rfl ?_
        refine L.assign hF rfl rfl rfl ?_
        refine L.nil ?_
        refine WpC.cond rfl (fun hc => ?_) (fun hc => ?_)
        · replace H := condT hc H
          refine WpC.seq ?_
          refine WpC.regionL ?_
          refine L.fieldAddr Try.underlying92 rfl info3 rfl hF rfl rfl rfl rfl rfl ?_
          refine L.loadPtr shape3 hF rfl rfl rfl rfl rfl rfl ?_
          refine L.fieldAddr Try.underlying133 rfl info3 rfl hF rfl rfl rfl rfl rfl ?_
          refine L.loadPtr shape3 hF rfl rfl rfl rfl rfl rfl ?_
          refine L.bin hF rfl rfl rfl rfl rfl rfl ?_
          refine L.assign hF rfl rfl rfl ?_
          refine L.nil ?_
          refine WpC.ret ?_
          cases H
          exact Leaves.ret rfl rfl rfl ⟨rfl, rfl⟩
        · replace H := condF hc H
          refine WpC.skip ?_
          refine WpC.seq ?_
          refine WpC.regionL ?_
          refine L.fieldAddr Try.underlying92 rfl info3 rfl hF rfl rfl rfl rfl rfl ?_
          refine L.loadPtr shape3 hF rfl rfl rfl rfl rfl rfl ?_
          refine L.fieldAddr Try.underlying133 rfl info3 rfl hF rfl rfl rfl rfl rfl ?_
          refine L.loadPtr shape3 hF rfl rfl rfl rfl rfl rfl ?_
          refine L.bin hF rfl rfl rfl rfl rfl rfl ?_
          refine L.assign hF rfl rfl rfl ?_
          refine L.nil ?_
          refine WpC.ret ?_
          cases H
          exact Leaves.ret rfl rfl rfl ⟨rfl, rfl⟩
/-! ### Fspec_Allows -/
def Fspec_Allows.l2 : Nat → (List Timpl_Rule) → Int → Int → Int → (List Int) → Int → Int → Option Bool
  | 0, _, _, _, _, _, _, _ => none
  | k2 + 1, v56, v57, v58, v59, v60, v61, v62 => cond (decide (v57 < (v56.length : Int))) ((at? v56 v57).bind fun b65 => (Fspec_l17One k2 b65 (⟨v58, v59, v60, v61, v62⟩ : Timpl_Ask)).bind fun r66 => cond (!r66) (some false) ((Fspec_Allows.l2 k2) v56 (IntKind.i64.wrap (v57 + (1 : Int))) v58 v59 v60 v61 v62)) (some true)
def Fspec_Allows (k : Nat) (a0 : List Timpl_Rule) (a1 : Timpl_Ask) : Option Bool := (Fspec_RulesOk k a0).bind fun r2 => cond (!r2) (some false) (Fspec_Allows.l2 k a0 (0 : Int) a1.Server a1.Op a1.Groups a1.Now a1.Used)
theorem ent84 : Enters Try.prog 84 := ⟨Try.f84, Try.func84, rfl, by decide⟩
set_option maxHeartbeats 8000000 in
set_option maxRecDepth 100000 in
theorem Fspec_Allows_gives (k : Nat) (g0 : Bool) (g1 : Bool) (a0 : List Timpl_Rule) (a1 : Timpl_Ask) (r : Bool) (H : Fspec_Allows k a0 a1 = some r) : Gives Try.prog 84 [V.one (Cell.sl g0 (List.map eTimpl_Rule a0)), V.agg [cI a1.Server, cI a1.Op, Cell.sl g1 (List.map eI a1.Groups), cI a1.Now, cI a1.Used]] [] [V.one (cL r)] [] := by
  refine Gives.intro Try.func84 rfl rfl rfl rfl ?_
  intro F hF hm
  unfold Fspec_Allows at H
  obtain ⟨K, hK⟩ : ∃ K, k ≤ K := ⟨k, Nat.le_refl k⟩
  refine WpC.seq ?_
  refine WpC.regionL ?_
  refine L.box 6 hF rfl rfl rfl rfl ?_
  refine L.assign hF rfl rfl rfl ?_
  refine L.nil ?_
  refine WpC.seq ?_
  refine WpC.seq ?_
  refine WpC.regionL ?_
  refine L.move hF rfl rfl rfl ?_
  obtain ⟨r2, hr2, H⟩ := bindS H
  refine L.call [false] [] [] 7 hF rfl rfl rfl ent62 rfl rfl rfl rfl rfl (Fspec_RulesOk_gives k g0 a0 r2 hr2) rfl ?_
  refine L.not hF rfl rfl rfl ?_
  refine L.nil ?_
  refine WpC.cond rfl (fun hc => ?_) (fun hc => ?_)
  · replace H := condT hc H
    refine WpC.seq ?_
    refine WpC.regionL ?_
    refine L.assign hF rfl rfl rfl ?_
    refine L.nil ?_
    refine WpC.ret ?_
    cases H
    exact Leaves.ret rfl rfl rfl ⟨rfl, rfl⟩
  · replace H := condF hc H
    refine WpC.skip ?_
    refine WpC.seq ?_
    refine WpC.seq ?_
    refine WpC.regionL ?_
    refine L.assign hF rfl rfl rfl ?_
    refine L.nil ?_
    refine WpC.block ?_
    refine WpC.loopL (P := Try.prog) (fun n σ => ∃ v56 : List Timpl_Rule, ∃ v57 : Int, ∃ v58 : Int, ∃ v59 : Int, ∃ v60 : List Int, ∃ v61 : Int, ∃ v62 : Int, n ≤ K ∧ Fspec_Allows.l2 n v56 v57 v58 v59 v60 v61 v62 = some r ∧ σ = mkSt [(0, one (Cell.sl g0 (List.map eTimpl_Rule v56))), (3, one (Cell.ptr 0 0)), (5, one (cI v57))] [] [(0, [cI v58, cI v59, Cell.sl g1 (List.map eI v60), cI v61, cI v62])] 1) k ⟨_, ⟨a0, (0 : Int), a1.Server, a1.Op, a1.Groups, a1.Now, a1.Used, by omega, H, rfl⟩, Le.mk [(0, 6)] hm rfl ⟨⟨_, rfl, rfl⟩, ⟨_, rfl, rfl⟩, ⟨_, rfl, rfl⟩, trivial⟩ trivial ⟨⟨_, _, rfl, rfl, rfl⟩, trivial⟩⟩ ?_
    clear H
    rintro k2 _ ⟨v56, v57, v58, v59, v60, v61, v62, hk2, H, rfl⟩
    cases k2 with
    | zero => cases H
    | succ k2 =>
      rw [Fspec_Allows.l2] at H
      refine WpC.seq ?_
      refine WpC.seq ?_
      refine WpC.regionL ?_
      refine L.move hF rfl rfl rfl ?_
      refine L.move hF rfl rfl rfl ?_
      refine L.lenR (xs := v56) (e := eTimpl_Rule) Try.underlying71 hF rfl rfl rfl rfl ?_
      refine L.bin hF rfl rfl rfl rfl rfl rfl ?_
      refine L.nil ?_
      refine WpC.cond rfl (fun hc => ?_) (fun hc => ?_)
      · replace H := condT hc H
        refine WpC.skip ?_
        refine WpC.seq ?_
        refine WpC.block ?_
        refine WpC.seq ?_
        obtain ⟨b65, hb65, H⟩ := bindS H
        obtain ⟨r66, hr66, H⟩ := bindS H
        refine A.begin mixed rfl rfl ?_
        intro W hI hO
        have n127 : W 0 #[true, true, true, true, true, true, true] (mkSt [(0, one (Cell.sl g0 (List.map eTimpl_Rule v56))), (3, one (Cell.ptr 0 0)), (5, one (cI v57)), (21, one (cL (!r66)))] [] [(0, [cI v58, cI v59, Cell.sl g1 (List.map eI v60), cI v61, cI v62])] 1) := by
          refine hI _ _ _ (A.done (by kernel_rfl) ?_)
          refine WpC.cond rfl (fun hc => ?_) (fun hc => ?_)
          · replace H := condT hc H
            refine WpC.seq ?_
            refine WpC.regionL ?_
            refine L.assign hF rfl rfl rfl ?_
            refine L.nil ?_
            refine WpC.ret ?_
            cases H
            exact Leaves.ret rfl rfl rfl ⟨rfl, rfl⟩
          · replace H := condF hc H
            refine WpC.skip ?_
            refine WpC.regionL ?_
            refine L.move hF rfl rfl rfl ?_
            refine L.bin hF rfl rfl rfl rfl rfl rfl ?_
            refine L.assign hF rfl rfl rfl ?_
            refine L.nil ?_
            exact ⟨k2, _, by omega, ⟨v56, (IntKind.i64.wrap (v57 + (1 : Int))), v58, v59, v60, v61, v62, by omega, H, rfl⟩, Le.mk [(0, 0)] hm rfl ⟨⟨_, rfl, rfl⟩, ⟨_, rfl, rfl⟩, ⟨_, rfl, rfl⟩, trivial⟩ trivial ⟨⟨_, _, rfl, rfl, rfl⟩, trivial⟩⟩
        have n63 : W 1 #[true, true, true, true, true, true, false] (mkSt [(0, one (Cell.sl g0 (List.map eTimpl_Rule v56))), (3, one (Cell.ptr 0 0)), (5, one (cI v57)), (20, one (cL r66))] [] [(0, [cI v58, cI v59, Cell.sl g1 (List.map eI v60), cI v61, cI v62])] 1) := by
          refine hI _ _ _ ?_
          refine A.take 6 rfl (by kernel_rfl) (by kernel_rfl) (by kernel_rfl) rfl (Ca.un rfl rfl) (fun Q0 k0 => L.not hF rfl rfl rfl (L.nil k0)) ?_
          exact A.on (hO _ _ _ n127) (Le.mk [(0, 0)] hm rfl ⟨⟨_, rfl, rfl⟩, ⟨_, rfl, rfl⟩, ⟨_, rfl, rfl⟩, ⟨_, rfl, rfl⟩, trivial⟩ trivial ⟨⟨_, _, rfl, rfl, rfl⟩, trivial⟩)
        have n31 : W 2 #[true, true, true, true, true, false, false] (mkSt [(0, one (Cell.sl g0 (List.map eTimpl_Rule v56))), (3, one (Cell.ptr 0 0)), (5, one (cI v57)), (18, agg [cI b65.Kind, Cell.sl true (List.map eI b65.Set), cI b65.N]), (19, agg [cI v58, cI v59, Cell.sl g1 (List.map eI v60), cI v61, cI v62])] [] [(0, [cI v58, cI v59, Cell.sl g1 (List.map eI v60), cI v61, cI v62])] 1) := by
          refine hI _ _ _ ?_
          refine A.all [5] (by kernel_rfl) rfl ⟨⟨_, rfl, ?_⟩, trivial⟩
          · refine L.call [false, false] [] [] 1 hF rfl rfl rfl ent136 rfl rfl rfl rfl rfl (Fspec_l17One_gives k2 true g1 b65 (⟨v58, v59, v60, v61, v62⟩ : Timpl_Ask) r66 hr66) rfl ?_
            refine L.nil ?_
            exact A.on (hO _ _ _ n63) (Le.mk [(0, 0)] hm rfl ⟨⟨_, rfl, rfl⟩, ⟨_, rfl, rfl⟩, ⟨_, rfl, rfl⟩, ⟨_, rfl, rfl⟩, trivial⟩ trivial ⟨⟨_, _, rfl, rfl, rfl⟩, trivial⟩)
        have n15 : W 3 #[true, true, true, true, false, false, false] (mkSt [(0, one (Cell.sl g0 (List.map eTimpl_Rule v56))), (3, one (Cell.ptr 0 0)), (5, one (cI v57)), (18, agg [cI b65.Kind, Cell.sl true (List.map eI b65.Set), cI b65.N])] [] [(0, [cI v58, cI v59, Cell.sl g1 (List.map eI v60), cI v61, cI v62])] 1) := by
          refine hI _ _ _ ?_
          refine A.all [4] (by kernel_rfl) rfl ⟨⟨_, rfl, ?_⟩, trivial⟩
          · refine L.loadPtr shape92 hF rfl rfl rfl rfl rfl rfl ?_
            refine L.nil ?_
            exact A.on (hO _ _ _ n31) (Le.mk [(0, 0)] hm rfl ⟨⟨_, rfl, rfl⟩, ⟨_, rfl, rfl⟩, ⟨_, rfl, rfl⟩, ⟨_, rfl, rfl⟩, ⟨_, rfl, rfl⟩, trivial⟩ trivial ⟨⟨_, _, rfl, rfl, rfl⟩, trivial⟩)
        have n23 : W 3 #[true, true, true, false, true, false, false] (mkSt [(0, one (Cell.sl g0 (List.map eTimpl_Rule v56))), (3, one (Cell.ptr 0 0)), (5, one (cI v57)), (17, one (Cell.pe g0 (eTimpl_Rule b65) 0)), (19, agg [cI v58, cI v59, Cell.sl g1 (List.map eI v60), cI v61, cI v62])] [] [(0, [cI v58, cI v59, Cell.sl g1 (List.map eI v60), cI v61, cI v62])] 1) := by
          refine hI _ _ _ ?_
          refine A.all [3] (by kernel_rfl) rfl ⟨⟨_, rfl, ?_⟩, trivial⟩
          · refine L.loadPe shape133 hF rfl rfl rfl rfl rfl ?_
            refine L.nil ?_
            exact A.on (hO _ _ _ n31) (Le.mk [(0, 0)] hm rfl ⟨⟨_, rfl, rfl⟩, ⟨_, rfl, rfl⟩, ⟨_, rfl, rfl⟩, ⟨_, rfl, rfl⟩, ⟨_, rfl, rfl⟩, trivial⟩ trivial ⟨⟨_, _, rfl, rfl, rfl⟩, trivial⟩)
        have n7 : W 4 #[true, true, true, false, false, false, false] (mkSt [(0, one (Cell.sl g0 (List.map eTimpl_Rule v56))), (3, one (Cell.ptr 0 0)), (5, one (cI v57)), (17, one (Cell.pe g0 (eTimpl_Rule b65) 0))] [] [(0, [cI v58, cI v59, Cell.sl g1 (List.map eI v60), cI v61, cI v62])] 1) := by
          refine hI _ _ _ ?_
          refine A.all [3, 4] (by kernel_rfl) rfl ⟨⟨_, rfl, ?_⟩, ⟨_, rfl, ?_⟩, trivial⟩
          · refine L.loadPe shape133 hF rfl rfl rfl rfl rfl ?_
            refine L.nil ?_
            exact A.on (hO _ _ _ n15) (Le.mk [(0, 0)] hm rfl ⟨⟨_, rfl, rfl⟩, ⟨_, rfl, rfl⟩, ⟨_, rfl, rfl⟩, ⟨_, rfl, rfl⟩, trivial⟩ trivial ⟨⟨_, _, rfl, rfl, rfl⟩, trivial⟩)
          · refine L.loadPtr shape92 hF rfl rfl rfl rfl rfl rfl ?_
            refine L.nil ?_
            exact A.on (hO _ _ _ n23) (Le.mk [(0, 0)] hm rfl ⟨⟨_, rfl, rfl⟩, ⟨_, rfl, rfl⟩, ⟨_, rfl, rfl⟩, ⟨_, rfl, rfl⟩, ⟨_, rfl, rfl⟩, trivial⟩ trivial ⟨⟨_, _, rfl, rfl, rfl⟩, trivial⟩)
        have n3 : W 5 #[true, true, false, false, false, false, false] (mkSt [(0, one (Cell.sl g0 (List.map eTimpl_Rule v56))), (3, one (Cell.ptr 0 0)), (5, one (cI v57)), (15, one (Cell.sl g0 (List.map eTimpl_Rule v56))), (16, one (cI v57))] [] [(0, [cI v58, cI v59, Cell.sl g1 (List.map eI v60), cI v61, cI v62])] 1) := by
          refine hI _ _ _ ?_
          refine A.take 2 rfl (by kernel_rfl) (by kernel_rfl) (by kernel_rfl) rfl (Ca.indexAddr) (fun Q0 k0 => L.idxR (xs := v56) (e := eTimpl_Rule) Try.underlying71 info133 hF rfl rfl rfl rfl rfl hb65 rfl rfl (L.nil k0)) ?_
          exact A.on (hO _ _ _ n7) (Le.mk [(0, 0)] hm rfl ⟨⟨_, rfl, rfl⟩, ⟨_, rfl, rfl⟩, ⟨_, rfl, rfl⟩, ⟨_, rfl, rfl⟩, trivial⟩ trivial ⟨⟨_, _, rfl, rfl, rfl⟩, trivial⟩)
        have n1 : W 6 #[true, false, false, false, false, false, false] (mkSt [(0, one (Cell.sl g0 (List.map eTimpl_Rule v56))), (3, one (Cell.ptr 0 0)), (5, one (cI v57)), (15, one (Cell.sl g0 (List.map eTimpl_Rule v56)))] [] [(0, [cI v58, cI v59, Cell.sl g1 (List.map eI v60), cI v61, cI v62])] 1) := by
          refine hI _ _ _ ?_
          refine A.take 1 rfl (by kernel_rfl) (by kernel_rfl) (by kernel_rfl) rfl (Ca.move) (fun Q0 k0 => L.move hF rfl rfl rfl (L.nil k0)) ?_
          exact A.on (hO _ _ _ n3) (Le.mk [(0, 0)] hm rfl ⟨⟨_, rfl, rfl⟩, ⟨_, rfl, rfl⟩, ⟨_, rfl, rfl⟩, ⟨_, rfl, rfl⟩, ⟨_, rfl, rfl⟩, trivial⟩ trivial ⟨⟨_, _, rfl, rfl, rfl⟩, trivial⟩)
        have n0 : W 7 #[false, false, false, false, false, false, false] (mkSt [(0, one (Cell.sl g0 (List.map eTimpl_Rule v56))), (3, one (Cell.ptr 0 0)), (5, one (cI v57))] [] [(0, [cI v58, cI v59, Cell.sl g1 (List.map eI v60), cI v61, cI v62])] 1) := by
          refine hI _ _ _ ?_
          refine A.take 0 rfl (by kernel_rfl) (by kernel_rfl) (by kernel_rfl) rfl (Ca.move) (fun Q0 k0 => L.move hF rfl rfl rfl (L.nil k0)) ?_
          exact A.on (hO _ _ _ n1) (Le.mk [(0, 0)] hm rfl ⟨⟨_, rfl, rfl⟩, ⟨_, rfl, rfl⟩, ⟨_, rfl, rfl⟩, ⟨_, rfl, rfl⟩, trivial⟩ trivial ⟨⟨_, _, rfl, rfl, rfl⟩, trivial⟩)
        exact hI _ _ _ (A.on (hO _ _ _ n0) (Le.mk [(0, 0)] hm rfl ⟨⟨_, rfl, rfl⟩, ⟨_, rfl, rfl⟩, ⟨_, rfl, rfl⟩, trivial⟩ trivial ⟨⟨_, _, rfl, rfl, rfl⟩, trivial⟩))
      · replace H := condF hc H
        refine WpC.exit ?_
        refine WpC.seq ?_
        refine WpC.regionL ?_
        refine L.assign hF rfl rfl rfl ?_
        refine L.nil ?_
        refine WpC.ret ?_
        cases H
        exact Leaves.ret rfl rfl rfl ⟨rfl, rfl⟩
/-! ### Fimpl_rises -/
def Fimpl_rises.l2 : Nat → (List Int) → Int → Option Bool
  | 0, _, _ => none
  | k2 + 1, v29, v30 => cond (decide (v30 < (v29.length : Int))) ((at? v29 (IntKind.i64.wrap (v30 - (1 : Int)))).bind fun b33 => (at? v29 v30).bind fun b34 => cond (decide (b33 ≥ b34)) (some false) ((Fimpl_rises.l2 k2) v29 (IntKind.i64.wrap (v30 + (1 : Int))))) (some true)
def Fimpl_rises (k : Nat) (a0 : List Int) : Option Bool := Fimpl_rises.l2 k a0 (1 : Int)
theorem ent171 : Enters Try.prog 171 := ⟨Try.f171, Try.func171, rfl, by decide⟩
set_option maxHeartbeats 8000000 in
set_option maxRecDepth 100000 in
theorem Fimpl_rises_gives (k : Nat) (g0 : Bool) (a0 : List Int) (r : Bool) (H : Fimpl_rises k a0 = some r) : Gives Try.prog 171 [V.one (Cell.sl g0 (List.map eI a0))] [] [V.one (cL r)] [] := by
  refine Gives.intro Try.func171 rfl rfl rfl rfl ?_
  intro F hF hm
  unfold Fimpl_rises at H
  obtain ⟨K, hK⟩ : ∃ K, k ≤ K := ⟨k, Nat.le_refl k⟩
  refine WpC.seq ?_
  refine WpC.regionL ?_
  refine L.assign hF rfl rfl rfl ?_
  refine L.nil ?_
  refine WpC.seq ?_
  refine WpC.seq ?_
  refine WpC.regionL ?_
  refine L.assign hF rfl rfl rfl ?_
  refine L.nil ?_
  refine WpC.block ?_
  refine WpC.loopL (P := Try.prog) (fun n σ => ∃ v29 : List Int, ∃ v30 : Int, n ≤ K ∧ Fimpl_rises.l2 n v29 v30 = some r ∧ σ = mkSt [(0, one (Cell.sl g0 (List.map eI v29))), (3, one (cI v30))] [] [] 0) k ⟨_, ⟨a0, (1 : Int), by omega, H, rfl⟩, Le.mk [] hm rfl ⟨⟨_, rfl, rfl⟩, ⟨_, rfl, rfl⟩, trivial⟩ trivial trivial⟩ ?_
  clear H
  rintro k2 _ ⟨v29, v30, hk2, H, rfl⟩
  cases k2 with
  | zero => cases H
  | succ k2 =>
    rw [Fimpl_rises.l2] at H
    refine WpC.seq ?_
    refine WpC.seq ?_
    refine WpC.regionL ?_
    refine L.move hF rfl rfl rfl ?_
    refine L.move hF rfl rfl rfl ?_
    refine L.lenR (xs := v29) (e := eI) Try.underlying77 hF rfl rfl rfl rfl ?_
    refine L.bin hF rfl rfl rfl rfl rfl rfl ?_
    refine L.nil ?_
    refine WpC.cond rfl (fun hc => ?_) (fun hc => ?_)
    · replace H := condT hc H
      refine WpC.skip ?_
      refine WpC.seq ?_
      refine WpC.block ?_
      refine WpC.seq ?_
      refine S.begin mixed (by kernel_rfl) ?_
      refine S.st 0 rfl rfl ((Ca.move).quiet) (fun Q0 k0 => L.move hF rfl rfl rfl (L.nil k0)) ?_
      refine S.st 1 rfl rfl ((Ca.move).quiet) (fun Q0 k0 => L.move hF rfl rfl rfl (L.nil k0)) ?_
      refine S.st 2 rfl rfl ((Ca.bin rfl rfl (calm_int _ _ _ _ _ _ _ _)).quiet) (fun Q0 k0 => L.bin hF rfl rfl rfl rfl rfl rfl (L.nil k0)) ?_
      obtain ⟨b33, hb33, H⟩ := bindS H
      refine S.st 3 rfl rfl ((Ca.indexAddr).quiet) (fun Q0 k0 => L.idxR (xs := v29) (e := eI) Try.underlying77 info3 hF rfl rfl rfl rfl rfl hb33 rfl rfl (L.nil k0)) ?_
      refine S.st 4 rfl rfl (Qu.load) (fun Q0 k0 => L.loadPe shape3 hF rfl rfl rfl rfl rfl (L.nil k0)) ?_
      refine S.st 5 rfl rfl ((Ca.move).quiet) (fun Q0 k0 => L.move hF rfl rfl rfl (L.nil k0)) ?_
      refine S.st 6 rfl rfl ((Ca.move).quiet) (fun Q0 k0 => L.move hF rfl rfl rfl (L.nil k0)) ?_
      obtain ⟨b34, hb34, H⟩ := bindS H
      refine S.st 7 rfl rfl ((Ca.indexAddr).quiet) (fun Q0 k0 => L.idxR (xs := v29) (e := eI) Try.underlying77 info3 hF rfl rfl rfl rfl rfl hb34 rfl rfl (L.nil k0)) ?_
      refine S.st 8 rfl rfl (Qu.load) (fun Q0 k0 => L.loadPe shape3 hF rfl rfl rfl rfl rfl (L.nil k0)) ?_
      refine S.st 9 rfl rfl ((Ca.bin rfl rfl (calm_int _ _ _ _ _ _ _ _)).quiet) (fun Q0 k0 => L.bin hF rfl rfl rfl rfl rfl rfl (L.nil k0)) ?_
      refine S.nil ?_
      refine WpC.cond rfl (fun hc => ?_) (fun hc => ?_)
      · replace H := condT hc H
        refine WpC.seq ?_
        refine WpC.regionL ?_
        refine L.assign hF rfl rfl rfl ?_
        refine L.nil ?_
        refine WpC.ret ?_
        cases H
        exact Leaves.ret rfl rfl rfl ⟨rfl, rfl⟩
      · replace H := condF hc H
        refine WpC.skip ?_
        refine WpC.regionL ?_
        refine L.move hF rfl rfl rfl ?_
        refine L.bin hF rfl rfl rfl rfl rfl rfl ?_
        refine L.assign hF rfl rfl rfl ?_
        refine L.nil ?_
        exact ⟨k2, _, by omega, ⟨v29, (IntKind.i64.wrap (v30 + (1 : Int))), by omega, H, rfl⟩, Le.mk [] hm rfl ⟨⟨_, rfl, rfl⟩, ⟨_, rfl, rfl⟩, trivial⟩ trivial trivial⟩
    · replace H := condF hc H
      refine WpC.exit ?_
      refine WpC.seq ?_
      refine WpC.regionL ?_
      refine L.assign hF rfl rfl rfl ?_
      refine L.nil ?_
      refine WpC.ret ?_
      cases H
      exact Leaves.ret rfl rfl rfl ⟨rfl, rfl⟩
/-! ### Fimpl_within -/
def Fimpl_within (k : Nat) (a0 : Int) (a1 : Int) (a2 : Int) : Option Bool := cond (decide (a0 ≥ a1)) (some (decide (a0 ≤ a2))) (some false)
theorem ent93 : Enters Try.prog 93 := ⟨Try.f93, Try.func93, rfl, by decide⟩
set_option maxHeartbeats 8000000 in
set_option maxRecDepth 100000 in
theorem Fimpl_within_gives (k : Nat) (a0 : Int) (a1 : Int) (a2 : Int) (r : Bool) (H : Fimpl_within k a0 a1 a2 = some r) : Gives Try.prog 93 [V.one (cI a0), V.one (cI a1), V.one (cI a2)] [] [V.one (cL r)] [] := by
  refine Gives.intro Try.func93 rfl rfl rfl rfl ?_
  intro F hF hm
  unfold Fimpl_within at H
  obtain ⟨K, hK⟩ : ∃ K, k ≤ K := ⟨k, Nat.le_refl k⟩
  refine WpC.seq ?_
  refine WpC.regionL ?_
  refine L.assign hF rfl rfl rfl ?_
  refine L.nil ?_
  refine WpC.seq ?_
  refine WpC.regionL ?_
  refine L.move hF rfl rfl rfl ?_
  refine L.move hF rfl rfl rfl ?_
  refine L.bin hF rfl rfl rfl rfl rfl rfl ?_
  refine L.move hF rfl rfl rfl ?_
  refine L.split (fun hc => ?_) (fun hc => ?_)
  · replace H := condT hc H
    refine L.move hF rfl rfl rfl ?_
    refine L.move hF rfl rfl rfl ?_
    refine L.bin hF rfl rfl rfl rfl rfl rfl ?_
    refine L.pick hF rfl rfl rfl rfl ?_
    refine L.assign hF rfl rfl rfl ?_
    refine L.nil ?_
    refine WpC.ret ?_
    cases H
    exact Leaves.ret rfl rfl rfl ⟨rfl, rfl⟩
  · replace H := condF hc H
    refine L.off hF rfl rfl ?_
    refine L.off hF rfl rfl ?_
    refine L.off hF rfl rfl ?_
    refine L.pick hF rfl rfl rfl rfl ?_
    refine L.assign hF rfl rfl rfl ?_
    refine L.nil ?_
    refine WpC.ret ?_
    cases H
    exact Leaves.ret rfl rfl rfl ⟨rfl, rfl⟩
/-! ### Fimpl_areSet_1 -/
def Fimpl_areSet_1 (k : Nat) (a0 : Int) : Option Bool := (Fimpl_within k a0 (0 : Int) (30 : Int)).bind fun r1 => some r1
theorem ent173 : Enters Try.prog 173 := ⟨Try.f173, Try.func173, rfl, by decide⟩
set_option maxHeartbeats 8000000 in
set_option maxRecDepth 100000 in
theorem Fimpl_areSet_1_gives (k : Nat) (a0 : Int) (r : Bool) (H : Fimpl_areSet_1 k a0 = some r) : Gives Try.prog 173 [V.one (cI a0)] [] [V.one (cL r)] [] := by
  refine Gives.intro Try.func173 rfl rfl rfl rfl ?_
  intro F hF hm
  unfold Fimpl_areSet_1 at H
  obtain ⟨K, hK⟩ : ∃ K, k ≤ K := ⟨k, Nat.le_refl k⟩
  refine WpC.seq ?_
  refine WpC.regionL ?_
  refine L.assign hF rfl rfl rfl ?_
  refine L.nil ?_
  refine WpC.seq ?_
  refine WpC.regionL ?_
  refine L.move hF rfl rfl rfl ?_
  obtain ⟨r1, hr1, H⟩ := bindS H
  refine L.call [false, false, false] [] [] 1 hF rfl rfl rfl ent93 rfl rfl rfl rfl rfl (Fimpl_within_gives k  a0 (0 : Int) (30 : Int) r1 hr1) rfl ?_
  refine L.assign hF rfl rfl rfl ?_
  refine L.nil ?_
  refine WpC.ret ?_
  cases H
  exact Leaves.ret rfl rfl rfl ⟨rfl, rfl⟩
/-! ### Fimpl_areAll__impl_areSet_1 -/
def Fimpl_areAll__impl_areSet_1.l2 : Nat → (List Int) → Int → Int → Int → Option Bool
  | 0, _, _, _, _ => none
  | k2 + 1, v39, v40, v41, v42 => cond (decide (v42 < v41)) ((at? v39 v42).bind fun b45 => (Fimpl_areSet_1 k2 b45).bind fun r46 => cond (!r46) (some false) ((Fimpl_areAll__impl_areSet_1.l2 k2) v39 v40 v41 (IntKind.i64.wrap (v42 + (1 : Int))))) (some (decide ((v39.length : Int) ≤ v40)))
def Fimpl_areAll__impl_areSet_1 (k : Nat) (a0 : List Int) (a1 : Int) : Option Bool := Fimpl_areAll__impl_areSet_1.l2 k a0 a1 (a0.length : Int) (0 : Int)
theorem ent172 : Enters Try.prog 172 := ⟨Try.f172, Try.func172, rfl, by decide⟩
set_option maxHeartbeats 8000000 in
set_option maxRecDepth 100000 in
theorem Fimpl_areAll__impl_areSet_1_gives (k : Nat) (g0 : Bool) (a0 : List Int) (a1 : Int) (r : Bool) (H : Fimpl_areAll__impl_areSet_1 k a0 a1 = some r) : Gives Try.prog 172 [V.one (Cell.sl g0 (List.map eI a0)), V.one (cI a1), V.one (Cell.clo 173 [])] [] [V.one (cL r)] [] := by
  refine Gives.intro Try.func172 rfl rfl rfl rfl ?_
  intro F hF hm
  unfold Fimpl_areAll__impl_areSet_1 at H
  obtain ⟨K, hK⟩ : ∃ K, k ≤ K := ⟨k, Nat.le_refl k⟩
  refine WpC.seq ?_
  refine WpC.regionL ?_
  refine L.assign hF rfl rfl rfl ?_
  refine L.nil ?_
  refine WpC.seq ?_
  refine WpC.seq ?_
  refine WpC.regionL ?_
  refine L.move hF rfl rfl rfl ?_
  refine L.lenR (xs := a0) (e := eI) Try.underlying77 hF rfl rfl rfl rfl ?_
  refine L.move hF rfl rfl rfl ?_
  refine L.nil ?_
  refine WpC.block ?_
  refine WpC.loopL (P := Try.prog) (fun n σ => ∃ v39 : List Int, ∃ v40 : Int, ∃ v41 : Int, ∃ v42 : Int, n ≤ K ∧ Fimpl_areAll__impl_areSet_1.l2 n v39 v40 v41 v42 = some r ∧ σ = mkSt [(0, one (Cell.sl g0 (List.map eI v39))), (1, one (cI v40)), (2, one (Cell.clo 173 [])), (9, one (Cell.sl g0 (List.map eI v39))), (10, one (cI v41)), (11, one (cI v42))] [] [] 0) k ⟨_, ⟨a0, a1, (a0.length : Int), (0 : Int), by omega, H, rfl⟩, Le.mk [] hm rfl ⟨⟨_, rfl, rfl⟩, ⟨_, rfl, rfl⟩, ⟨_, rfl, rfl⟩, ⟨_, rfl, rfl⟩, ⟨_, rfl, rfl⟩, ⟨_, rfl, rfl⟩, trivial⟩ trivial trivial⟩ ?_
  clear H
  rintro k2 _ ⟨v39, v40, v41, v42, hk2, H, rfl⟩
  cases k2 with
  | zero => cases H
  | succ k2 =>
    rw [Fimpl_areAll__impl_areSet_1.l2] at H
    refine WpC.seq ?_
    refine WpC.regionL ?_
    refine L.bin hF rfl rfl rfl rfl rfl rfl ?_
    refine L.nil ?_
    refine WpC.seq ?_
    refine WpC.cond rfl (fun hc => ?_) (fun hc => ?_)
    · replace H := condT hc H
      refine WpC.skip ?_
      refine WpC.seq ?_
      refine WpC.block ?_
      refine WpC.seq ?_
      refine WpC.regionL ?_
      obtain ⟨b45, hb45, H⟩ := bindS H
      refine L.idxR (xs := v39) (e := eI) Try.underlying77 info3 hF rfl rfl rfl rfl rfl hb45 rfl rfl ?_
      refine L.loadPe shape3 hF rfl rfl rfl rfl rfl ?_
      refine L.assign hF rfl rfl rfl ?_
      refine L.nil ?_
      refine WpC.seq ?_
      refine WpC.regionL ?_
      refine L.move hF rfl rfl rfl ?_
      refine L.move hF rfl rfl rfl ?_
      obtain ⟨r46, hr46, H⟩ := bindS H
      refine L.call [false] [] [] 0 hF rfl rfl rfl ent173 rfl rfl rfl rfl rfl (Fimpl_areSet_1_gives k2  b45 r46 hr46) rfl ?_
      refine L.not hF rfl rfl rfl ?_
      refine L.nil ?_
      refine WpC.cond rfl (fun hc => ?_) (fun hc => ?_)
      · replace H := condT hc H
        refine WpC.seq ?_
        refine WpC.regionL ?_
        refine L.assign hF rfl rfl rfl ?_
        refine L.nil ?_
        refine WpC.ret ?_
        cases H
        exact Leaves.ret rfl rfl rfl ⟨rfl, rfl⟩
      · replace H := condF hc H
        refine WpC.skip ?_
        refine WpC.regionL ?_
        refine L.bin hF rfl rfl rfl rfl rfl rfl ?_
        refine L.move hF rfl rfl rfl ?_
        refine L.nil ?_
        exact ⟨k2, _, by omega, ⟨v39, v40, v41, (IntKind.i64.wrap (v42 + (1 : Int))), by omega, H, rfl⟩, Le.mk [] hm rfl ⟨⟨_, rfl, rfl⟩, ⟨_, rfl, rfl⟩, ⟨_, rfl, rfl⟩, ⟨_, rfl, rfl⟩, ⟨_, rfl, rfl⟩, ⟨_, rfl, rfl⟩, trivial⟩ trivial trivial⟩
    · replace H := condF hc H
      refine WpC.exit ?_
      refine WpC.seq ?_
      refine WpC.regionL ?_
      refine L.move hF rfl rfl rfl ?_
      refine L.lenR (xs := v39) (e := eI) Try.underlying77 hF rfl rfl rfl rfl ?_
      refine L.move hF rfl rfl rfl ?_
      refine L.bin hF rfl rfl rfl rfl rfl rfl ?_
      refine L.assign hF rfl rfl rfl ?_
      refine L.nil ?_
      refine WpC.ret ?_
      cases H
      exact Leaves.ret rfl rfl rfl ⟨rfl, rfl⟩
/-! ### Fimpl_areSet -/
def Fimpl_areSet (k : Nat) (a0 : List Int) : Option Bool := (Fimpl_rises k a0).bind fun r3 => cond r3 ((Fimpl_areAll__impl_areSet_1 k a0 (31 : Int)).bind fun r4 => some r4) (some false)
theorem ent156 : Enters Try.prog 156 := ⟨Try.f156, Try.func156, rfl, by decide⟩
set_option maxHeartbeats 8000000 in
set_option maxRecDepth 100000 in
theorem Fimpl_areSet_gives (k : Nat) (g0 : Bool) (a0 : List Int) (r : Bool) (H : Fimpl_areSet k a0 = some r) : Gives Try.prog 156 [V.one (Cell.sl g0 (List.map eI a0))] [] [V.one (cL r)] [] := by
  refine Gives.intro Try.func156 rfl rfl rfl rfl ?_
  intro F hF hm
  unfold Fimpl_areSet at H
  obtain ⟨K, hK⟩ : ∃ K, k ≤ K := ⟨k, Nat.le_refl k⟩
  refine WpC.seq ?_
  refine WpC.regionL ?_
  refine L.assign hF rfl rfl rfl ?_
  refine L.nil ?_
  refine WpC.seq ?_
  refine WpC.regionL ?_
  refine L.move hF rfl rfl rfl ?_
  obtain ⟨r3, hr3, H⟩ := bindS H
  refine L.call [false] [] [] 1 hF rfl rfl rfl ent171 rfl rfl rfl rfl rfl (Fimpl_rises_gives k g0 a0 r3 hr3) rfl ?_
  refine L.move hF rfl rfl rfl ?_
  refine L.split (fun hc => ?_) (fun hc => ?_)
  · replace H := condT hc H
    refine L.move hF rfl rfl rfl ?_
    obtain ⟨r4, hr4, H⟩ := bindS H
    refine L.call [false, false, false] [] [] 2 hF rfl rfl rfl ent172 rfl rfl rfl rfl rfl (Fimpl_areAll__impl_areSet_1_gives k g0 a0 (31 : Int) r4 hr4) rfl ?_
    refine L.pick hF rfl rfl rfl rfl ?_
    refine L.assign hF rfl rfl rfl ?_
    refine L.nil ?_
    refine WpC.ret ?_
    cases H
    exact Leaves.ret rfl rfl rfl ⟨rfl, rfl⟩
  · replace H := condF hc H
    refine L.off hF rfl rfl ?_
    refine L.off hF rfl rfl ?_
    refine L.pick hF rfl rfl rfl rfl ?_
    refine L.assign hF rfl rfl rfl ?_
    refine L.nil ?_
    refine WpC.ret ?_
    cases H
    exact Leaves.ret rfl rfl rfl ⟨rfl, rfl⟩
/-! ### Fimpl_isTime -/
def Fimpl_isTime (k : Nat) (a0 : Int) : Option Bool := (Fimpl_within k a0 (0 : Int) (100000 : Int)).bind fun r1 => some r1
theorem ent157 : Enters Try.prog 157 := ⟨Try.f157, Try.func157, rfl, by decide⟩
set_option maxHeartbeats 8000000 in
set_option maxRecDepth 100000 in
theorem Fimpl_isTime_gives (k : Nat) (a0 : Int) (r : Bool) (H : Fimpl_isTime k a0 = some r) : Gives Try.prog 157 [V.one (cI a0)] [] [V.one (cL r)] [] := by
  refine Gives.intro Try.func157 rfl rfl rfl rfl ?_
  intro F hF hm
  unfold Fimpl_isTime at H
  obtain ⟨K, hK⟩ : ∃ K, k ≤ K := ⟨k, Nat.le_refl k⟩
  refine WpC.seq ?_
  refine WpC.regionL ?_
  refine L.assign hF rfl rfl rfl ?_
  refine L.nil ?_
  refine WpC.seq ?_
  refine WpC.regionL ?_
  refine L.move hF rfl rfl rfl ?_
  obtain ⟨r1, hr1, H⟩ := bindS H
  refine L.call [false, false, false] [] [] 1 hF rfl rfl rfl ent93 rfl rfl rfl rfl rfl (Fimpl_within_gives k  a0 (0 : Int) (100000 : Int) r1 hr1) rfl ?_
  refine L.assign hF rfl rfl rfl ?_
  refine L.nil ?_
  refine WpC.ret ?_
  cases H
  exact Leaves.ret rfl rfl rfl ⟨rfl, rfl⟩
/-! ### Fimpl_ruleOk -/
def Fimpl_ruleOk.j4 (k : Nat) (v19 : Bool) (v20 : Int) (v21 : List Int) (v22 : Int) : Option Bool := cond v19 ((Fimpl_isTime k v22).bind fun r24 => cond r24 (some ((v21.length : Int) == (0 : Int))) (some false)) (some false)
def Fimpl_ruleOk.j3 (k : Nat) (v13 : Int) (v14 : Bool) (v15 : List Int) (v16 : Int) : Option Bool := cond v14 ((Fimpl_areSet k v15).bind fun r18 => cond r18 (some (v16 == (0 : Int))) (some false)) (cond (v13 == (4 : Int)) (Fimpl_ruleOk.j4 k (v13 == (4 : Int)) v13 v15 v16) (Fimpl_ruleOk.j4 k (v13 == (5 : Int)) v13 v15 v16))
def Fimpl_ruleOk (k : Nat) (a0 : Timpl_Rule) : Option Bool := cond (a0.Kind == (1 : Int)) (Fimpl_ruleOk.j3 k a0.Kind (a0.Kind == (1 : Int)) a0.Set a0.N) (cond (a0.Kind == (2 : Int)) (Fimpl_ruleOk.j3 k a0.Kind (a0.Kind == (2 : Int)) a0.Set a0.N) (Fimpl_ruleOk.j3 k a0.Kind (a0.Kind == (3 : Int)) a0.Set a0.N))
theorem ent123 : Enters Try.prog 123 := ⟨Try.f123, Try.func123, rfl, by decide⟩
set_option maxHeartbeats 8000000 in
set_option maxRecDepth 100000 in
theorem Fimpl_ruleOk_gives (k : Nat) (g0 : Bool) (a0 : Timpl_Rule) (r : Bool) (H : Fimpl_ruleOk k a0 = some r) : Gives Try.prog 123 [V.agg [cI a0.Kind, Cell.sl g0 (List.map eI a0.Set), cI a0.N]] [] [V.one (cL r)] [] := by
  refine Gives.intro Try.func123 rfl rfl rfl rfl ?_
  intro F hF hm
  unfold Fimpl_ruleOk at H
  obtain ⟨K, hK⟩ : ∃ K, k ≤ K := ⟨k, Nat.le_refl k⟩
  refine WpC.seq ?_
  refine WpC.regionL ?_
  refine L.box 3 hF rfl rfl rfl rfl ?_
  refine L.assign hF rfl rfl rfl ?_
  refine L.nil ?_
  refine WpC.seq ?_
  refine WpC.seq ?_
  refine WpC.regionL ?_
  refine L.fieldAddr Try.underlying133 rfl info3 rfl hF rfl rfl rfl rfl rfl ?_
  refine L.loadPtr shape3 hF rfl rfl rfl rfl rfl rfl ?_
  refine L.nil ?_
  refine WpC.block ?_
  refine WpC.join (fun σ => ∃ kj3 : Nat, ∃ v13 : Int, ∃ v14 : Bool, ∃ v15 : List Int, ∃ v16 : Int, kj3 ≤ K ∧ Fimpl_ruleOk.j3 kj3 v13 v14 v15 v16 = some r ∧ σ = mkSt [(1, one (Cell.ptr 0 0)), (4, one (cI v13)), (5, one (cL v14))] [] [(0, [cI v13, Cell.sl g0 (List.map eI v15), cI v16])] 1) ?_ ?_
  · rintro _ ⟨kj3, v13, v14, v15, v16, hkj3, H, rfl⟩
    unfold Fimpl_ruleOk.j3 at H
    refine WpC.cond rfl (fun hc => ?_) (fun hc => ?_)
    · replace H := condT hc H
      refine WpC.seq ?_
      refine WpC.regionL ?_
      refine L.fieldAddr Try.underlying133 rfl info77 rfl hF rfl rfl rfl rfl rfl ?_
      refine L.loadPtr shape77 hF rfl rfl rfl rfl rfl rfl ?_
      obtain ⟨r18, hr18, H⟩ := bindS H
      refine L.call [false] [] [] 1 hF rfl rfl rfl ent156 rfl rfl rfl rfl rfl (Fimpl_areSet_gives kj3 g0 v15 r18 hr18) rfl ?_
      refine L.move hF rfl rfl rfl ?_
      refine L.split (fun hc => ?_) (fun hc => ?_)
      · replace H := condT hc H
        refine L.fieldAddr Try.underlying133 rfl info3 rfl hF rfl rfl rfl rfl rfl ?_
        refine L.loadPtr shape3 hF rfl rfl rfl rfl rfl rfl ?_
        refine L.bin hF rfl rfl rfl rfl rfl rfl ?_
        refine L.pick hF rfl rfl rfl rfl ?_
        refine L.assign hF rfl rfl rfl ?_
        refine L.nil ?_
        refine WpC.ret ?_
        cases H
        exact Leaves.ret rfl rfl rfl ⟨rfl, rfl⟩
      · replace H := condF hc H
        refine L.off hF rfl rfl ?_
        refine L.off hF rfl rfl ?_
        refine L.off hF rfl rfl ?_
        refine L.pick hF rfl rfl rfl rfl ?_
        refine L.assign hF rfl rfl rfl ?_
        refine L.nil ?_
        refine WpC.ret ?_
        cases H
        exact Leaves.ret rfl rfl rfl ⟨rfl, rfl⟩
    · replace H := condF hc H
      refine WpC.join (fun σ => ∃ kj4 : Nat, ∃ v19 : Bool, ∃ v20 : Int, ∃ v21 : List Int, ∃ v22 : Int, kj4 ≤ K ∧ Fimpl_ruleOk.j4 kj4 v19 v20 v21 v22 = some r ∧ σ = mkSt [(1, one (Cell.ptr 0 0)), (17, one (cL v19))] [] [(0, [cI v20, Cell.sl g0 (List.map eI v21), cI v22])] 1) ?_ ?_
      · rintro _ ⟨kj4, v19, v20, v21, v22, hkj4, H, rfl⟩
        unfold Fimpl_ruleOk.j4 at H
        refine WpC.cond rfl (fun hc => ?_) (fun hc => ?_)
        · replace H := condT hc H
          refine WpC.seq ?_
          refine WpC.regionL ?_
          refine L.fieldAddr Try.underlying133 rfl info3 rfl hF rfl rfl rfl rfl rfl ?_
          refine L.loadPtr shape3 hF rfl rfl rfl rfl rfl rfl ?_
          obtain ⟨r24, hr24, H⟩ := bindS H
          refine L.call [false] [] [] 1 hF rfl rfl rfl ent157 rfl rfl rfl rfl rfl (Fimpl_isTime_gives kj4  v22 r24 hr24) rfl ?_
          refine L.move hF rfl rfl rfl ?_
          refine L.split (fun hc => ?_) (fun hc => ?_)
          · replace H := condT hc H
            refine L.fieldAddr Try.underlying133 rfl info77 rfl hF rfl rfl rfl rfl rfl ?_
            refine L.loadPtr shape77 hF rfl rfl rfl rfl rfl rfl ?_
            refine L.lenR (xs := v21) (e := eI) Try.underlying77 hF rfl rfl rfl rfl ?_
            refine L.bin hF rfl rfl rfl rfl rfl rfl ?_
            refine L.pick hF rfl rfl rfl rfl ?_
            refine L.assign hF rfl rfl rfl ?_
            refine L.nil ?_
            refine WpC.ret ?_
            cases H
            exact Leaves.ret rfl rfl rfl ⟨rfl, rfl⟩
          · replace H := condF hc H
            refine L.off hF rfl rfl ?_
            refine L.off hF rfl rfl ?_
            refine L.off hF rfl rfl ?_
            refine L.off hF rfl rfl ?_
            refine L.pick hF rfl rfl rfl rfl ?_
            refine L.assign hF rfl rfl rfl ?_
            refine L.nil ?_
            refine WpC.ret ?_
            cases H
            exact Leaves.ret rfl rfl rfl ⟨rfl, rfl⟩
        · replace H := condF hc H
          refine WpC.skip ?_
          refine WpC.seq ?_
          refine WpC.regionL ?_
          refine L.assign hF rfl rfl rfl ?_
          refine L.nil ?_
          refine WpC.ret ?_
          cases H
          exact Leaves.ret rfl rfl rfl ⟨rfl, rfl⟩
      · refine WpC.seq ?_
        refine WpC.regionL ?_
        refine L.bin hF rfl rfl rfl rfl rfl rfl ?_
        refine L.assign hF rfl rfl rfl ?_
        refine L.nil ?_
        refine WpC.cond rfl (fun hc => ?_) (fun hc => ?_)
        · replace H := condT hc H
          refine WpC.skip ?_
          exact ⟨_, ⟨kj3, (v13 == (4 : Int)), v13, v15, v16, by omega, H, rfl⟩, Le.mk [(0, 0)] hm rfl ⟨⟨_, rfl, rfl⟩, ⟨_, rfl, rfl⟩, trivial⟩ trivial ⟨⟨_, _, rfl, rfl, rfl⟩, trivial⟩⟩
        · replace H := condF hc H
          refine WpC.regionL ?_
          refine L.bin hF rfl rfl rfl rfl rfl rfl ?_
          refine L.assign hF rfl rfl rfl ?_
          refine L.nil ?_
          exact ⟨_, ⟨kj3, (v13 == (5 : Int)), v13, v15, v16, by omega, H, rfl⟩, Le.mk [(0, 0)] hm rfl ⟨⟨_, rfl, rfl⟩, ⟨_, rfl, rfl⟩, trivial⟩ trivial ⟨⟨_, _, rfl, rfl, rfl⟩, trivial⟩⟩
  · refine WpC.seq ?_
    refine WpC.regionL ?_
    refine L.bin hF rfl rfl rfl rfl rfl rfl ?_
    refine L.assign hF rfl rfl rfl ?_
    refine L.nil ?_
    refine WpC.cond rfl (fun hc => ?_) (fun hc => ?_)
    · replace H := condT hc H
      refine WpC.skip ?_
      exact ⟨_, ⟨k, a0.Kind, (a0.Kind == (1 : Int)), a0.Set, a0.N, by omega, H, rfl⟩, Le.mk [(0, 3)] hm rfl ⟨⟨_, rfl, rfl⟩, ⟨_, rfl, rfl⟩, ⟨_, rfl, rfl⟩, trivial⟩ trivial ⟨⟨_, _, rfl, rfl, rfl⟩, trivial⟩⟩
    · replace H := condF hc H
      refine WpC.seq ?_
      refine WpC.regionL ?_
      refine L.bin hF rfl rfl rfl rfl rfl rfl ?_
      refine L.assign hF rfl rfl rfl ?_
      refine L.nil ?_
      refine WpC.cond rfl (fun hc => ?_) (fun hc => ?_)
      · replace H := condT hc H
        refine WpC.skip ?_
        exact ⟨_, ⟨k, a0.Kind, (a0.Kind == (2 : Int)), a0.Set, a0.N, by omega, H, rfl⟩, Le.mk [(0, 3)] hm rfl ⟨⟨_, rfl, rfl⟩, ⟨_, rfl, rfl⟩, ⟨_, rfl, rfl⟩, trivial⟩ trivial ⟨⟨_, _, rfl, rfl, rfl⟩, trivial⟩⟩
      · replace H := condF hc H
        refine WpC.regionL ?_
        refine L.bin hF rfl rfl rfl rfl rfl rfl ?_
        refine L.assign hF rfl rfl rfl ?_
        refine L.nil ?_
        exact ⟨_, ⟨k, a0.Kind, (a0.Kind == (3 : Int)), a0.Set, a0.N, by omega, H, rfl⟩, Le.mk [(0, 3)] hm rfl ⟨⟨_, rfl, rfl⟩, ⟨_, rfl, rfl⟩, ⟨_, rfl, rfl⟩, trivial⟩ trivial ⟨⟨_, _, rfl, rfl, rfl⟩, trivial⟩⟩
/-! ### Fimpl_RulesOk_1 -/
def Fimpl_RulesOk_1 (k : Nat) (a0 : Timpl_Rule) : Option Bool := (Fimpl_ruleOk k a0).bind fun r1 => some (!r1)
theorem ent122 : Enters Try.prog 122 := ⟨Try.f122, Try.func122, rfl, by decide⟩
set_option maxHeartbeats 8000000 in
set_option maxRecDepth 100000 in
theorem Fimpl_RulesOk_1_gives (k : Nat) (g0 : Bool) (a0 : Timpl_Rule) (r : Bool) (H : Fimpl_RulesOk_1 k a0 = some r) : Gives Try.prog 122 [V.agg [cI a0.Kind, Cell.sl g0 (List.map eI a0.Set), cI a0.N]] [] [V.one (cL r)] [] := by
  refine Gives.intro Try.func122 rfl rfl rfl rfl ?_
  intro F hF hm
  unfold Fimpl_RulesOk_1 at H
  obtain ⟨K, hK⟩ : ∃ K, k ≤ K := ⟨k, Nat.le_refl k⟩
  refine WpC.seq ?_
  refine WpC.regionL ?_
  refine L.box 3 hF rfl rfl rfl rfl ?_
  refine L.assign hF rfl rfl rfl ?_
  refine L.nil ?_
  refine WpC.seq ?_
  refine WpC.regionL ?_
  refine L.loadPtr shape133 hF rfl rfl rfl rfl rfl rfl ?_
  obtain ⟨r1, hr1, H⟩ := bindS H
  refine L.call [false] [] [] 4 hF rfl rfl rfl ent123 rfl rfl rfl rfl rfl (Fimpl_ruleOk_gives k g0 a0 r1 hr1) rfl ?_
  refine L.not hF rfl rfl rfl ?_
  refine L.assign hF rfl rfl rfl ?_
  refine L.nil ?_
  refine WpC.ret ?_
  cases H
  exact Leaves.ret rfl rfl rfl ⟨rfl, rfl⟩
/-! ### Fslices_IndexFunc_Rule__impl_RulesOk_1 -/
def Fslices_IndexFunc_Rule__impl_RulesOk_1.l2 : Nat → (List Timpl_Rule) → Int → Int → Option Int
  | 0, _, _, _ => none
  | k2 + 1, v34, v35, v36 => cond (decide (v36 < v35)) ((at? v34 v36).bind fun b39 => (Fimpl_RulesOk_1 k2 b39).bind fun r40 => cond r40 (some v36) ((Fslices_IndexFunc_Rule__impl_RulesOk_1.l2 k2) v34 v35 (IntKind.i64.wrap (v36 + (1 : Int))))) (some (-1 : Int))
def Fslices_IndexFunc_Rule__impl_RulesOk_1 (k : Nat) (a0 : List Timpl_Rule) : Option Int := Fslices_IndexFunc_Rule__impl_RulesOk_1.l2 k a0 (a0.length : Int) (0 : Int)
theorem ent155 : Enters Try.prog 155 := ⟨Try.f155, Try.func155, rfl, by decide⟩
set_option maxHeartbeats 8000000 in
set_option maxRecDepth 100000 in
theorem Fslices_IndexFunc_Rule__impl_RulesOk_1_gives (k : Nat) (g0 : Bool) (a0 : List Timpl_Rule) (r : Int) (H : Fslices_IndexFunc_Rule__impl_RulesOk_1 k a0 = some r) : Gives Try.prog 155 [V.one (Cell.sl g0 (List.map eTimpl_Rule a0)), V.one (Cell.clo 122 [])] [] [V.one (cI r)] [] := by
  refine Gives.intro Try.func155 rfl rfl rfl rfl ?_
  intro F hF hm
  unfold Fslices_IndexFunc_Rule__impl_RulesOk_1 at H
  obtain ⟨K, hK⟩ : ∃ K, k ≤ K := ⟨k, Nat.le_refl k⟩
  refine WpC.seq ?_
  refine WpC.regionL ?_
  refine L.assign hF rfl rfl rfl ?_
  refine L.nil ?_
  refine WpC.seq ?_
  refine WpC.seq ?_
  refine WpC.regionL ?_
  refine L.move hF rfl rfl rfl ?_
  refine L.lenR (xs := a0) (e := eTimpl_Rule) Try.underlying71 hF rfl rfl rfl rfl ?_
  refine L.move hF rfl rfl rfl ?_
  refine L.nil ?_
  refine WpC.block ?_
  refine WpC.loopL (P := Try.prog) (fun n σ => ∃ v34 : List Timpl_Rule, ∃ v35 : Int, ∃ v36 : Int, n ≤ K ∧ Fslices_IndexFunc_Rule__impl_RulesOk_1.l2 n v34 v35 v36 = some r ∧ σ = mkSt [(0, one (Cell.sl g0 (List.map eTimpl_Rule v34))), (1, one (Cell.clo 122 [])), (7, one (cI v35)), (8, one (cI v36))] [] [] 0) k ⟨_, ⟨a0, (a0.length : Int), (0 : Int), by omega, H, rfl⟩, Le.mk [] hm rfl ⟨⟨_, rfl, rfl⟩, ⟨_, rfl, rfl⟩, ⟨_, rfl, rfl⟩, ⟨_, rfl, rfl⟩, trivial⟩ trivial trivial⟩ ?_
  clear H
  rintro k2 _ ⟨v34, v35, v36, hk2, H, rfl⟩
  cases k2 with
  | zero => cases H
  | succ k2 =>
    rw [Fslices_IndexFunc_Rule__impl_RulesOk_1.l2] at H
    refine WpC.seq ?_
    refine WpC.regionL ?_
    refine L.bin hF rfl rfl rfl rfl rfl rfl ?_
    refine L.nil ?_
    refine WpC.seq ?_
    refine WpC.cond rfl (fun hc => ?_) (fun hc => ?_)
    · replace H := condT hc H
      refine WpC.skip ?_
      refine WpC.seq ?_
      refine WpC.block ?_
      refine WpC.seq ?_
      refine WpC.regionL ?_
      refine L.move hF rfl rfl rfl ?_
      refine L.assign hF rfl rfl rfl ?_
      refine L.nil ?_
      refine WpC.seq ?_
      refine WpC.regionL ?_
      refine L.move hF rfl rfl rfl ?_
      refine L.move hF rfl rfl rfl ?_
      refine L.move hF rfl rfl rfl ?_
      obtain ⟨b39, hb39, H⟩ := bindS H
      refine L.idxR (xs := v34) (e := eTimpl_Rule) Try.underlying71 info133 hF rfl rfl rfl rfl rfl hb39 rfl rfl ?_
      refine L.loadPe shape133 hF rfl rfl rfl rfl rfl ?_
      obtain ⟨r40, hr40, H⟩ := bindS H
      refine L.call [false] [] [] 0 hF rfl rfl rfl ent122 rfl rfl rfl rfl rfl (Fimpl_RulesOk_1_gives k2 true b39 r40 hr40) rfl ?_
      refine L.nil ?_
      refine WpC.cond rfl (fun hc => ?_) (fun hc => ?_)
      · replace H := condT hc H
        refine WpC.seq ?_
        refine WpC.regionL ?_
        refine L.move hF rfl rfl rfl ?_
        refine L.assign hF rfl rfl rfl ?_
        refine L.nil ?_
        refine WpC.ret ?_
        cases H
        exact Leaves.ret rfl rfl rfl ⟨rfl, rfl⟩
      · replace H := condF hc H
        refine WpC.skip ?_
        refine WpC.regionL ?_
        refine L.bin hF rfl rfl rfl rfl rfl rfl ?_
        refine L.move hF rfl rfl rfl ?_
        refine L.nil ?_
        exact ⟨k2, _, by omega, ⟨v34, v35, (IntKind.i64.wrap (v36 + (1 : Int))), by omega, H, rfl⟩, Le.mk [] hm rfl ⟨⟨_, rfl, rfl⟩, ⟨_, rfl, rfl⟩, ⟨_, rfl, rfl⟩, ⟨_, rfl, rfl⟩, trivial⟩ trivial trivial⟩
    · replace H := condF hc H
      refine WpC.exit ?_
      refine WpC.seq ?_
      refine WpC.regionL ?_
      refine L.assign hF rfl rfl rfl ?_
      refine L.nil ?_
      refine WpC.ret ?_
      cases H
      exact Leaves.ret rfl rfl rfl ⟨rfl, rfl⟩
/-! ### Fslices_ContainsFunc_Rule__impl_RulesOk_1 -/
def Fslices_ContainsFunc_Rule__impl_RulesOk_1 (k : Nat) (a0 : List Timpl_Rule) : Option Bool := (Fslices_IndexFunc_Rule__impl_RulesOk_1 k a0).bind fun r1 => some (decide (r1 ≥ (0 : Int)))
theorem ent121 : Enters Try.prog 121 := ⟨Try.f121, Try.func121, rfl, by decide⟩
set_option maxHeartbeats 8000000 in
set_option maxRecDepth 100000 in
theorem Fslices_ContainsFunc_Rule__impl_RulesOk_1_gives (k : Nat) (g0 : Bool) (a0 : List Timpl_Rule) (r : Bool) (H : Fslices_ContainsFunc_Rule__impl_RulesOk_1 k a0 = some r) : Gives Try.prog 121 [V.one (Cell.sl g0 (List.map eTimpl_Rule a0)), V.one (Cell.clo 122 [])] [] [V.one (cL r)] [] := by
  refine Gives.intro Try.func121 rfl rfl rfl rfl ?_
  intro F hF hm
  unfold Fslices_ContainsFunc_Rule__impl_RulesOk_1 at H
  obtain ⟨K, hK⟩ : ∃ K, k ≤ K := ⟨k, Nat.le_refl k⟩
  refine WpC.seq ?_
  refine WpC.regionL ?_
  refine L.assign hF rfl rfl rfl ?_
  refine L.nil ?_
  refine WpC.seq ?_
  refine WpC.regionL ?_
  refine L.move hF rfl rfl rfl ?_
  refine L.move hF rfl rfl rfl ?_
  obtain ⟨r1, hr1, H⟩ := bindS H
  refine L.call [false, false] [] [] 2 hF rfl rfl rfl ent155 rfl rfl rfl rfl rfl (Fslices_IndexFunc_Rule__impl_RulesOk_1_gives k g0 a0 r1 hr1) rfl ?_
  refine L.bin hF rfl rfl rfl rfl rfl rfl ?_
  refine L.assign hF rfl rfl rfl ?_
  refine L.nil ?_
  refine WpC.ret ?_
  cases H
  exact Leaves.ret rfl rfl rfl ⟨rfl, rfl⟩
/-! ### Fimpl_RulesOk -/
def Fimpl_RulesOk (k : Nat) (a0 : List Timpl_Rule) : Option Bool := cond (decide ((a0.length : Int) ≤ (20 : Int))) ((Fslices_ContainsFunc_Rule__impl_RulesOk_1 k a0).bind fun r2 => some (!r2)) (some false)
theorem ent64 : Enters Try.prog 64 := ⟨Try.f64, Try.func64, rfl, by decide⟩
set_option maxHeartbeats 8000000 in
set_option maxRecDepth 100000 in
theorem Fimpl_RulesOk_gives (k : Nat) (g0 : Bool) (a0 : List Timpl_Rule) (r : Bool) (H : Fimpl_RulesOk k a0 = some r) : Gives Try.prog 64 [V.one (Cell.sl g0 (List.map eTimpl_Rule a0))] [] [V.one (cL r)] [] := by
  refine Gives.intro Try.func64 rfl rfl rfl rfl ?_
  intro F hF hm
  unfold Fimpl_RulesOk at H
  obtain ⟨K, hK⟩ : ∃ K, k ≤ K := ⟨k, Nat.le_refl k⟩
  refine WpC.seq ?_
  refine WpC.regionL ?_
  refine L.assign hF rfl rfl rfl ?_
  refine L.nil ?_
  refine WpC.seq ?_
  refine WpC.regionL ?_
  refine L.move hF rfl rfl rfl ?_
  refine L.lenR (xs := a0) (e := eTimpl_Rule) Try.underlying71 hF rfl rfl rfl rfl ?_
  refine L.bin hF rfl rfl rfl rfl rfl rfl ?_
  refine L.move hF rfl rfl rfl ?_
  refine L.split (fun hc => ?_) (fun hc => ?_)
  · replace H := condT hc H
    refine L.move hF rfl rfl rfl ?_
    obtain ⟨r2, hr2, H⟩ := bindS H
    refine L.call [false, false] [] [] 1 hF rfl rfl rfl ent121 rfl rfl rfl rfl rfl (Fslices_ContainsFunc_Rule__impl_RulesOk_1_gives k g0 a0 r2 hr2) rfl ?_
    refine L.not hF rfl rfl rfl ?_
    refine L.pick hF rfl rfl rfl rfl ?_
    refine L.assign hF rfl rfl rfl ?_
    refine L.nil ?_
    refine WpC.ret ?_
    cases H
    exact Leaves.ret rfl rfl rfl ⟨rfl, rfl⟩
  · replace H := condF hc H
    refine L.off hF rfl rfl ?_
    refine L.off hF rfl rfl ?_
    refine L.off hF rfl rfl ?_
    refine L.pick hF rfl rfl rfl rfl ?_
    refine L.assign hF rfl rfl rfl ?_
    refine L.nil ?_
    refine WpC.ret ?_
    cases H
    exact Leaves.ret rfl rfl rfl ⟨rfl, rfl⟩
/-! ### Fslices_Index_int -/
def Fslices_Index_int.l2 : Nat → (List Int) → Int → Int → Int → Option Int
  | 0, _, _, _, _ => none
  | k2 + 1, v29, v30, v31, v32 => cond (decide (v32 < v31)) ((at? v29 v32).bind fun b34 => cond (v30 == b34) (some v32) ((Fslices_Index_int.l2 k2) v29 v30 v31 (IntKind.i64.wrap (v32 + (1 : Int))))) (some (-1 : Int))
def Fslices_Index_int (k : Nat) (a0 : List Int) (a1 : Int) : Option Int := Fslices_Index_int.l2 k a0 a1 (a0.length : Int) (0 : Int)
theorem ent180 : Enters Try.prog 180 := ⟨Try.f180, Try.func180, rfl, by decide⟩
set_option maxHeartbeats 8000000 in
set_option maxRecDepth 100000 in
theorem Fslices_Index_int_gives (k : Nat) (g0 : Bool) (a0 : List Int) (a1 : Int) (r : Int) (H : Fslices_Index_int k a0 a1 = some r) : Gives Try.prog 180 [V.one (Cell.sl g0 (List.map eI a0)), V.one (cI a1)] [] [V.one (cI r)] [] := by
  refine Gives.intro Try.func180 rfl rfl rfl rfl ?_
  intro F hF hm
  unfold Fslices_Index_int at H
  obtain ⟨K, hK⟩ : ∃ K, k ≤ K := ⟨k, Nat.le_refl k⟩
  refine WpC.seq ?_
  refine WpC.regionL ?_
  refine L.assign hF rfl rfl rfl ?_
  refine L.nil ?_
  refine WpC.seq ?_
  refine WpC.seq ?_
  refine WpC.regionL ?_
  refine L.move hF rfl rfl rfl ?_
  refine L.lenR (xs := a0) (e := eI) Try.underlying77 hF rfl rfl rfl rfl ?_
  refine L.move hF rfl rfl rfl ?_
  refine L.nil ?_
  refine WpC.block ?_
  refine WpC.loopL (P := Try.prog) (fun n σ => ∃ v29 : List Int, ∃ v30 : Int, ∃ v31 : Int, ∃ v32 : Int, n ≤ K ∧ Fslices_Index_int.l2 n v29 v30 v31 v32 = some r ∧ σ = mkSt [(0, one (Cell.sl g0 (List.map eI v29))), (1, one (cI v30)), (7, one (cI v31)), (8, one (cI v32))] [] [] 0) k ⟨_, ⟨a0, a1, (a0.length : Int), (0 : Int), by omega, H, rfl⟩, Le.mk [] hm rfl ⟨⟨_, rfl, rfl⟩, ⟨_, rfl, rfl⟩, ⟨_, rfl, rfl⟩, ⟨_, rfl, rfl⟩, trivial⟩ trivial trivial⟩ ?_
  clear H
  rintro k2 _ ⟨v29, v30, v31, v32, hk2, H, rfl⟩
  cases k2 with
  | zero => cases H
  | succ k2 =>
    rw [Fslices_Index_int.l2] at H
    refine WpC.seq ?_
    refine WpC.regionL ?_
    refine L.bin hF rfl rfl rfl rfl rfl rfl ?_
    refine L.nil ?_
    refine WpC.seq ?_
    refine WpC.cond rfl (fun hc => ?_) (fun hc => ?_)
    · replace H := condT hc H
      refine WpC.skip ?_
      refine WpC.seq ?_
      refine WpC.block ?_
      refine WpC.seq ?_
      refine WpC.regionL ?_
      refine L.move hF rfl rfl rfl ?_
      refine L.assign hF rfl rfl rfl ?_
      refine L.nil ?_
      refine WpC.seq ?_
      refine WpC.regionL ?_
      refine L.move hF rfl rfl rfl ?_
      refine L.move hF rfl rfl rfl ?_
      refine L.move hF rfl rfl rfl ?_
      obtain ⟨b34, hb34, H⟩ := bindS H
      refine L.idxR (xs := v29) (e := eI) Try.underlying77 info3 hF rfl rfl rfl rfl rfl hb34 rfl rfl ?_
      refine L.loadPe shape3 hF rfl rfl rfl rfl rfl ?_
      refine L.bin hF rfl rfl rfl rfl rfl rfl ?_
      refine L.nil ?_
      refine WpC.cond rfl (fun hc => ?_) (fun hc => ?_)
      · replace H := condT hc H
        refine WpC.seq ?_
        refine WpC.regionL ?_
        refine L.move hF rfl rfl rfl ?_
        refine L.assign hF rfl rfl rfl ?_
        refine L.nil ?_
        refine WpC.ret ?_
        cases H
        exact Leaves.ret rfl rfl rfl ⟨rfl, rfl⟩
      · replace H := condF hc H
        refine WpC.skip ?_
        refine WpC.regionL ?_
        refine L.bin hF rfl rfl rfl rfl rfl rfl ?_
        refine L.move hF rfl rfl rfl ?_
        refine L.nil ?_
        exact ⟨k2, _, by omega, ⟨v29, v30, v31, (IntKind.i64.wrap (v32 + (1 : Int))), by omega, H, rfl⟩, Le.mk [] hm rfl ⟨⟨_, rfl, rfl⟩, ⟨_, rfl, rfl⟩, ⟨_, rfl, rfl⟩, ⟨_, rfl, rfl⟩, trivial⟩ trivial trivial⟩
    · replace H := condF hc H
      refine WpC.exit ?_
      refine WpC.seq ?_
      refine WpC.regionL ?_
      refine L.assign hF rfl rfl rfl ?_
      refine L.nil ?_
      refine WpC.ret ?_
      cases H
      exact Leaves.ret rfl rfl rfl ⟨rfl, rfl⟩
/-! ### Fslices_Contains_int -/
def Fslices_Contains_int (k : Nat) (a0 : List Int) (a1 : Int) : Option Bool := (Fslices_Index_int k a0 a1).bind fun r1 => some (decide (r1 ≥ (0 : Int)))
theorem ent167 : Enters Try.prog 167 := ⟨Try.f167, Try.func167, rfl, by decide⟩
set_option maxHeartbeats 8000000 in
set_option maxRecDepth 100000 in
theorem Fslices_Contains_int_gives (k : Nat) (g0 : Bool) (a0 : List Int) (a1 : Int) (r : Bool) (H : Fslices_Contains_int k a0 a1 = some r) : Gives Try.prog 167 [V.one (Cell.sl g0 (List.map eI a0)), V.one (cI a1)] [] [V.one (cL r)] [] := by
  refine Gives.intro Try.func167 rfl rfl rfl rfl ?_
  intro F hF hm
  unfold Fslices_Contains_int at H
  obtain ⟨K, hK⟩ : ∃ K, k ≤ K := ⟨k, Nat.le_refl k⟩
  refine WpC.seq ?_
  refine WpC.regionL ?_
  refine L.assign hF rfl rfl rfl ?_
  refine L.nil ?_
  refine WpC.seq ?_
  refine WpC.regionL ?_
  refine L.move hF rfl rfl rfl ?_
  refine L.move hF rfl rfl rfl ?_
  obtain ⟨r1, hr1, H⟩ := bindS H
  refine L.call [false, false] [] [] 2 hF rfl rfl rfl ent180 rfl rfl rfl rfl rfl (Fslices_Index_int_gives k g0 a0 a1 r1 hr1) rfl ?_
  refine L.bin hF rfl rfl rfl rfl rfl rfl ?_
  refine L.assign hF rfl rfl rfl ?_
  refine L.nil ?_
  refine WpC.ret ?_
  cases H
  exact Leaves.ret rfl rfl rfl ⟨rfl, rfl⟩
/-! ### Fimpl_Rule_allows_1 -/
def Fimpl_Rule_allows_1 (k : Nat) (a0 : Int) (o0 : Timpl_Ask) : Option Bool := (Fslices_Contains_int k o0.Groups a0).bind fun r1 => some (!r1)
theorem ent169 : Enters Try.prog 169 := ⟨Try.f169, Try.func169, rfl, by decide⟩
set_option maxHeartbeats 8000000 in
set_option maxRecDepth 100000 in
theorem Fimpl_Rule_allows_1_gives (k : Nat) (a0 : Int) (o0 : Timpl_Ask) (r : Bool) (H : Fimpl_Rule_allows_1 k a0 o0 = some r) : Gives Try.prog 169 [V.one (cI a0), V.one (Cell.ptr 0 0)] [[cI o0.Server, cI o0.Op, Cell.sl true (List.map eI o0.Groups), cI o0.Now, cI o0.Used]] [V.one (cL r)] [[cI o0.Server, cI o0.Op, Cell.sl true (List.map eI o0.Groups), cI o0.Now, cI o0.Used]] := by
  refine Gives.intro Try.func169 rfl rfl rfl rfl ?_
  intro F hF hm
  unfold Fimpl_Rule_allows_1 at H
  obtain ⟨K, hK⟩ : ∃ K, k ≤ K := ⟨k, Nat.le_refl k⟩
  refine WpC.seq ?_
  refine WpC.regionL ?_
  refine L.assign hF rfl rfl rfl ?_
  refine L.nil ?_
  refine WpC.seq ?_
  refine WpC.regionL ?_
  refine L.fieldAddr Try.underlying92 rfl info77 rfl hF rfl rfl rfl rfl rfl ?_
  refine L.loadPtr shape77 hF rfl rfl rfl rfl rfl rfl ?_
  refine L.move hF rfl rfl rfl ?_
  obtain ⟨r1, hr1, H⟩ := bindS H
  refine L.call [false, false] [] [] 8 hF rfl rfl rfl ent167 rfl rfl rfl rfl rfl (Fslices_Contains_int_gives k true o0.Groups a0 r1 hr1) rfl ?_
  refine L.not hF rfl rfl rfl ?_
  refine L.assign hF rfl rfl rfl ?_
  refine L.nil ?_
  refine WpC.ret ?_
  cases H
  exact Leaves.ret rfl rfl rfl ⟨rfl, rfl⟩
/-! ### Fslices_IndexFunc_int__impl_Rule_allows_1 -/
def Fslices_IndexFunc_int__impl_Rule_allows_1.l2 : Nat → (List Int) → Int → Int → Int → Int → (List Int) → Int → Int → Option (Int × Timpl_Ask)
  | 0, _, _, _, _, _, _, _, _ => none
  | k2 + 1, v59, v60, v61, v62, v63, v64, v65, v66 => cond (decide (v61 < v60)) ((at? v59 v61).bind fun b69 => (Fimpl_Rule_allows_1 k2 b69 (⟨v62, v63, v64, v65, v66⟩ : Timpl_Ask)).bind fun r70 => cond r70 (some (v61, (⟨v62, v63, v64, v65, v66⟩ : Timpl_Ask))) ((Fslices_IndexFunc_int__impl_Rule_allows_1.l2 k2) v59 v60 (IntKind.i64.wrap (v61 + (1 : Int))) v62 v63 v64 v65 v66)) (some ((-1 : Int), (⟨v62, v63, v64, v65, v66⟩ : Timpl_Ask)))
def Fslices_IndexFunc_int__impl_Rule_allows_1 (k : Nat) (a0 : List Int) (o0 : Timpl_Ask) : Option (Int × Timpl_Ask) := Fslices_IndexFunc_int__impl_Rule_allows_1.l2 k a0 (a0.length : Int) (0 : Int) o0.Server o0.Op o0.Groups o0.Now o0.Used
theorem ent181 : Enters Try.prog 181 := ⟨Try.f181, Try.func181, rfl, by decide⟩
set_option maxHeartbeats 8000000 in
set_option maxRecDepth 100000 in
theorem Fslices_IndexFunc_int__impl_Rule_allows_1_gives (k : Nat) (g0 : Bool) (a0 : List Int) (o0 : Timpl_Ask) (r : Int × Timpl_Ask) (H : Fslices_IndexFunc_int__impl_Rule_allows_1 k a0 o0 = some r) : Gives Try.prog 181 [V.one (Cell.sl g0 (List.map eI a0)), V.one (Cell.clo 169 [Cell.ptr 0 0])] [[cI o0.Server, cI o0.Op, Cell.sl true (List.map eI o0.Groups), cI o0.Now, cI o0.Used]] [V.one (cI r.1)] [[cI r.2.Server, cI r.2.Op, Cell.sl true (List.map eI r.2.Groups), cI r.2.Now, cI r.2.Used]] := by
  refine Gives.intro Try.func181 rfl rfl rfl rfl ?_
  intro F hF hm
  unfold Fslices_IndexFunc_int__impl_Rule_allows_1 at H
  obtain ⟨K, hK⟩ : ∃ K, k ≤ K := ⟨k, Nat.le_refl k⟩
  refine WpC.seq ?_
  refine WpC.regionL ?_
  refine L.assign hF rfl rfl rfl ?_
  refine L.nil ?_
  refine WpC.seq ?_
  refine WpC.seq ?_
  refine WpC.regionL ?_
  refine L.move hF rfl rfl rfl ?_
  refine L.lenR (xs := a0) (e := eI) Try.underlying77 hF rfl rfl rfl rfl ?_
  refine L.move hF rfl rfl rfl ?_
  refine L.nil ?_
  refine WpC.block ?_
  refine WpC.loopL (P := Try.prog) (fun n σ => ∃ v59 : List Int, ∃ v60 : Int, ∃ v61 : Int, ∃ v62 : Int, ∃ v63 : Int, ∃ v64 : List Int, ∃ v65 : Int, ∃ v66 : Int, n ≤ K ∧ Fslices_IndexFunc_int__impl_Rule_allows_1.l2 n v59 v60 v61 v62 v63 v64 v65 v66 = some r ∧ σ = mkSt [(0, one (Cell.sl g0 (List.map eI v59))), (1, one (Cell.clo 169 [Cell.ptr 0 0])), (7, one (cI v60)), (8, one (cI v61))] [] [(0, [cI v62, cI v63, Cell.sl true (List.map eI v64), cI v65, cI v66])] 1) k ⟨_, ⟨a0, (a0.length : Int), (0 : Int), o0.Server, o0.Op, o0.Groups, o0.Now, o0.Used, by omega, H, rfl⟩, Le.mk [(0, 0)] hm rfl ⟨⟨_, rfl, rfl⟩, ⟨_, rfl, rfl⟩, ⟨_, rfl, rfl⟩, ⟨_, rfl, rfl⟩, trivial⟩ trivial ⟨⟨_, _, rfl, rfl, rfl⟩, trivial⟩⟩ ?_
  clear H
  rintro k2 _ ⟨v59, v60, v61, v62, v63, v64, v65, v66, hk2, H, rfl⟩
  cases k2 with
  | zero => cases H
  | succ k2 =>
    rw [Fslices_IndexFunc_int__impl_Rule_allows_1.l2] at H
    refine WpC.seq ?_
    refine WpC.regionL ?_
    refine L.bin hF rfl rfl rfl rfl rfl rfl ?_
    refine L.nil ?_
    refine WpC.seq ?_
    refine WpC.cond rfl (fun hc => ?_) (fun hc => ?_)
    · replace H := condT hc H
      refine WpC.skip ?_
      refine WpC.seq ?_
      refine WpC.block ?_
      refine WpC.seq ?_
      refine WpC.regionL ?_
      refine L.move hF rfl rfl rfl ?_
      refine L.assign hF rfl rfl rfl ?_
      refine L.nil ?_
      refine WpC.seq ?_
      refine WpC.regionL ?_
      refine L.move hF rfl rfl rfl ?_
      refine L.move hF rfl rfl rfl ?_
      refine L.move hF rfl rfl rfl ?_
      obtain ⟨b69, hb69, H⟩ := bindS H
      refine L.idxR (xs := v59) (e := eI) Try.underlying77 info3 hF rfl rfl rfl rfl rfl hb69 rfl rfl ?_
      refine L.loadPe shape3 hF rfl rfl rfl rfl rfl ?_
      obtain ⟨r70, hr70, H⟩ := bindS H
      refine L.call [false] [] [0] 1 hF rfl rfl rfl ent169 rfl rfl rfl rfl rfl (Fimpl_Rule_allows_1_gives k2  b69 (⟨v62, v63, v64, v65, v66⟩ : Timpl_Ask) r70 hr70) rfl ?_
      refine L.nil ?_
      refine WpC.cond rfl (fun hc => ?_) (fun hc => ?_)
      · replace H := condT hc H
        refine WpC.seq ?_
        refine WpC.regionL ?_
        refine L.move hF rfl rfl rfl ?_
        refine L.assign hF rfl rfl rfl ?_
        refine L.nil ?_
        refine WpC.ret ?_
        cases H
        exact Leaves.ret rfl rfl rfl ⟨rfl, rfl⟩
      · replace H := condF hc H
        refine WpC.skip ?_
        refine WpC.regionL ?_
        refine L.bin hF rfl rfl rfl rfl rfl rfl ?_
        refine L.move hF rfl rfl rfl ?_
        refine L.nil ?_
        exact ⟨k2, _, by omega, ⟨v59, v60, (IntKind.i64.wrap (v61 + (1 : Int))), v62, v63, v64, v65, v66, by omega, H, rfl⟩, Le.mk [(0, 0)] hm rfl ⟨⟨_, rfl, rfl⟩, ⟨_, rfl, rfl⟩, ⟨_, rfl, rfl⟩, ⟨_, rfl, rfl⟩, trivial⟩ trivial ⟨⟨_, _, rfl, rfl, rfl⟩, trivial⟩⟩
    · replace H := condF hc H
      refine WpC.exit ?_
      refine WpC.seq ?_
      refine WpC.regionL ?_
      refine L.assign hF rfl rfl rfl ?_
      refine L.nil ?_
      refine WpC.ret ?_
      cases H
      exact Leaves.ret rfl rfl rfl ⟨rfl, rfl⟩
/-! ### Fslices_ContainsFunc_int__impl_Rule_allows_1 -/
def Fslices_ContainsFunc_int__impl_Rule_allows_1 (k : Nat) (a0 : List Int) (o0 : Timpl_Ask) : Option (Bool × Timpl_Ask) := (Fslices_IndexFunc_int__impl_Rule_allows_1 k a0 o0).bind fun r1 => some ((decide (r1.1 ≥ (0 : Int))), r1.2)
theorem ent168 : Enters Try.prog 168 := ⟨Try.f168, Try.func168, rfl, by decide⟩
set_option maxHeartbeats 8000000 in
set_option maxRecDepth 100000 in
theorem Fslices_ContainsFunc_int__impl_Rule_allows_1_gives (k : Nat) (g0 : Bool) (a0 : List Int) (o0 : Timpl_Ask) (r : Bool × Timpl_Ask) (H : Fslices_ContainsFunc_int__impl_Rule_allows_1 k a0 o0 = some r) : Gives Try.prog 168 [V.one (Cell.sl g0 (List.map eI a0)), V.one (Cell.clo 169 [Cell.ptr 0 0])] [[cI o0.Server, cI o0.Op, Cell.sl true (List.map eI o0.Groups), cI o0.Now, cI o0.Used]] [V.one (cL r.1)] [[cI r.2.Server, cI r.2.Op, Cell.sl true (List.map eI r.2.Groups), cI r.2.Now, cI r.2.Used]] := by
  refine Gives.intro Try.func168 rfl rfl rfl rfl ?_
  intro F hF hm
  unfold Fslices_ContainsFunc_int__impl_Rule_allows_1 at H
  obtain ⟨K, hK⟩ : ∃ K, k ≤ K := ⟨k, Nat.le_refl k⟩
  refine WpC.seq ?_
  refine WpC.regionL ?_
  refine L.assign hF rfl rfl rfl ?_
  refine L.nil ?_
  refine WpC.seq ?_
  refine WpC.regionL ?_
  refine L.move hF rfl rfl rfl ?_
  refine L.move hF rfl rfl rfl ?_
  obtain ⟨r1, hr1, H⟩ := bindS H
  refine L.call [false, false] [] [0] 8 hF rfl rfl rfl ent181 rfl rfl rfl rfl rfl (Fslices_IndexFunc_int__impl_Rule_allows_1_gives k g0 a0 o0 r1 hr1) rfl ?_
  refine L.bin hF rfl rfl rfl rfl rfl rfl ?_
  refine L.assign hF rfl rfl rfl ?_
  refine L.nil ?_
  refine WpC.ret ?_
  cases H
  exact Leaves.ret rfl rfl rfl ⟨rfl, rfl⟩
/-! ### Fimpl_Rule_allows -/
def Fimpl_Rule_allows (k : Nat) (a0 : Timpl_Rule) (a1 : Timpl_Ask) : Option Bool := cond (a0.Kind == (1 : Int)) ((Fslices_Contains_int k a0.Set a1.Server).bind fun r4 => some r4) (cond (a0.Kind == (2 : Int)) ((Fslices_Contains_int k a0.Set a1.Op).bind fun r5 => some r5) (cond (a0.Kind == (3 : Int)) ((Fslices_ContainsFunc_int__impl_Rule_allows_1 k a0.Set a1).bind fun r6 => some (!r6.1)) (cond (a0.Kind == (4 : Int)) (some (decide (a1.Now ≤ a0.N))) (some (decide (a1.Used < a0.N))))))
theorem ent139 : Enters Try.prog 139 := ⟨Try.f139, Try.func139, rfl, by decide⟩
set_option maxHeartbeats 8000000 in
set_option maxRecDepth 100000 in
theorem Fimpl_Rule_allows_gives (k : Nat) (g0 : Bool) (a0 : Timpl_Rule) (a1 : Timpl_Ask) (r : Bool) (H : Fimpl_Rule_allows k a0 a1 = some r) : Gives Try.prog 139 [V.agg [cI a0.Kind, Cell.sl g0 (List.map eI a0.Set), cI a0.N], V.agg [cI a1.Server, cI a1.Op, Cell.sl true (List.map eI a1.Groups), cI a1.Now, cI a1.Used]] [] [V.one (cL r)] [] := by
  refine Gives.intro Try.func139 rfl rfl rfl rfl ?_
  intro F hF hm
  unfold Fimpl_Rule_allows at H
  obtain ⟨K, hK⟩ : ∃ K, k ≤ K := ⟨k, Nat.le_refl k⟩
  refine WpC.seq ?_
  refine WpC.regionL ?_
  refine L.box 8 hF rfl rfl rfl rfl ?_
  refine L.box 9 hF rfl rfl rfl rfl ?_
  refine L.assign hF rfl rfl rfl ?_
  refine L.nil ?_
  refine WpC.seq ?_
  refine WpC.seq ?_
  refine WpC.regionL ?_
  refine L.fieldAddr Try.underlying133 rfl info3 rfl hF rfl rfl rfl rfl rfl ?_
  refine L.loadPtr shape3 hF rfl rfl rfl rfl rfl rfl ?_
  refine L.nil ?_
  refine WpC.block ?_
  refine WpC.seq ?_
  refine WpC.regionL ?_
  refine L.bin hF rfl rfl rfl rfl rfl rfl ?_
  refine L.assign hF rfl rfl rfl ?_
  refine L.nil ?_
  refine WpC.cond rfl (fun hc => ?_) (fun hc => ?_)
  · replace H := condT hc H
    refine WpC.seq ?_
    refine WpC.regionL ?_
    refine L.fieldAddr Try.underlying133 rfl info77 rfl hF rfl rfl rfl rfl rfl ?_
    refine L.loadPtr shape77 hF rfl rfl rfl rfl rfl rfl ?_
    refine L.fieldAddr Try.underlying92 rfl info3 rfl hF rfl rfl rfl rfl rfl ?_
    refine L.loadPtr shape3 hF rfl rfl rfl rfl rfl rfl ?_
    obtain ⟨r4, hr4, H⟩ := bindS H
    refine L.call [false, false] [] [] 10 hF rfl rfl rfl ent167 rfl rfl rfl rfl rfl (Fslices_Contains_int_gives k g0 a0.Set a1.Server r4 hr4) rfl ?_
    refine L.assign hF rfl rfl rfl ?_
    refine L.nil ?_
    refine WpC.ret ?_
    cases H
    exact Leaves.ret rfl rfl rfl ⟨rfl, rfl⟩
  · replace H := condF hc H
    refine WpC.seq ?_
    refine WpC.regionL ?_
    refine L.bin hF rfl rfl rfl rfl rfl rfl ?_
    refine L.assign hF rfl rfl rfl ?_
    refine L.nil ?_
    refine WpC.cond rfl (fun hc => ?_) (fun hc => ?_)
    · replace H := condT hc H
      refine WpC.seq ?_
      refine WpC.regionL ?_
      refine L.fieldAddr Try.underlying133 rfl info77 rfl hF rfl rfl rfl rfl rfl ?_
      refine L.loadPtr shape77 hF rfl rfl rfl rfl rfl rfl ?_
      refine L.fieldAddr Try.underlying92 rfl info3 rfl hF rfl rfl rfl rfl rfl ?_
      refine L.loadPtr shape3 hF rfl rfl rfl rfl rfl rfl ?_
      obtain ⟨r5, hr5, H⟩ := bindS H
      refine L.call [false, false] [] [] 10 hF rfl rfl rfl ent167 rfl rfl rfl rfl rfl (Fslices_Contains_int_gives k g0 a0.Set a1.Op r5 hr5) rfl ?_
      refine L.assign hF rfl rfl rfl ?_
      refine L.nil ?_
      refine WpC.ret ?_
      cases H
      exact Leaves.ret rfl rfl rfl ⟨rfl, rfl⟩
    · replace H := condF hc H
      refine WpC.seq ?_
      refine WpC.regionL ?_
      refine L.bin hF rfl rfl rfl rfl rfl rfl ?_
      refine L.assign hF rfl rfl rfl ?_
      refine L.nil ?_
      refine WpC.cond rfl (fun hc => ?_) (fun hc => ?_)
      · replace H := condT hc H
        refine WpC.seq ?_
        refine WpC.regionL ?_
        refine L.fieldAddr Try.underlying133 rfl info77 rfl hF rfl rfl rfl rfl rfl ?_
        refine L.loadPtr shape77 hF rfl rfl rfl rfl rfl rfl ?_
        refine L.makeFunc hF rfl rfl rfl ?_
        obtain ⟨r6, hr6, H⟩ := bindS H
        refine L.call [false, false] [] [9] 10 hF rfl rfl rfl ent168 rfl rfl rfl rfl rfl (Fslices_ContainsFunc_int__impl_Rule_allows_1_gives k g0 a0.Set a1 r6 hr6) rfl ?_
        refine L.not hF rfl rfl rfl ?_
        refine L.assign hF rfl rfl rfl ?_
        refine L.nil ?_
        refine WpC.ret ?_
        cases H
        exact Leaves.ret rfl rfl rfl ⟨rfl, rfl⟩
      · replace H := condF hc H
        refine WpC.seq ?_
        refine WpC.regionL ?_
        refine L.bin hF rfl rfl rfl rfl rfl rfl ?_
        refine L.assign hF rfl rfl rfl ?_
        refine L.nil ?_
        refine WpC.cond rfl (fun hc => ?_) (fun hc => ?_)
        · replace H := condT hc H
          refine WpC.seq ?_
          refine WpC.regionL ?_
          refine L.fieldAddr Try.underlying92 rfl info3 rfl hF rfl rfl rfl rfl rfl ?_
          refine L.loadPtr shape3 hF rfl rfl rfl rfl rfl rfl ?_
          refine L.fieldAddr Try.underlying133 rfl info3 rfl hF rfl rfl rfl rfl rfl ?_
          refine L.loadPtr shape3 hF rfl rfl rfl rfl rfl rfl ?_
          refine L.bin hF rfl rfl rfl rfl rfl rfl ?_
          refine L.assign hF rfl rfl rfl ?_
          refine L.nil ?_
          refine WpC.ret ?_
          cases H
          exact Leaves.ret rfl rfl rfl ⟨rfl, rfl⟩
        · replace H := condF hc H
          refine WpC.skip ?_
          refine WpC.seq ?_
          refine WpC.regionL ?_
          refine L.fieldAddr Try.underlying92 rfl info3 rfl hF rfl rfl rfl rfl rfl ?_
          refine L.loadPtr shape3 hF rfl rfl rfl rfl rfl rfl ?_
          refine L.fieldAddr Try.underlying133 rfl info3 rfl hF rfl rfl rfl rfl rfl ?_
          refine L.loadPtr shape3 hF rfl rfl rfl rfl rfl rfl ?_
          refine L.bin hF rfl rfl rfl rfl rfl rfl ?_
          refine L.assign hF rfl rfl rfl ?_
          refine L.nil ?_
          refine WpC.ret ?_
          cases H
          exact Leaves.ret rfl rfl rfl ⟨rfl, rfl⟩
/-! ### Fimpl_Allows_1 -/
def Fimpl_Allows_1 (k : Nat) (a0 : Timpl_Rule) (o0 : Timpl_Ask) : Option Bool := (Fimpl_Rule_allows k a0 o0).bind fun r1 => some (!r1)
theorem ent138 : Enters Try.prog 138 := ⟨Try.f138, Try.func138, rfl, by decide⟩
set_option maxHeartbeats 8000000 in
set_option maxRecDepth 100000 in
theorem Fimpl_Allows_1_gives (k : Nat) (g0 : Bool) (a0 : Timpl_Rule) (o0 : Timpl_Ask) (r : Bool) (H : Fimpl_Allows_1 k a0 o0 = some r) : Gives Try.prog 138 [V.agg [cI a0.Kind, Cell.sl g0 (List.map eI a0.Set), cI a0.N], V.one (Cell.ptr 0 0)] [[cI o0.Server, cI o0.Op, Cell.sl true (List.map eI o0.Groups), cI o0.Now, cI o0.Used]] [V.one (cL r)] [[cI o0.Server, cI o0.Op, Cell.sl true (List.map eI o0.Groups), cI o0.Now, cI o0.Used]] := by
  refine Gives.intro Try.func138 rfl rfl rfl rfl ?_
  intro F hF hm
  unfold Fimpl_Allows_1 at H
  obtain ⟨K, hK⟩ : ∃ K, k ≤ K := ⟨k, Nat.le_refl k⟩
  refine WpC.seq ?_
  refine WpC.regionL ?_
  refine L.box 10 hF rfl rfl rfl rfl ?_
  refine L.assign hF rfl rfl rfl ?_
  refine L.nil ?_
  refine WpC.seq ?_
  refine WpC.regionL ?_
  refine L.loadPtr shape133 hF rfl rfl rfl rfl rfl rfl ?_
  refine L.loadPtr shape92 hF rfl rfl rfl rfl rfl rfl ?_
  obtain ⟨r1, hr1, H⟩ := bindS H
  refine L.call [false, false] [] [] 11 hF rfl rfl rfl ent139 rfl rfl rfl rfl rfl (Fimpl_Rule_allows_gives k g0 a0 o0 r1 hr1) rfl ?_
  refine L.not hF rfl rfl rfl ?_
  refine L.assign hF rfl rfl rfl ?_
  refine L.nil ?_
  refine WpC.ret ?_
  cases H
  exact Leaves.ret rfl rfl rfl ⟨rfl, rfl⟩
/-! ### Fslices_IndexFunc_Rule__impl_Allows_1 -/
def Fslices_IndexFunc_Rule__impl_Allows_1.l2 : Nat → (List Timpl_Rule) → Int → Int → Int → Int → (List Int) → Int → Int → Option (Int × Timpl_Ask)
  | 0, _, _, _, _, _, _, _, _ => none
  | k2 + 1, v59, v60, v61, v62, v63, v64, v65, v66 => cond (decide (v61 < v60)) ((at? v59 v61).bind fun b69 => (Fimpl_Allows_1 k2 b69 (⟨v62, v63, v64, v65, v66⟩ : Timpl_Ask)).bind fun r70 => cond r70 (some (v61, (⟨v62, v63, v64, v65, v66⟩ : Timpl_Ask))) ((Fslices_IndexFunc_Rule__impl_Allows_1.l2 k2) v59 v60 (IntKind.i64.wrap (v61 + (1 : Int))) v62 v63 v64 v65 v66)) (some ((-1 : Int), (⟨v62, v63, v64, v65, v66⟩ : Timpl_Ask)))
def Fslices_IndexFunc_Rule__impl_Allows_1 (k : Nat) (a0 : List Timpl_Rule) (o0 : Timpl_Ask) : Option (Int × Timpl_Ask) := Fslices_IndexFunc_Rule__impl_Allows_1.l2 k a0 (a0.length : Int) (0 : Int) o0.Server o0.Op o0.Groups o0.Now o0.Used
set_option maxHeartbeats 8000000 in
set_option maxRecDepth 100000 in
theorem Fslices_IndexFunc_Rule__impl_Allows_1_gives (k : Nat) (g0 : Bool) (a0 : List Timpl_Rule) (o0 : Timpl_Ask) (r : Int × Timpl_Ask) (H : Fslices_IndexFunc_Rule__impl_Allows_1 k a0 o0 = some r) : Gives Try.prog 155 [V.one (Cell.sl g0 (List.map eTimpl_Rule a0)), V.one (Cell.clo 138 [Cell.ptr 0 0])] [[cI o0.Server, cI o0.Op, Cell.sl true (List.map eI o0.Groups), cI o0.Now, cI o0.Used]] [V.one (cI r.1)] [[cI r.2.Server, cI r.2.Op, Cell.sl true (List.map eI r.2.Groups), cI r.2.Now, cI r.2.Used]] := by
  refine Gives.intro Try.func155 rfl rfl rfl rfl ?_
  intro F hF hm
  unfold Fslices_IndexFunc_Rule__impl_Allows_1 at H
  obtain ⟨K, hK⟩ : ∃ K, k ≤ K := ⟨k, Nat.le_refl k⟩
  refine WpC.seq ?_
  refine WpC.regionL ?_
  refine L.assign hF rfl rfl rfl ?_
  refine L.nil ?_
  refine WpC.seq ?_
  refine WpC.seq ?_
  refine WpC.regionL ?_
  refine L.move hF rfl rfl rfl ?_
  refine L.lenR (xs := a0) (e := eTimpl_Rule) Try.underlying71 hF rfl rfl rfl rfl ?_
  refine L.move hF rfl rfl rfl ?_
  refine L.nil ?_
  refine WpC.block ?_
  refine WpC.loopL (P := Try.prog) (fun n σ => ∃ v59 : List Timpl_Rule, ∃ v60 : Int, ∃ v61 : Int, ∃ v62 : Int, ∃ v63 : Int, ∃ v64 : List Int, ∃ v65 : Int, ∃ v66 : Int, n ≤ K ∧ Fslices_IndexFunc_Rule__impl_Allows_1.l2 n v59 v60 v61 v62 v63 v64 v65 v66 = some r ∧ σ = mkSt [(0, one (Cell.sl g0 (List.map eTimpl_Rule v59))), (1, one (Cell.clo 138 [Cell.ptr 0 0])), (7, one (cI v60)), (8, one (cI v61))] [] [(0, [cI v62, cI v63, Cell.sl true (List.map eI v64), cI v65, cI v66])] 1) k ⟨_, ⟨a0, (a0.length : Int), (0 : Int), o0.Server, o0.Op, o0.Groups, o0.Now, o0.Used, by omega, H, rfl⟩, Le.mk [(0, 0)] hm rfl ⟨⟨_, rfl, rfl⟩, ⟨_, rfl, rfl⟩, ⟨_, rfl, rfl⟩, ⟨_, rfl, rfl⟩, trivial⟩ trivial ⟨⟨_, _, rfl, rfl, rfl⟩, trivial⟩⟩ ?_
  clear H
  rintro k2 _ ⟨v59, v60, v61, v62, v63, v64, v65, v66, hk2, H, rfl⟩
  cases k2 with
  | zero => cases H
  | succ k2 =>
    rw [Fslices_IndexFunc_Rule__impl_Allows_1.l2] at H
    refine WpC.seq ?_
    refine WpC.regionL ?_
    refine L.bin hF rfl rfl rfl rfl rfl rfl ?_
    refine L.nil ?_
    refine WpC.seq ?_
    refine WpC.cond rfl (fun hc => ?_) (fun hc => ?_)
    · replace H := condT hc H
      refine WpC.skip ?_
      refine WpC.seq ?_
      refine WpC.block ?_
      refine WpC.seq ?_
      refine WpC.regionL ?_
      refine L.move hF rfl rfl rfl ?_
      refine L.assign hF rfl rfl rfl ?_
      refine L.nil ?_
      refine WpC.seq ?_
      refine WpC.regionL ?_
      refine L.move hF rfl rfl rfl ?_
      refine L.move hF rfl rfl rfl ?_
      refine L.move hF rfl rfl rfl ?_
      obtain ⟨b69, hb69, H⟩ := bindS H
      refine L.idxR (xs := v59) (e := eTimpl_Rule) Try.underlying71 info133 hF rfl rfl rfl rfl rfl hb69 rfl rfl ?_
      refine L.loadPe shape133 hF rfl rfl rfl rfl rfl ?_
      obtain ⟨r70, hr70, H⟩ := bindS H
      refine L.call [false] [] [0] 1 hF rfl rfl rfl ent138 rfl rfl rfl rfl rfl (Fimpl_Allows_1_gives k2 true b69 (⟨v62, v63, v64, v65, v66⟩ : Timpl_Ask) r70 hr70) rfl ?_
      refine L.nil ?_
      refine WpC.cond rfl (fun hc => ?_) (fun hc => ?_)
      · replace H := condT hc H
        refine WpC.seq ?_
        refine WpC.regionL ?_
        refine L.move hF rfl rfl rfl ?_
        refine L.assign hF rfl rfl rfl ?_
        refine L.nil ?_
        refine WpC.ret ?_
        cases H
        exact Leaves.ret rfl rfl rfl ⟨rfl, rfl⟩
      · replace H := condF hc H
        refine WpC.skip ?_
        refine WpC.regionL ?_
        refine L.bin hF rfl rfl rfl rfl rfl rfl ?_
        refine L.move hF rfl rfl rfl ?_
        refine L.nil ?_
        exact ⟨k2, _, by omega, ⟨v59, v60, (IntKind.i64.wrap (v61 + (1 : Int))), v62, v63, v64, v65, v66, by omega, H, rfl⟩, Le.mk [(0, 0)] hm rfl ⟨⟨_, rfl, rfl⟩, ⟨_, rfl, rfl⟩, ⟨_, rfl, rfl⟩, ⟨_, rfl, rfl⟩, trivial⟩ trivial ⟨⟨_, _, rfl, rfl, rfl⟩, trivial⟩⟩
    · replace H := condF hc H
      refine WpC.exit ?_
      refine WpC.seq ?_
      refine WpC.regionL ?_
      refine L.assign hF rfl rfl rfl ?_
      refine L.nil ?_
      refine WpC.ret ?_
      cases H
      exact Leaves.ret rfl rfl rfl ⟨rfl, rfl⟩
/-! ### Fslices_ContainsFunc_Rule__impl_Allows_1 -/
def Fslices_ContainsFunc_Rule__impl_Allows_1 (k : Nat) (a0 : List Timpl_Rule) (o0 : Timpl_Ask) : Option (Bool × Timpl_Ask) := (Fslices_IndexFunc_Rule__impl_Allows_1 k a0 o0).bind fun r1 => some ((decide (r1.1 ≥ (0 : Int))), r1.2)
set_option maxHeartbeats 8000000 in
set_option maxRecDepth 100000 in
theorem Fslices_ContainsFunc_Rule__impl_Allows_1_gives (k : Nat) (g0 : Bool) (a0 : List Timpl_Rule) (o0 : Timpl_Ask) (r : Bool × Timpl_Ask) (H : Fslices_ContainsFunc_Rule__impl_Allows_1 k a0 o0 = some r) : Gives Try.prog 121 [V.one (Cell.sl g0 (List.map eTimpl_Rule a0)), V.one (Cell.clo 138 [Cell.ptr 0 0])] [[cI o0.Server, cI o0.Op, Cell.sl true (List.map eI o0.Groups), cI o0.Now, cI o0.Used]] [V.one (cL r.1)] [[cI r.2.Server, cI r.2.Op, Cell.sl true (List.map eI r.2.Groups), cI r.2.Now, cI r.2.Used]] := by
  refine Gives.intro Try.func121 rfl rfl rfl rfl ?_
  intro F hF hm
  unfold Fslices_ContainsFunc_Rule__impl_Allows_1 at H
  obtain ⟨K, hK⟩ : ∃ K, k ≤ K := ⟨k, Nat.le_refl k⟩
  refine WpC.seq ?_
  refine WpC.regionL ?_
  refine L.assign hF rfl rfl rfl ?_
  refine L.nil ?_
  refine WpC.seq ?_
  refine WpC.regionL ?_
  refine L.move hF rfl rfl rfl ?_
  refine L.move hF rfl rfl rfl ?_
  obtain ⟨r1, hr1, H⟩ := bindS H
  refine L.call [false, false] [] [0] 8 hF rfl rfl rfl ent155 rfl rfl rfl rfl rfl (Fslices_IndexFunc_Rule__impl_Allows_1_gives k g0 a0 o0 r1 hr1) rfl ?_
  refine L.bin hF rfl rfl rfl rfl rfl rfl ?_
  refine L.assign hF rfl rfl rfl ?_
  refine L.nil ?_
  refine WpC.ret ?_
  cases H
  exact Leaves.ret rfl rfl rfl ⟨rfl, rfl⟩
/-! ### Fimpl_Allows -/
def Fimpl_Allows (k : Nat) (a0 : List Timpl_Rule) (a1 : Timpl_Ask) : Option Bool := (Fimpl_RulesOk k a0).bind fun r3 => cond r3 ((Fslices_ContainsFunc_Rule__impl_Allows_1 k a0 a1).bind fun r4 => some (!r4.1)) (some false)
theorem ent86 : Enters Try.prog 86 := ⟨Try.f86, Try.func86, rfl, by decide⟩
set_option maxHeartbeats 8000000 in
set_option maxRecDepth 100000 in
theorem Fimpl_Allows_gives (k : Nat) (g0 : Bool) (a0 : List Timpl_Rule) (a1 : Timpl_Ask) (r : Bool) (H : Fimpl_Allows k a0 a1 = some r) : Gives Try.prog 86 [V.one (Cell.sl g0 (List.map eTimpl_Rule a0)), V.agg [cI a1.Server, cI a1.Op, Cell.sl true (List.map eI a1.Groups), cI a1.Now, cI a1.Used]] [] [V.one (cL r)] [] := by
  refine Gives.intro Try.func86 rfl rfl rfl rfl ?_
  intro F hF hm
  unfold Fimpl_Allows at H
  obtain ⟨K, hK⟩ : ∃ K, k ≤ K := ⟨k, Nat.le_refl k⟩
  refine WpC.seq ?_
  refine WpC.regionL ?_
  refine L.box 6 hF rfl rfl rfl rfl ?_
  refine L.assign hF rfl rfl rfl ?_
  refine L.nil ?_
  refine WpC.seq ?_
  refine WpC.regionL ?_
  refine L.move hF rfl rfl rfl ?_
  obtain ⟨r3, hr3, H⟩ := bindS H
  refine L.call [false] [] [] 7 hF rfl rfl rfl ent64 rfl rfl rfl rfl rfl (Fimpl_RulesOk_gives k g0 a0 r3 hr3) rfl ?_
  refine L.move hF rfl rfl rfl ?_
  refine L.split (fun hc => ?_) (fun hc => ?_)
  · replace H := condT hc H
    refine L.move hF rfl rfl rfl ?_
    refine L.makeFunc hF rfl rfl rfl ?_
    obtain ⟨r4, hr4, H⟩ := bindS H
    refine L.call [false, false] [] [6] 8 hF rfl rfl rfl ent121 rfl rfl rfl rfl rfl (Fslices_ContainsFunc_Rule__impl_Allows_1_gives k g0 a0 a1 r4 hr4) rfl ?_
    refine L.not hF rfl rfl rfl ?_
    refine L.pick hF rfl rfl rfl rfl ?_
    refine L.assign hF rfl rfl rfl ?_
    refine L.nil ?_
    refine WpC.ret ?_
    cases H
    exact Leaves.ret rfl rfl rfl ⟨rfl, rfl⟩
  · replace H := condF hc H
    refine L.off hF rfl rfl ?_
    refine L.off hF rfl rfl ?_
    refine L.off hF rfl rfl ?_
    refine L.off hF rfl rfl ?_
    refine L.pick hF rfl rfl rfl rfl ?_
    refine L.assign hF rfl rfl rfl ?_
    refine L.nil ?_
    refine WpC.ret ?_
    cases H
    exact Leaves.ret rfl rfl rfl ⟨rfl, rfl⟩
/-! ### Flaws_eqIntS -/
def Flaws_eqIntS.l2 : Nat → (List Int) → (List Int) → Int → Option Bool
  | 0, _, _, _ => none
  | k2 + 1, v34, v35, v36 => cond (decide (v36 < (v34.length : Int))) ((at? v34 v36).bind fun b39 => (at? v35 v36).bind fun b40 => cond (b39 != b40) (some false) ((Flaws_eqIntS.l2 k2) v34 v35 (IntKind.i64.wrap (v36 + (1 : Int))))) (some true)
def Flaws_eqIntS (k : Nat) (a0 : List Int) (a1 : List Int) : Option Bool := cond ((a0.length : Int) != (a1.length : Int)) (some false) (Flaws_eqIntS.l2 k a0 a1 (0 : Int))
theorem ent72 : Enters Try.prog 72 := ⟨Try.f72, Try.func72, rfl, by decide⟩
set_option maxHeartbeats 8000000 in
set_option maxRecDepth 100000 in
theorem Flaws_eqIntS_gives (k : Nat) (g0 : Bool) (g1 : Bool) (a0 : List Int) (a1 : List Int) (r : Bool) (H : Flaws_eqIntS k a0 a1 = some r) : Gives Try.prog 72 [V.one (Cell.sl g0 (List.map eI a0)), V.one (Cell.sl g1 (List.map eI a1))] [] [V.one (cL r)] [] := by
  refine Gives.intro Try.func72 rfl rfl rfl rfl ?_
  intro F hF hm
  unfold Flaws_eqIntS at H
  obtain ⟨K, hK⟩ : ∃ K, k ≤ K := ⟨k, Nat.le_refl k⟩
  refine WpC.seq ?_
  refine WpC.regionL ?_
  refine L.assign hF rfl rfl rfl ?_
  refine L.nil ?_
  refine WpC.seq ?_
  refine WpC.seq ?_
  refine WpC.regionL ?_
  refine L.move hF rfl rfl rfl ?_
  refine L.lenR (xs := a0) (e := eI) Try.underlying77 hF rfl rfl rfl rfl ?_
  refine L.move hF rfl rfl rfl ?_
  refine L.lenR (xs := a1) (e := eI) Try.underlying77 hF rfl rfl rfl rfl ?_
  refine L.bin hF rfl rfl rfl rfl rfl rfl ?_
  refine L.nil ?_
  refine WpC.cond rfl (fun hc => ?_) (fun hc => ?_)
  · replace H := condT hc H
    refine WpC.seq ?_
    refine WpC.regionL ?_
    refine L.assign hF rfl rfl rfl ?_
    refine L.nil ?_
    refine WpC.ret ?_
    cases H
    exact Leaves.ret rfl rfl rfl ⟨rfl, rfl⟩
  · replace H := condF hc H
    refine WpC.skip ?_
    refine WpC.seq ?_
    refine WpC.seq ?_
    refine WpC.regionL ?_
    refine L.assign hF rfl rfl rfl ?_
    refine L.nil ?_
    refine WpC.block ?_
    refine WpC.loopL (P := Try.prog) (fun n σ => ∃ v34 : List Int, ∃ v35 : List Int, ∃ v36 : Int, n ≤ K ∧ Flaws_eqIntS.l2 n v34 v35 v36 = some r ∧ σ = mkSt [(0, one (Cell.sl g0 (List.map eI v34))), (1, one (Cell.sl g1 (List.map eI v35))), (5, one (cI v36))] [] [] 0) k ⟨_, ⟨a0, a1, (0 : Int), by omega, H, rfl⟩, Le.mk [] hm rfl ⟨⟨_, rfl, rfl⟩, ⟨_, rfl, rfl⟩, ⟨_, rfl, rfl⟩, trivial⟩ trivial trivial⟩ ?_
    clear H
    rintro k2 _ ⟨v34, v35, v36, hk2, H, rfl⟩
    cases k2 with
    | zero => cases H
    | succ k2 =>
      rw [Flaws_eqIntS.l2] at H
      refine WpC.seq ?_
      refine WpC.seq ?_
      refine WpC.regionL ?_
      refine L.move hF rfl rfl rfl ?_
      refine L.move hF rfl rfl rfl ?_
      refine L.lenR (xs := v34) (e := eI) Try.underlying77 hF rfl rfl rfl rfl ?_
      refine L.bin hF rfl rfl rfl rfl rfl rfl ?_
      refine L.nil ?_
      refine WpC.cond rfl (fun hc => ?_) (fun hc => ?_)
      · replace H := condT hc H
        refine WpC.skip ?_
        refine WpC.seq ?_
        refine WpC.block ?_
        refine WpC.seq ?_
        refine S.begin mixed (by kernel_rfl) ?_
        refine S.st 0 rfl rfl ((Ca.move).quiet) (fun Q0 k0 => L.move hF rfl rfl rfl (L.nil k0)) ?_
        refine S.st 1 rfl rfl ((Ca.move).quiet) (fun Q0 k0 => L.move hF rfl rfl rfl (L.nil k0)) ?_
        obtain ⟨b39, hb39, H⟩ := bindS H
        refine S.st 2 rfl rfl ((Ca.indexAddr).quiet) (fun Q0 k0 => L.idxR (xs := v34) (e := eI) Try.underlying77 info3 hF rfl rfl rfl rfl rfl hb39 rfl rfl (L.nil k0)) ?_
        refine S.st 3 rfl rfl (Qu.load) (fun Q0 k0 => L.loadPe shape3 hF rfl rfl rfl rfl rfl (L.nil k0)) ?_
        refine S.st 4 rfl rfl ((Ca.move).quiet) (fun Q0 k0 => L.move hF rfl rfl rfl (L.nil k0)) ?_
        refine S.st 5 rfl rfl ((Ca.move).quiet) (fun Q0 k0 => L.move hF rfl rfl rfl (L.nil k0)) ?_
        obtain ⟨b40, hb40, H⟩ := bindS H
        refine S.st 6 rfl rfl ((Ca.indexAddr).quiet) (fun Q0 k0 => L.idxR (xs := v35) (e := eI) Try.underlying77 info3 hF rfl rfl rfl rfl rfl hb40 rfl rfl (L.nil k0)) ?_
        refine S.st 7 rfl rfl (Qu.load) (fun Q0 k0 => L.loadPe shape3 hF rfl rfl rfl rfl rfl (L.nil k0)) ?_
        refine S.st 8 rfl rfl ((Ca.bin rfl rfl (calm_int _ _ _ _ _ _ _ _)).quiet) (fun Q0 k0 => L.bin hF rfl rfl rfl rfl rfl rfl (L.nil k0)) ?_
        refine S.nil ?_
        refine WpC.cond rfl (fun hc => ?_) (fun hc => ?_)
        · replace H := condT hc H
          refine WpC.seq ?_
          refine WpC.regionL ?_
          refine L.assign hF rfl rfl rfl ?_
          refine L.nil ?_
          refine WpC.ret ?_
          cases H
          exact Leaves.ret rfl rfl rfl ⟨rfl, rfl⟩
        · replace H := condF hc H
          refine WpC.skip ?_
          refine WpC.regionL ?_
          refine L.move hF rfl rfl rfl ?_
          refine L.bin hF rfl rfl rfl rfl rfl rfl ?_
          refine L.assign hF rfl rfl rfl ?_
          refine L.nil ?_
          exact ⟨k2, _, by omega, ⟨v34, v35, (IntKind.i64.wrap (v36 + (1 : Int))), by omega, H, rfl⟩, Le.mk [] hm rfl ⟨⟨_, rfl, rfl⟩, ⟨_, rfl, rfl⟩, ⟨_, rfl, rfl⟩, trivial⟩ trivial trivial⟩
      · replace H := condF hc H
        refine WpC.exit ?_
        refine WpC.seq ?_
        refine WpC.regionL ?_
        refine L.assign hF rfl rfl rfl ?_
        refine L.nil ?_
        refine WpC.ret ?_
        cases H
        exact Leaves.ret rfl rfl rfl ⟨rfl, rfl⟩
/-! ### Flaws_eqRule -/
def Flaws_eqRule (k : Nat) (a0 : Timpl_Rule) (a1 : Timpl_Rule) : Option Bool := cond (a0.Kind != a1.Kind) (some false) ((Flaws_eqIntS k a0.Set a1.Set).bind fun r2 => cond (!r2) (some false) (cond (a0.N != a1.N) (some false) (some true)))
theorem ent124 : Enters Try.prog 124 := ⟨Try.f124, Try.func124, rfl, by decide⟩
set_option maxHeartbeats 8000000 in
set_option maxRecDepth 100000 in
theorem Flaws_eqRule_gives (k : Nat) (g0 : Bool) (g1 : Bool) (a0 : Timpl_Rule) (a1 : Timpl_Rule) (r : Bool) (H : Flaws_eqRule k a0 a1 = some r) : Gives Try.prog 124 [V.agg [cI a0.Kind, Cell.sl g0 (List.map eI a0.Set), cI a0.N], V.agg [cI a1.Kind, Cell.sl g1 (List.map eI a1.Set), cI a1.N]] [] [V.one (cL r)] [] := by
  refine Gives.intro Try.func124 rfl rfl rfl rfl ?_
  intro F hF hm
  unfold Flaws_eqRule at H
  obtain ⟨K, hK⟩ : ∃ K, k ≤ K := ⟨k, Nat.le_refl k⟩
  refine WpC.seq ?_
  refine WpC.regionL ?_
  refine L.box 6 hF rfl rfl rfl rfl ?_
  refine L.box 7 hF rfl rfl rfl rfl ?_
  refine L.assign hF rfl rfl rfl ?_
  refine L.nil ?_
  refine WpC.seq ?_
  refine WpC.seq ?_
  refine WpC.regionL ?_
  refine L.fieldAddr Try.underlying133 rfl info3 rfl hF rfl rfl rfl rfl rfl ?_
  refine L.loadPtr shape3 hF rfl rfl rfl rfl rfl rfl ?_
  refine L.fieldAddr Try.underlying133 rfl info3 rfl hF rfl rfl rfl rfl rfl ?_
  refine L.loadPtr shape3 hF rfl rfl rfl rfl rfl rfl ?_
  refine L.bin hF rfl rfl rfl rfl rfl rfl ?_
  refine L.nil ?_
  refine WpC.cond rfl (fun hc => ?_) (fun hc => ?_)
  · replace H := condT hc H
    refine WpC.seq ?_
    refine WpC.regionL ?_
    refine L.assign hF rfl rfl rfl ?_
    refine L.nil ?_
    refine WpC.ret ?_
    cases H
    exact Leaves.ret rfl rfl rfl ⟨rfl, rfl⟩
  · replace H := condF hc H
    refine WpC.skip ?_
    refine WpC.seq ?_
    refine WpC.seq ?_
    refine WpC.regionL ?_
    refine L.fieldAddr Try.underlying133 rfl info77 rfl hF rfl rfl rfl rfl rfl ?_
    refine L.loadPtr shape77 hF rfl rfl rfl rfl rfl rfl ?_
    refine L.fieldAddr Try.underlying133 rfl info77 rfl hF rfl rfl rfl rfl rfl ?_
    refine L.loadPtr shape77 hF rfl rfl rfl rfl rfl rfl ?_
    obtain ⟨r2, hr2, H⟩ := bindS H
    refine L.call [false, false] [] [] 8 hF rfl rfl rfl ent72 rfl rfl rfl rfl rfl (Flaws_eqIntS_gives k g0 g1 a0.Set a1.Set r2 hr2) rfl ?_
    refine L.not hF rfl rfl rfl ?_
    refine L.nil ?_
    refine WpC.cond rfl (fun hc => ?_) (fun hc => ?_)
    · replace H := condT hc H
      refine WpC.seq ?_
      refine WpC.regionL ?_
      refine L.assign hF rfl rfl rfl ?_
      refine L.nil ?_
      refine WpC.ret ?_
      cases H
      exact Leaves.ret rfl rfl rfl ⟨rfl, rfl⟩
    · replace H := condF hc H
      refine WpC.skip ?_
      refine WpC.seq ?_
      refine WpC.seq ?_
      refine WpC.regionL ?_
      refine L.fieldAddr Try.underlying133 rfl info3 rfl hF rfl rfl rfl rfl rfl ?_
      refine L.loadPtr shape3 hF rfl rfl rfl rfl rfl rfl ?_
      refine L.fieldAddr Try.underlying133 rfl info3 rfl hF rfl rfl rfl rfl rfl ?_
      refine L.loadPtr shape3 hF rfl rfl rfl rfl rfl rfl ?_
      refine L.bin hF rfl rfl rfl rfl rfl rfl ?_
      refine L.nil ?_
      refine WpC.cond rfl (fun hc => ?_) (fun hc => ?_)
      · replace H := condT hc H
        refine WpC.seq ?_
        refine WpC.regionL ?_
        refine L.assign hF rfl rfl rfl ?_
        refine L.nil ?_
        refine WpC.ret ?_
        cases H
        exact Leaves.ret rfl rfl rfl ⟨rfl, rfl⟩
      · replace H := condF hc H
        refine WpC.skip ?_
        refine WpC.seq ?_
        refine WpC.regionL ?_
        refine L.assign hF rfl rfl rfl ?_
        refine L.nil ?_
        refine WpC.ret ?_
        cases H
        exact Leaves.ret rfl rfl rfl ⟨rfl, rfl⟩
/-! ### Flaws_eqRuleS -/
def Flaws_eqRuleS.l2 : Nat → (List Timpl_Rule) → (List Timpl_Rule) → Int → Option Bool
  | 0, _, _, _ => none
  | k2 + 1, v44, v45, v46 => cond (decide (v46 < (v44.length : Int))) ((at? v44 v46).bind fun b50 => (at? v45 v46).bind fun b51 => (Flaws_eqRule k2 b50 b51).bind fun r52 => cond (!r52) (some false) ((Flaws_eqRuleS.l2 k2) v44 v45 (IntKind.i64.wrap (v46 + (1 : Int))))) (some true)
def Flaws_eqRuleS (k : Nat) (a0 : List Timpl_Rule) (a1 : List Timpl_Rule) : Option Bool := cond ((a0.length : Int) != (a1.length : Int)) (some false) (Flaws_eqRuleS.l2 k a0 a1 (0 : Int))
theorem ent65 : Enters Try.prog 65 := ⟨Try.f65, Try.func65, rfl, by decide⟩
set_option maxHeartbeats 8000000 in
set_option maxRecDepth 100000 in
theorem Flaws_eqRuleS_gives (k : Nat) (g0 : Bool) (g1 : Bool) (a0 : List Timpl_Rule) (a1 : List Timpl_Rule) (r : Bool) (H : Flaws_eqRuleS k a0 a1 = some r) : Gives Try.prog 65 [V.one (Cell.sl g0 (List.map eTimpl_Rule a0)), V.one (Cell.sl g1 (List.map eTimpl_Rule a1))] [] [V.one (cL r)] [] := by
  refine Gives.intro Try.func65 rfl rfl rfl rfl ?_
  intro F hF hm
  unfold Flaws_eqRuleS at H
  obtain ⟨K, hK⟩ : ∃ K, k ≤ K := ⟨k, Nat.le_refl k⟩
  refine WpC.seq ?_
  refine WpC.regionL ?_
  refine L.assign hF rfl rfl rfl ?_
  refine L.nil ?_
  refine WpC.seq ?_
  refine WpC.seq ?_
  refine WpC.regionL ?_
  refine L.move hF rfl rfl rfl ?_
  refine L.lenR (xs := a0) (e := eTimpl_Rule) Try.underlying71 hF rfl rfl rfl rfl ?_
  refine L.move hF rfl rfl rfl ?_
  refine L.lenR (xs := a1) (e := eTimpl_Rule) Try.underlying71 hF rfl rfl rfl rfl ?_
  refine L.bin hF rfl rfl rfl rfl rfl rfl ?_
  refine L.nil ?_
  refine WpC.cond rfl (fun hc => ?_) (fun hc => ?_)
  · replace H := condT hc H
    refine WpC.seq ?_
    refine WpC.regionL ?_
    refine L.assign hF rfl rfl rfl ?_
    refine L.nil ?_
    refine WpC.ret ?_
    cases H
    exact Leaves.ret rfl rfl rfl ⟨rfl, rfl⟩
  · replace H := condF hc H
    refine WpC.skip ?_
    refine WpC.seq ?_
    refine WpC.seq ?_
    refine WpC.regionL ?_
    refine L.assign hF rfl rfl rfl ?_
    refine L.nil ?_
    refine WpC.block ?_
    refine WpC.loopL (P := Try.prog) (fun n σ => ∃ v44 : List Timpl_Rule, ∃ v45 : List Timpl_Rule, ∃ v46 : Int, n ≤ K ∧ Flaws_eqRuleS.l2 n v44 v45 v46 = some r ∧ σ = mkSt [(0, one (Cell.sl g0 (List.map eTimpl_Rule v44))), (1, one (Cell.sl g1 (List.map eTimpl_Rule v45))), (5, one (cI v46))] [] [] 0) k ⟨_, ⟨a0, a1, (0 : Int), by omega, H, rfl⟩, Le.mk [] hm rfl ⟨⟨_, rfl, rfl⟩, ⟨_, rfl, rfl⟩, ⟨_, rfl, rfl⟩, trivial⟩ trivial trivial⟩ ?_
    clear H
    rintro k2 _ ⟨v44, v45, v46, hk2, H, rfl⟩
    cases k2 with
    | zero => cases H
    | succ k2 =>
      rw [Flaws_eqRuleS.l2] at H
      refine WpC.seq ?_
      refine WpC.seq ?_
      refine WpC.regionL ?_
      refine L.move hF rfl rfl rfl ?_
      refine L.move hF rfl rfl rfl ?_
      refine L.lenR (xs := v44) (e := eTimpl_Rule) Try.underlying71 hF rfl rfl rfl rfl ?_
      refine L.bin hF rfl rfl rfl rfl rfl rfl ?_
      refine L.nil ?_
      refine WpC.cond rfl (fun hc => ?_) (fun hc => ?_)
      · replace H := condT hc H
        refine WpC.skip ?_
        refine WpC.seq ?_
        refine WpC.block ?_
        refine WpC.seq ?_
        obtain ⟨b50, hb50, H⟩ := bindS H
        obtain ⟨b51, hb51, H⟩ := bindS H
        obtain ⟨r52, hr52, H⟩ := bindS H
        refine A.begin mixed rfl rfl ?_
        intro W hI hO
        have n1023 : W 0 #[true, true, true, true, true, true, true, true, true, true] (mkSt [(0, one (Cell.sl g0 (List.map eTimpl_Rule v44))), (1, one (Cell.sl g1 (List.map eTimpl_Rule v45))), (5, one (cI v46)), (26, one (cL (!r52)))] [] [] 0) := by
          refine hI _ _ _ (A.done (by kernel_rfl) ?_)
          refine WpC.cond rfl (fun hc => ?_) (fun hc => ?_)
          · replace H := condT hc H
            refine WpC.seq ?_
            refine WpC.regionL ?_
            refine L.assign hF rfl rfl rfl ?_
            refine L.nil ?_
            refine WpC.ret ?_
            cases H
            exact Leaves.ret rfl rfl rfl ⟨rfl, rfl⟩
          · replace H := condF hc H
            refine WpC.skip ?_
            refine WpC.regionL ?_
            refine L.move hF rfl rfl rfl ?_
            refine L.bin hF rfl rfl rfl rfl rfl rfl ?_
            refine L.assign hF rfl rfl rfl ?_
            refine L.nil ?_
            exact ⟨k2, _, by omega, ⟨v44, v45, (IntKind.i64.wrap (v46 + (1 : Int))), by omega, H, rfl⟩, Le.mk [] hm rfl ⟨⟨_, rfl, rfl⟩, ⟨_, rfl, rfl⟩, ⟨_, rfl, rfl⟩, trivial⟩ trivial trivial⟩
        have n511 : W 1 #[true, true, true, true, true, true, true, true, true, false] (mkSt [(0, one (Cell.sl g0 (List.map eTimpl_Rule v44))), (1, one (Cell.sl g1 (List.map eTimpl_Rule v45))), (5, one (cI v46)), (25, one (cL r52))] [] [] 0) := by
          refine hI _ _ _ ?_
          refine A.take 9 rfl (by kernel_rfl) (by kernel_rfl) (by kernel_rfl) rfl (Ca.un rfl rfl) (fun Q0 k0 => L.not hF rfl rfl rfl (L.nil k0)) ?_
          exact A.on (hO _ _ _ n1023) (Le.mk [] hm rfl ⟨⟨_, rfl, rfl⟩, ⟨_, rfl, rfl⟩, ⟨_, rfl, rfl⟩, ⟨_, rfl, rfl⟩, trivial⟩ trivial trivial)
        have n255 : W 2 #[true, true, true, true, true, true, true, true, false, false] (mkSt [(0, one (Cell.sl g0 (List.map eTimpl_Rule v44))), (1, one (Cell.sl g1 (List.map eTimpl_Rule v45))), (5, one (cI v46)), (20, agg [cI b50.Kind, Cell.sl true (List.map eI b50.Set), cI b50.N]), (24, agg [cI b51.Kind, Cell.sl true (List.map eI b51.Set), cI b51.N])] [] [] 0) := by
          refine hI _ _ _ ?_
          refine A.all [8] (by kernel_rfl) rfl ⟨⟨_, rfl, ?_⟩, trivial⟩
          · refine L.call [false, false] [] [] 0 hF rfl rfl rfl ent124 rfl rfl rfl rfl rfl (Flaws_eqRule_gives k2 true true b50 b51 r52 hr52) rfl ?_
            refine L.nil ?_
            exact A.on (hO _ _ _ n511) (Le.mk [] hm rfl ⟨⟨_, rfl, rfl⟩, ⟨_, rfl, rfl⟩, ⟨_, rfl, rfl⟩, ⟨_, rfl, rfl⟩, trivial⟩ trivial trivial)
        have n247 : W 3 #[true, true, true, false, true, true, true, true, false, false] (mkSt [(0, one (Cell.sl g0 (List.map eTimpl_Rule v44))), (1, one (Cell.sl g1 (List.map eTimpl_Rule v45))), (5, one (cI v46)), (19, one (Cell.pe g0 (eTimpl_Rule b50) 0)), (24, agg [cI b51.Kind, Cell.sl true (List.map eI b51.Set), cI b51.N])] [] [] 0) := by
          refine hI _ _ _ ?_
          refine A.all [3] (by kernel_rfl) rfl ⟨⟨_, rfl, ?_⟩, trivial⟩
          · refine L.loadPe shape133 hF rfl rfl rfl rfl rfl ?_
            refine L.nil ?_
            exact A.on (hO _ _ _ n255) (Le.mk [] hm rfl ⟨⟨_, rfl, rfl⟩, ⟨_, rfl, rfl⟩, ⟨_, rfl, rfl⟩, ⟨_, rfl, rfl⟩, ⟨_, rfl, rfl⟩, trivial⟩ trivial trivial)
        have n127 : W 3 #[true, true, true, true, true, true, true, false, false, false] (mkSt [(0, one (Cell.sl g0 (List.map eTimpl_Rule v44))), (1, one (Cell.sl g1 (List.map eTimpl_Rule v45))), (5, one (cI v46)), (20, agg [cI b50.Kind, Cell.sl true (List.map eI b50.Set), cI b50.N]), (23, one (Cell.pe g1 (eTimpl_Rule b51) 0))] [] [] 0) := by
          refine hI _ _ _ ?_
          refine A.all [7] (by kernel_rfl) rfl ⟨⟨_, rfl, ?_⟩, trivial⟩
          · refine L.loadPe shape133 hF rfl rfl rfl rfl rfl ?_
            refine L.nil ?_
            exact A.on (hO _ _ _ n255) (Le.mk [] hm rfl ⟨⟨_, rfl, rfl⟩, ⟨_, rfl, rfl⟩, ⟨_, rfl, rfl⟩, ⟨_, rfl, rfl⟩, ⟨_, rfl, rfl⟩, trivial⟩ trivial trivial)
        have n119 : W 4 #[true, true, true, false, true, true, true, false, false, false] (mkSt [(0, one (Cell.sl g0 (List.map eTimpl_Rule v44))), (1, one (Cell.sl g1 (List.map eTimpl_Rule v45))), (5, one (cI v46)), (19, one (Cell.pe g0 (eTimpl_Rule b50) 0)), (23, one (Cell.pe g1 (eTimpl_Rule b51) 0))] [] [] 0) := by
          refine hI _ _ _ ?_
          refine A.all [3, 7] (by kernel_rfl) rfl ⟨⟨_, rfl, ?_⟩, ⟨_, rfl, ?_⟩, trivial⟩
          · refine L.loadPe shape133 hF rfl rfl rfl rfl rfl ?_
            refine L.nil ?_
            exact A.on (hO _ _ _ n127) (Le.mk [] hm rfl ⟨⟨_, rfl, rfl⟩, ⟨_, rfl, rfl⟩, ⟨_, rfl, rfl⟩, ⟨_, rfl, rfl⟩, ⟨_, rfl, rfl⟩, trivial⟩ trivial trivial)
          · refine L.loadPe shape133 hF rfl rfl rfl rfl rfl ?_
            refine L.nil ?_
            exact A.on (hO _ _ _ n247) (Le.mk [] hm rfl ⟨⟨_, rfl, rfl⟩, ⟨_, rfl, rfl⟩, ⟨_, rfl, rfl⟩, ⟨_, rfl, rfl⟩, ⟨_, rfl, rfl⟩, trivial⟩ trivial trivial)
        have n55 : W 5 #[true, true, true, false, true, true, false, false, false, false] (mkSt [(0, one (Cell.sl g0 (List.map eTimpl_Rule v44))), (1, one (Cell.sl g1 (List.map eTimpl_Rule v45))), (5, one (cI v46)), (19, one (Cell.pe g0 (eTimpl_Rule b50) 0)), (21, one (Cell.sl g1 (List.map eTimpl_Rule v45))), (22, one (cI v46))] [] [] 0) := by
          refine hI _ _ _ ?_
          refine A.take 6 rfl (by kernel_rfl) (by kernel_rfl) (by kernel_rfl) rfl (Ca.indexAddr) (fun Q0 k0 => L.idxR (xs := v45) (e := eTimpl_Rule) Try.underlying71 info133 hF rfl rfl rfl rfl rfl hb51 rfl rfl (L.nil k0)) ?_
          exact A.on (hO _ _ _ n119) (Le.mk [] hm rfl ⟨⟨_, rfl, rfl⟩, ⟨_, rfl, rfl⟩, ⟨_, rfl, rfl⟩, ⟨_, rfl, rfl⟩, ⟨_, rfl, rfl⟩, trivial⟩ trivial trivial)
        have n23 : W 6 #[true, true, true, false, true, false, false, false, false, false] (mkSt [(0, one (Cell.sl g0 (List.map eTimpl_Rule v44))), (1, one (Cell.sl g1 (List.map eTimpl_Rule v45))), (5, one (cI v46)), (19, one (Cell.pe g0 (eTimpl_Rule b50) 0)), (21, one (Cell.sl g1 (List.map eTimpl_Rule v45)))] [] [] 0) := by
          refine hI _ _ _ ?_
          refine A.take 5 rfl (by kernel_rfl) (by kernel_rfl) (by kernel_rfl) rfl (Ca.move) (fun Q0 k0 => L.move hF rfl rfl rfl (L.nil k0)) ?_
          exact A.on (hO _ _ _ n55) (Le.mk [] hm rfl ⟨⟨_, rfl, rfl⟩, ⟨_, rfl, rfl⟩, ⟨_, rfl, rfl⟩, ⟨_, rfl, rfl⟩, ⟨_, rfl, rfl⟩, ⟨_, rfl, rfl⟩, trivial⟩ trivial trivial)
        have n7 : W 7 #[true, true, true, false, false, false, false, false, false, false] (mkSt [(0, one (Cell.sl g0 (List.map eTimpl_Rule v44))), (1, one (Cell.sl g1 (List.map eTimpl_Rule v45))), (5, one (cI v46)), (19, one (Cell.pe g0 (eTimpl_Rule b50) 0))] [] [] 0) := by
          refine hI _ _ _ ?_
          refine A.take 4 rfl (by kernel_rfl) (by kernel_rfl) (by kernel_rfl) rfl (Ca.move) (fun Q0 k0 => L.move hF rfl rfl rfl (L.nil k0)) ?_
          exact A.on (hO _ _ _ n23) (Le.mk [] hm rfl ⟨⟨_, rfl, rfl⟩, ⟨_, rfl, rfl⟩, ⟨_, rfl, rfl⟩, ⟨_, rfl, rfl⟩, ⟨_, rfl, rfl⟩, trivial⟩ trivial trivial)
        have n3 : W 8 #[true, true, false, false, false, false, false, false, false, false] (mkSt [(0, one (Cell.sl g0 (List.map eTimpl_Rule v44))), (1, one (Cell.sl g1 (List.map eTimpl_Rule v45))), (5, one (cI v46)), (17, one (Cell.sl g0 (List.map eTimpl_Rule v44))), (18, one (cI v46))] [] [] 0) := by
          refine hI _ _ _ ?_
          refine A.take 2 rfl (by kernel_rfl) (by kernel_rfl) (by kernel_rfl) rfl (Ca.indexAddr) (fun Q0 k0 => L.idxR (xs := v44) (e := eTimpl_Rule) Try.underlying71 info133 hF rfl rfl rfl rfl rfl hb50 rfl rfl (L.nil k0)) ?_
          exact A.on (hO _ _ _ n7) (Le.mk [] hm rfl ⟨⟨_, rfl, rfl⟩, ⟨_, rfl, rfl⟩, ⟨_, rfl, rfl⟩, ⟨_, rfl, rfl⟩, trivial⟩ trivial trivial)
        have n1 : W 9 #[true, false, false, false, false, false, false, false, false, false] (mkSt [(0, one (Cell.sl g0 (List.map eTimpl_Rule v44))), (1, one (Cell.sl g1 (List.map eTimpl_Rule v45))), (5, one (cI v46)), (17, one (Cell.sl g0 (List.map eTimpl_Rule v44)))] [] [] 0) := by
          refine hI _ _ _ ?_
          refine A.take 1 rfl (by kernel_rfl) (by kernel_rfl) (by kernel_rfl) rfl (Ca.move) (fun Q0 k0 => L.move hF rfl rfl rfl (L.nil k0)) ?_
          exact A.on (hO _ _ _ n3) (Le.mk [] hm rfl ⟨⟨_, rfl, rfl⟩, ⟨_, rfl, rfl⟩, ⟨_, rfl, rfl⟩, ⟨_, rfl, rfl⟩, ⟨_, rfl, rfl⟩, trivial⟩ trivial trivial)
        have n0 : W 10 #[false, false, false, false, false, false, false, false, false, false] (mkSt [(0, one (Cell.sl g0 (List.map eTimpl_Rule v44))), (1, one (Cell.sl g1 (List.map eTimpl_Rule v45))), (5, one (cI v46))] [] [] 0) := by
          refine hI _ _ _ ?_
          refine A.take 0 rfl (by kernel_rfl) (by kernel_rfl) (by kernel_rfl) rfl (Ca.move) (fun Q0 k0 => L.move hF rfl rfl rfl (L.nil k0)) ?_
          exact A.on (hO _ _ _ n1) (Le.mk [] hm rfl ⟨⟨_, rfl, rfl⟩, ⟨_, rfl, rfl⟩, ⟨_, rfl, rfl⟩, ⟨_, rfl, rfl⟩, trivial⟩ trivial trivial)
        exact hI _ _ _ (A.on (hO _ _ _ n0) (Le.mk [] hm rfl ⟨⟨_, rfl, rfl⟩, ⟨_, rfl, rfl⟩, ⟨_, rfl, rfl⟩, trivial⟩ trivial trivial))
      · replace H := condF hc H
        refine WpC.exit ?_
        refine WpC.seq ?_
        refine WpC.regionL ?_
        refine L.assign hF rfl rfl rfl ?_
        refine L.nil ?_
        refine WpC.ret ?_
        cases H
        exact Leaves.ret rfl rfl rfl ⟨rfl, rfl⟩
/-! ### Flaws_eqAsk -/
def Flaws_eqAsk (k : Nat) (a0 : Timpl_Ask) (a1 : Timpl_Ask) : Option Bool := cond (a0.Server != a1.Server) (some false) (cond (a0.Op != a1.Op) (some false) ((Flaws_eqIntS k a0.Groups a1.Groups).bind fun r2 => cond (!r2) (some false) (cond (a0.Now != a1.Now) (some false) (cond (a0.Used != a1.Used) (some false) (some true)))))
theorem ent87 : Enters Try.prog 87 := ⟨Try.f87, Try.func87, rfl, by decide⟩
set_option maxHeartbeats 8000000 in
set_option maxRecDepth 100000 in
theorem Flaws_eqAsk_gives (k : Nat) (g0 : Bool) (g1 : Bool) (a0 : Timpl_Ask) (a1 : Timpl_Ask) (r : Bool) (H : Flaws_eqAsk k a0 a1 = some r) : Gives Try.prog 87 [V.agg [cI a0.Server, cI a0.Op, Cell.sl g0 (List.map eI a0.Groups), cI a0.Now, cI a0.Used], V.agg [cI a1.Server, cI a1.Op, Cell.sl g1 (List.map eI a1.Groups), cI a1.Now, cI a1.Used]] [] [V.one (cL r)] [] := by
  refine Gives.intro Try.func87 rfl rfl rfl rfl ?_
  intro F hF hm
  unfold Flaws_eqAsk at H
  obtain ⟨K, hK⟩ : ∃ K, k ≤ K := ⟨k, Nat.le_refl k⟩
  refine WpC.seq ?_
  refine WpC.regionL ?_
  refine L.box 10 hF rfl rfl rfl rfl ?_
  refine L.box 11 hF rfl rfl rfl rfl ?_
  refine L.assign hF rfl rfl rfl ?_
  refine L.nil ?_
  refine WpC.seq ?_
  refine WpC.seq ?_
  refine WpC.regionL ?_
  refine L.fieldAddr Try.underlying92 rfl info3 rfl hF rfl rfl rfl rfl rfl ?_
  refine L.loadPtr shape3 hF rfl rfl rfl rfl rfl rfl ?_
  refine L.fieldAddr Try.underlying92 rfl info3 rfl hF rfl rfl rfl rfl rfl ?_
  refine L.loadPtr shape3 hF rfl rfl rfl rfl rfl rfl ?_
  refine L.bin hF rfl rfl rfl rfl rfl rfl ?_
  refine L.nil ?_
  refine WpC.cond rfl (fun hc => ?_) (fun hc => ?_)
  · replace H := condT hc H
    refine WpC.seq ?_
    refine WpC.regionL ?_
    refine L.assign hF rfl rfl rfl ?_
    refine L.nil ?_
    refine WpC.ret ?_
    cases H
    exact Leaves.ret rfl rfl rfl ⟨rfl, rfl⟩
  · replace H := condF hc H
    refine WpC.skip ?_
    refine WpC.seq ?_
    refine WpC.seq ?_
    refine WpC.regionL ?_
    refine L.fieldAddr Try.underlying92 rfl info3 rfl hF rfl rfl rfl rfl rfl ?_
    refine L.loadPtr shape3 hF rfl rfl rfl rfl rfl rfl ?_
    refine L.fieldAddr Try.underlying92 rfl info3 rfl hF rfl rfl rfl rfl rfl ?_
    refine L.loadPtr shape3 hF rfl rfl rfl rfl rfl rfl ?_
    refine L.bin hF rfl rfl rfl rfl rfl rfl ?_
    refine L.nil ?_
    refine WpC.cond rfl (fun hc => ?_) (fun hc => ?_)
    · replace H := condT hc H
      refine WpC.seq ?_
      refine WpC.regionL ?_
      refine L.assign hF rfl rfl rfl ?_
      refine L.nil ?_
      refine WpC.ret ?_
      cases H
      exact Leaves.ret rfl rfl rfl ⟨rfl, rfl⟩
    · replace H := condF hc H
      refine WpC.skip ?_
      refine WpC.seq ?_
      refine WpC.seq ?_
      refine WpC.regionL ?_
      refine L.fieldAddr Try.underlying92 rfl info77 rfl hF rfl rfl rfl rfl rfl ?_
      refine L.loadPtr shape77 hF rfl rfl rfl rfl rfl rfl ?_
      refine L.fieldAddr Try.underlying92 rfl info77 rfl hF rfl rfl rfl rfl rfl ?_
      refine L.loadPtr shape77 hF rfl rfl rfl rfl rfl rfl ?_
      obtain ⟨r2, hr2, H⟩ := bindS H
      refine L.call [false, false] [] [] 12 hF rfl rfl rfl ent72 rfl rfl rfl rfl rfl (Flaws_eqIntS_gives k g0 g1 a0.Groups a1.Groups r2 hr2) rfl ?_
      refine L.not hF rfl rfl rfl ?_
      refine L.nil ?_
      refine WpC.cond rfl (fun hc => ?_) (fun hc => ?_)
      · replace H := condT hc H
        refine WpC.seq ?_
        refine WpC.regionL ?_
        refine L.assign hF rfl rfl rfl ?_
        refine L.nil ?_
        refine WpC.ret ?_
        cases H
        exact Leaves.ret rfl rfl rfl ⟨rfl, rfl⟩
      · replace H := condF hc H
        refine WpC.skip ?_
        refine WpC.seq ?_
        refine WpC.seq ?_
        refine WpC.regionL ?_
        refine L.fieldAddr Try.underlying92 rfl info3 rfl hF rfl rfl rfl rfl rfl ?_
        refine L.loadPtr shape3 hF rfl rfl rfl rfl rfl rfl ?_
        refine L.fieldAddr Try.underlying92 rfl info3 rfl hF rfl rfl rfl rfl rfl ?_
        refine L.loadPtr shape3 hF rfl rfl rfl rfl rfl rfl ?_
        refine L.bin hF rfl rfl rfl rfl rfl rfl ?_
        refine L.nil ?_
        refine WpC.cond rfl (fun hc => ?_) (fun hc => ?_)
        · replace H := condT hc H
          refine WpC.seq ?_
          refine WpC.regionL ?_
          refine L.assign hF rfl rfl rfl ?_
          refine L.nil ?_
          refine WpC.ret ?_
          cases H
          exact Leaves.ret rfl rfl rfl ⟨rfl, rfl⟩
        · replace H := condF hc H
          refine WpC.skip ?_
          refine WpC.seq ?_
          refine WpC.seq ?_
          refine WpC.regionL ?_
          refine L.fieldAddr Try.underlying92 rfl info3 rfl hF rfl rfl rfl rfl rfl ?_
          refine L.loadPtr shape3 hF rfl rfl rfl rfl rfl rfl ?_
          refine L.fieldAddr Try.underlying92 rfl info3 rfl hF rfl rfl rfl rfl rfl ?_
          refine L.loadPtr shape3 hF rfl rfl rfl rfl rfl rfl ?_
          refine L.bin hF rfl rfl rfl rfl rfl rfl ?_
          refine L.nil ?_
          refine WpC.cond rfl (fun hc => ?_) (fun hc => ?_)
          · replace H := condT hc H
            refine WpC.seq ?_
            refine WpC.regionL ?_
            refine L.assign hF rfl rfl rfl ?_
            refine L.nil ?_
            refine WpC.ret ?_
            cases H
            exact Leaves.ret rfl rfl rfl ⟨rfl, rfl⟩
          · replace H := condF hc H
            refine WpC.skip ?_
            refine WpC.seq ?_
            refine WpC.regionL ?_
            refine L.assign hF rfl rfl rfl ?_
            refine L.nil ?_
            refine WpC.ret ?_
            cases H
            exact Leaves.ret rfl rfl rfl ⟨rfl, rfl⟩
/-! ### Flaws_FnExactAllows -/
def Flaws_FnExactAllows (k : Nat) (a0 : List Tlaws_Rule) (a1 : Tlaws_Ask) : Option Bool := (Flaws_szRuleS k a0 (1048576 : Int)).bind fun r1 => cond (decide (r1 < (0 : Int))) (some true) ((Flaws_szAsk k a1 r1).bind fun r2 => cond (decide (r2 < (0 : Int))) (some true) ((Flaws_toRuleS k a0).bind fun r3 => (Flaws_toAsk k a1).bind fun r4 => (Fspec_Allows k r3 r4).bind fun r5 => (Flaws_toRuleS k a0).bind fun r6 => (Flaws_toAsk k a1).bind fun r7 => (Fimpl_Allows k r6 r7).bind fun r8 => cond (r8 != r5) (some false) ((Flaws_toRuleS k a0).bind fun r11 => (Flaws_eqRuleS k r6 r11).bind fun r12 => cond (!r12) (some false) ((Flaws_toAsk k a1).bind fun r15 => (Flaws_eqAsk k r7 r15).bind fun r16 => cond (!r16) (some false) (some true)))))
theorem ent20 : Enters Try.prog 20 := ⟨Try.f20, Try.func20, rfl, by decide⟩
set_option maxHeartbeats 8000000 in
set_option maxRecDepth 100000 in
theorem Flaws_FnExactAllows_gives (k : Nat) (g0 : Bool) (g1 : Bool) (a0 : List Tlaws_Rule) (a1 : Tlaws_Ask) (r : Bool) (H : Flaws_FnExactAllows k a0 a1 = some r) : Gives Try.prog 20 [V.one (Cell.sl g0 (List.map eTlaws_Rule a0)), V.agg [cI a1.Server, cI a1.Op, Cell.sl g1 (List.map eI a1.Groups), cI a1.Now, cI a1.Used]] [] [V.one (cL r)] [] := by
  refine Gives.intro Try.func20 rfl rfl rfl rfl ?_
  intro F hF hm
  unfold Flaws_FnExactAllows at H
  obtain ⟨K, hK⟩ : ∃ K, k ≤ K := ⟨k, Nat.le_refl k⟩
  refine WpC.seq ?_
  refine WpC.regionL ?_
  refine L.box 6 hF rfl rfl rfl rfl ?_
  refine L.assign hF rfl rfl rfl ?_
  refine L.nil ?_
  refine WpC.seq ?_
  refine WpC.regionL ?_
  refine L.assign hF rfl rfl rfl ?_
  refine L.nil ?_
  refine WpC.seq ?_
  refine WpC.regionL ?_
  refine L.move hF rfl rfl rfl ?_
  refine L.move hF rfl rfl rfl ?_
  obtain ⟨r1, hr1, H⟩ := bindS H
  refine L.call [false, false] [] [] 7 hF rfl rfl rfl ent61 rfl rfl rfl rfl rfl (Flaws_szRuleS_gives k g0 a0 (1048576 : Int) r1 hr1) rfl ?_
  refine L.assign hF rfl rfl rfl ?_
  refine L.nil ?_
  refine WpC.seq ?_
  refine WpC.seq ?_
  refine WpC.regionL ?_
  refine L.move hF rfl rfl rfl ?_
  refine L.bin hF rfl rfl rfl rfl rfl rfl ?_
  refine L.nil ?_
  refine WpC.cond rfl (fun hc => ?_) (fun hc => ?_)
  · replace H := condT hc H
    refine WpC.seq ?_
    refine WpC.regionL ?_
    refine L.assign hF rfl rfl rfl ?_
    refine L.nil ?_
    refine WpC.ret ?_
    cases H
    exact Leaves.ret rfl rfl rfl ⟨rfl, rfl⟩
  · replace H := condF hc H
    refine WpC.skip ?_
    refine WpC.seq ?_
    refine WpC.regionL ?_
    refine L.loadPtr shape89 hF rfl rfl rfl rfl rfl rfl ?_
    refine L.move hF rfl rfl rfl ?_
    obtain ⟨r2, hr2, H⟩ := bindS H
    refine L.call [false, false] [] [] 8 hF rfl rfl rfl ent83 rfl rfl rfl rfl rfl (Flaws_szAsk_gives k g1 a1 r1 r2 hr2) rfl ?_
    refine L.assign hF rfl rfl rfl ?_
    refine L.nil ?_
    refine WpC.seq ?_
    refine WpC.seq ?_
    refine WpC.regionL ?_
    refine L.move hF rfl rfl rfl ?_
    refine L.bin hF rfl rfl rfl rfl rfl rfl ?_
    refine L.nil ?_
    refine WpC.cond rfl (fun hc => ?_) (fun hc => ?_)
    · replace H := condT hc H
      refine WpC.seq ?_
      refine WpC.regionL ?_
      refine L.assign hF rfl rfl rfl ?_
      refine L.nil ?_
      refine WpC.ret ?_
      cases H
      exact Leaves.ret rfl rfl rfl ⟨rfl, rfl⟩
    · replace H := condF hc H
      refine WpC.skip ?_
      refine WpC.seq ?_
      obtain ⟨r3, hr3, H⟩ := bindS H
      obtain ⟨r4, hr4, H⟩ := bindS H
      obtain ⟨r5, hr5, H⟩ := bindS H
      refine A.begin mixed rfl rfl ?_
      intro W hI hO
      have n63 : W 0 #[true, true, true, true, true, true] (mkSt [(0, one (Cell.sl g0 (List.map eTlaws_Rule a0))), (3, one (Cell.ptr 0 0)), (6, one (cL r5))] [] [(0, [cI a1.Server, cI a1.Op, Cell.sl g1 (List.map eI a1.Groups), cI a1.Now, cI a1.Used])] 1) := by
        refine hI _ _ _ (A.done (by kernel_rfl) ?_)
        refine WpC.seq ?_
        refine WpC.regionL ?_
        refine L.move hF rfl rfl rfl ?_
        obtain ⟨r6, hr6, H⟩ := bindS H
        refine L.call [false] [] [] 1 hF rfl rfl rfl ent63 rfl rfl rfl rfl rfl (Flaws_toRuleS_gives k g0 a0 r6 hr6) rfl ?_
        refine L.assign hF rfl rfl rfl ?_
        refine L.nil ?_
        refine WpC.seq ?_
        refine WpC.regionL ?_
        refine L.loadPtr shape89 hF rfl rfl rfl rfl rfl rfl ?_
        obtain ⟨r7, hr7, H⟩ := bindS H
        refine L.call [false] [] [] 2 hF rfl rfl rfl ent85 rfl rfl rfl rfl rfl (Flaws_toAsk_gives k g1 a1 r7 hr7) rfl ?_
        refine L.alloc 7 info92 rfl hF rfl rfl rfl rfl ?_
        refine L.storePtr shape92 hF rfl rfl rfl rfl rfl rfl rfl ?_
        refine L.nil ?_
        refine WpC.seq ?_
        refine WpC.regionL ?_
        refine L.move hF rfl rfl rfl ?_
        refine L.loadPtr shape92 hF rfl rfl rfl rfl rfl rfl ?_
        refine L.le (Le.shareAll 4 rfl) ?_
        obtain ⟨r8, hr8, H⟩ := bindS H
        refine L.call [false, false] [1] [] 8 hF rfl rfl rfl ent86 rfl rfl rfl rfl rfl (Fimpl_Allows_gives k false r6 r7 r8 hr8) rfl ?_
        refine L.assign hF rfl rfl rfl ?_
        refine L.nil ?_
        refine WpC.seq ?_
        refine WpC.seq ?_
        refine WpC.regionL ?_
        refine L.move hF rfl rfl rfl ?_
        refine L.move hF rfl rfl rfl ?_
        refine L.neL Try.underlying4 hF rfl rfl rfl rfl ?_
        refine L.nil ?_
        refine WpC.cond rfl (fun hc => ?_) (fun hc => ?_)
        · replace H := condT hc H
          refine WpC.seq ?_
          refine WpC.regionL ?_
          refine L.assign hF rfl rfl rfl ?_
          refine L.nil ?_
          refine WpC.ret ?_
          cases H
          exact Leaves.ret rfl rfl rfl ⟨rfl, rfl⟩
        · replace H := condF hc H
          refine WpC.skip ?_
          refine WpC.seq ?_
          refine WpC.seq ?_
          refine WpC.regionL ?_
          refine L.move hF rfl rfl rfl ?_
          refine L.move hF rfl rfl rfl ?_
          obtain ⟨r11, hr11, H⟩ := bindS H
          refine L.call [false] [] [] 9 hF rfl rfl rfl ent63 rfl rfl rfl rfl rfl (Flaws_toRuleS_gives k g0 a0 r11 hr11) rfl ?_
          obtain ⟨r12, hr12, H⟩ := bindS H
          refine L.call [false, false] [1, 9] [] 10 hF rfl rfl rfl ent65 rfl rfl rfl rfl rfl (Flaws_eqRuleS_gives k false false r6 r11 r12 hr12) rfl ?_
          refine L.not hF rfl rfl rfl ?_
          refine L.nil ?_
          refine WpC.cond rfl (fun hc => ?_) (fun hc => ?_)
          · replace H := condT hc H
            refine WpC.seq ?_
            refine WpC.regionL ?_
            refine L.assign hF rfl rfl rfl ?_
            refine L.nil ?_
            refine WpC.ret ?_
            cases H
            exact Leaves.ret rfl rfl rfl ⟨rfl, rfl⟩
          · replace H := condF hc H
            refine WpC.skip ?_
            refine WpC.seq ?_
            refine WpC.seq ?_
            obtain ⟨r15, hr15, H⟩ := bindS H
            obtain ⟨r16, hr16, H⟩ := bindS H
            refine A.begin mixed rfl rfl ?_
            intro W hI hO
            have n31 : W 0 #[true, true, true, true, true] (mkSt [(44, one (cL (!r16)))] [] [] 0) := by
              refine hI _ _ _ (A.done (by kernel_rfl) ?_)
              refine WpC.cond rfl (fun hc => ?_) (fun hc => ?_)
              · replace H := condT hc H
                refine WpC.seq ?_
                refine WpC.regionL ?_
                refine L.assign hF rfl rfl rfl ?_
                refine L.nil ?_
                refine WpC.ret ?_
                cases H
                exact Leaves.ret rfl rfl rfl ⟨rfl, rfl⟩
              · replace H := condF hc H
                refine WpC.skip ?_
                refine WpC.seq ?_
                refine WpC.regionL ?_
                refine L.assign hF rfl rfl rfl ?_
                refine L.nil ?_
                refine WpC.ret ?_
                cases H
                exact Leaves.ret rfl rfl rfl ⟨rfl, rfl⟩
            have n15 : W 1 #[true, true, true, true, false] (mkSt [(43, one (cL r16))] [] [] 0) := by
              refine hI _ _ _ ?_
              refine A.take 4 rfl (by kernel_rfl) (by kernel_rfl) (by kernel_rfl) rfl (Ca.un rfl rfl) (fun Q0 k0 => L.not hF rfl rfl rfl (L.nil k0)) ?_
              exact A.on (hO _ _ _ n31) (Le.mk [] hm rfl ⟨⟨_, rfl, rfl⟩, trivial⟩ trivial trivial)
            have n7 : W 2 #[true, true, true, false, false] (mkSt [(40, agg [cI r7.Server, cI r7.Op, Cell.sl true (List.map eI r7.Groups), cI r7.Now, cI r7.Used]), (42, agg [cI r15.Server, cI r15.Op, Cell.own 0, cI r15.Now, cI r15.Used])] [(0, ⟨1, List.map eI r15.Groups⟩)] [] 1) := by
              refine hI _ _ _ ?_
              refine A.all [3] (by kernel_rfl) rfl ⟨⟨_, rfl, ?_⟩, trivial⟩
              · refine L.call [false, false] [0] [] 1 hF rfl rfl rfl ent87 rfl rfl rfl rfl rfl (Flaws_eqAsk_gives k true false r7 r15 r16 hr16) rfl ?_
                refine L.nil ?_
                exact A.on (hO _ _ _ n15) (Le.mk [] hm rfl ⟨⟨_, rfl, rfl⟩, trivial⟩ trivial trivial)
            have n3 : W 3 #[true, true, false, false, false] (mkSt [(40, agg [cI r7.Server, cI r7.Op, Cell.sl true (List.map eI r7.Groups), cI r7.Now, cI r7.Used]), (41, agg [cI a1.Server, cI a1.Op, Cell.sl g1 (List.map eI a1.Groups), cI a1.Now, cI a1.Used])] [] [] 0) := by
              refine hI _ _ _ ?_
              refine A.all [2] (by kernel_rfl) rfl ⟨⟨_, rfl, ?_⟩, trivial⟩
              · refine L.call [false] [] [] 0 hF rfl rfl rfl ent85 rfl rfl rfl rfl rfl (Flaws_toAsk_gives k g1 a1 r15 hr15) rfl ?_
                refine L.nil ?_
                exact A.on (hO _ _ _ n7) (Le.mk [(0, 2)] hm rfl ⟨⟨_, rfl, rfl⟩, ⟨_, rfl, rfl⟩, trivial⟩ ⟨⟨_, rfl, rfl⟩, trivial⟩ trivial)
            have n6 : W 3 #[false, true, true, false, false] (mkSt [(8, one (Cell.ptr 0 0)), (42, agg [cI r15.Server, cI r15.Op, Cell.own 1, cI r15.Now, cI r15.Used])] [(1, ⟨1, List.map eI r15.Groups⟩)] [(0, [cI r7.Server, cI r7.Op, Cell.sl true (List.map eI r7.Groups), cI r7.Now, cI r7.Used])] 2) := by
              refine hI _ _ _ ?_
              refine A.all [0] (by kernel_rfl) rfl ⟨⟨_, rfl, ?_⟩, trivial⟩
              · refine L.loadPtr shape92 hF rfl rfl rfl rfl rfl rfl ?_
                refine L.nil ?_
                exact A.on (hO _ _ _ n7) (Le.mk [(0, 1)] hm rfl ⟨⟨_, rfl, rfl⟩, ⟨_, rfl, rfl⟩, trivial⟩ ⟨⟨_, rfl, rfl⟩, trivial⟩ trivial)
            have n1 : W 4 #[true, false, false, false, false] (mkSt [(3, one (Cell.ptr 0 0)), (40, agg [cI r7.Server, cI r7.Op, Cell.sl true (List.map eI r7.Groups), cI r7.Now, cI r7.Used])] [] [(0, [cI a1.Server, cI a1.Op, Cell.sl g1 (List.map eI a1.Groups), cI a1.Now, cI a1.Used])] 1) := by
              refine hI _ _ _ ?_
              refine A.all [1] (by kernel_rfl) rfl ⟨⟨_, rfl, ?_⟩, trivial⟩
              · refine L.loadPtr shape89 hF rfl rfl rfl rfl rfl rfl ?_
                refine L.nil ?_
                exact A.on (hO _ _ _ n3) (Le.mk [] hm rfl ⟨⟨_, rfl, rfl⟩, ⟨_, rfl, rfl⟩, trivial⟩ trivial trivial)
            have n2 : W 4 #[false, true, false, false, false] (mkSt [(8, one (Cell.ptr 0 0)), (41, agg [cI a1.Server, cI a1.Op, Cell.sl g1 (List.map eI a1.Groups), cI a1.Now, cI a1.Used])] [] [(0, [cI r7.Server, cI r7.Op, Cell.sl true (List.map eI r7.Groups), cI r7.Now, cI r7.Used])] 1) := by
              refine hI _ _ _ ?_
              refine A.all [0, 2] (by kernel_rfl) rfl ⟨⟨_, rfl, ?_⟩, ⟨_, rfl, ?_⟩, trivial⟩
              · refine L.loadPtr shape92 hF rfl rfl rfl rfl rfl rfl ?_
                refine L.nil ?_
                exact A.on (hO _ _ _ n3) (Le.mk [] hm rfl ⟨⟨_, rfl, rfl⟩, ⟨_, rfl, rfl⟩, trivial⟩ trivial trivial)
              · refine L.call [false] [] [] 1 hF rfl rfl rfl ent85 rfl rfl rfl rfl rfl (Flaws_toAsk_gives k g1 a1 r15 hr15) rfl ?_
                refine L.nil ?_
                exact A.on (hO _ _ _ n6) (Le.mk [(0, 0), (1, 3)] hm rfl ⟨⟨_, rfl, rfl⟩, ⟨_, rfl, rfl⟩, trivial⟩ ⟨⟨_, rfl, rfl⟩, trivial⟩ ⟨⟨_, _, rfl, rfl, rfl⟩, trivial⟩)
            have n0 : W 5 #[false, false, false, false, false] (mkSt [(3, one (Cell.ptr 0 0)), (8, one (Cell.ptr 1 0))] [] [(0, [cI a1.Server, cI a1.Op, Cell.sl g1 (List.map eI a1.Groups), cI a1.Now, cI a1.Used]), (1, [cI r7.Server, cI r7.Op, Cell.sl true (List.map eI r7.Groups), cI r7.Now, cI r7.Used])] 2) := by
              refine hI _ _ _ ?_
              refine A.all [0, 1] (by kernel_rfl) rfl ⟨⟨_, rfl, ?_⟩, ⟨_, rfl, ?_⟩, trivial⟩
              · refine L.loadPtr shape92 hF rfl rfl rfl rfl rfl rfl ?_
                refine L.nil ?_
                exact A.on (hO _ _ _ n1) (Le.mk [(0, 0)] hm rfl ⟨⟨_, rfl, rfl⟩, ⟨_, rfl, rfl⟩, trivial⟩ trivial ⟨⟨_, _, rfl, rfl, rfl⟩, trivial⟩)
              · refine L.loadPtr shape89 hF rfl rfl rfl rfl rfl rfl ?_
                refine L.nil ?_
                exact A.on (hO _ _ _ n2) (Le.mk [(0, 1)] hm rfl ⟨⟨_, rfl, rfl⟩, ⟨_, rfl, rfl⟩, trivial⟩ trivial ⟨⟨_, _, rfl, rfl, rfl⟩, trivial⟩)
            exact hI _ _ _ (A.on (hO _ _ _ n0) (Le.mk [(0, 0), (1, 7)] hm rfl ⟨⟨_, rfl, rfl⟩, ⟨_, rfl, rfl⟩, trivial⟩ trivial ⟨⟨_, _, rfl, rfl, rfl⟩, ⟨_, _, rfl, rfl, rfl⟩, trivial⟩))
      have n31 : W 1 #[true, true, true, true, true, false] (mkSt [(0, one (Cell.sl g0 (List.map eTlaws_Rule a0))), (3, one (Cell.ptr 0 0)), (24, one (cL r5))] [] [(0, [cI a1.Server, cI a1.Op, Cell.sl g1 (List.map eI a1.Groups), cI a1.Now, cI a1.Used])] 1) := by
        refine hI _ _ _ ?_
        refine A.take 5 rfl (by kernel_rfl) (by kernel_rfl) (by kernel_rfl) rfl (Ca.assign) (fun Q0 k0 => L.assign hF rfl rfl rfl (L.nil k0)) ?_
        exact A.on (hO _ _ _ n63) (Le.mk [(0, 0)] hm rfl ⟨⟨_, rfl, rfl⟩, ⟨_, rfl, rfl⟩, ⟨_, rfl, rfl⟩, trivial⟩ trivial ⟨⟨_, _, rfl, rfl, rfl⟩, trivial⟩)
      have n15 : W 2 #[true, true, true, true, false, false] (mkSt [(0, one (Cell.sl g0 (List.map eTlaws_Rule a0))), (3, one (Cell.ptr 0 0)), (21, one (Cell.own 1)), (23, agg [cI r4.Server, cI r4.Op, Cell.own 2, cI r4.Now, cI r4.Used])] [(1, ⟨3, List.map eTimpl_Rule r3⟩), (2, ⟨1, List.map eI r4.Groups⟩)] [(0, [cI a1.Server, cI a1.Op, Cell.sl g1 (List.map eI a1.Groups), cI a1.Now, cI a1.Used])] 3) := by
        refine hI _ _ _ ?_
        refine A.all [4] (by kernel_rfl) rfl ⟨⟨_, rfl, ?_⟩, trivial⟩
        · refine L.call [false, false] [1, 2] [] 3 hF rfl rfl rfl ent84 rfl rfl rfl rfl rfl (Fspec_Allows_gives k false false r3 r4 r5 hr5) rfl ?_
          refine L.nil ?_
          exact A.on (hO _ _ _ n31) (Le.mk [(0, 0)] hm rfl ⟨⟨_, rfl, rfl⟩, ⟨_, rfl, rfl⟩, ⟨_, rfl, rfl⟩, trivial⟩ trivial ⟨⟨_, _, rfl, rfl, rfl⟩, trivial⟩)
      have n7 : W 3 #[true, true, true, false, false, false] (mkSt [(0, one (Cell.sl g0 (List.map eTlaws_Rule a0))), (3, one (Cell.ptr 0 0)), (21, one (Cell.own 1)), (22, agg [cI a1.Server, cI a1.Op, Cell.sl g1 (List.map eI a1.Groups), cI a1.Now, cI a1.Used])] [(1, ⟨3, List.map eTimpl_Rule r3⟩)] [(0, [cI a1.Server, cI a1.Op, Cell.sl g1 (List.map eI a1.Groups), cI a1.Now, cI a1.Used])] 2) := by
        refine hI _ _ _ ?_
        refine A.all [3] (by kernel_rfl) rfl ⟨⟨_, rfl, ?_⟩, trivial⟩
        · refine L.call [false] [] [] 2 hF rfl rfl rfl ent85 rfl rfl rfl rfl rfl (Flaws_toAsk_gives k g1 a1 r4 hr4) rfl ?_
          refine L.nil ?_
          exact A.on (hO _ _ _ n15) (Le.mk [(0, 0), (1, 1), (2, 4)] hm rfl ⟨⟨_, rfl, rfl⟩, ⟨_, rfl, rfl⟩, ⟨_, rfl, rfl⟩, ⟨_, rfl, rfl⟩, trivial⟩ ⟨⟨_, rfl, rfl⟩, ⟨_, rfl, rfl⟩, trivial⟩ ⟨⟨_, _, rfl, rfl, rfl⟩, trivial⟩)
      have n3 : W 4 #[true, true, false, false, false, false] (mkSt [(0, one (Cell.sl g0 (List.map eTlaws_Rule a0))), (3, one (Cell.ptr 0 0)), (21, one (Cell.own 1))] [(1, ⟨3, List.map eTimpl_Rule r3⟩)] [(0, [cI a1.Server, cI a1.Op, Cell.sl g1 (List.map eI a1.Groups), cI a1.Now, cI a1.Used])] 2) := by
        refine hI _ _ _ ?_
        refine A.all [2] (by kernel_rfl) rfl ⟨⟨_, rfl, ?_⟩, trivial⟩
        · refine L.loadPtr shape89 hF rfl rfl rfl rfl rfl rfl ?_
          refine L.nil ?_
          exact A.on (hO _ _ _ n7) (Le.mk [(0, 0), (1, 1)] hm rfl ⟨⟨_, rfl, rfl⟩, ⟨_, rfl, rfl⟩, ⟨_, rfl, rfl⟩, ⟨_, rfl, rfl⟩, trivial⟩ ⟨⟨_, rfl, rfl⟩, trivial⟩ ⟨⟨_, _, rfl, rfl, rfl⟩, trivial⟩)
      have n5 : W 4 #[true, false, true, false, false, false] (mkSt [(0, one (Cell.sl g0 (List.map eTlaws_Rule a0))), (3, one (Cell.ptr 0 0)), (20, one (Cell.sl g0 (List.map eTlaws_Rule a0))), (22, agg [cI a1.Server, cI a1.Op, Cell.sl g1 (List.map eI a1.Groups), cI a1.Now, cI a1.Used])] [] [(0, [cI a1.Server, cI a1.Op, Cell.sl g1 (List.map eI a1.Groups), cI a1.Now, cI a1.Used])] 1) := by
        refine hI _ _ _ ?_
        refine A.all [1] (by kernel_rfl) rfl ⟨⟨_, rfl, ?_⟩, trivial⟩
        · refine L.call [false] [] [] 1 hF rfl rfl rfl ent63 rfl rfl rfl rfl rfl (Flaws_toRuleS_gives k g0 a0 r3 hr3) rfl ?_
          refine L.nil ?_
          exact A.on (hO _ _ _ n7) (Le.mk [(0, 0), (1, 1)] hm rfl ⟨⟨_, rfl, rfl⟩, ⟨_, rfl, rfl⟩, ⟨_, rfl, rfl⟩, ⟨_, rfl, rfl⟩, trivial⟩ ⟨⟨_, rfl, rfl⟩, trivial⟩ ⟨⟨_, _, rfl, rfl, rfl⟩, trivial⟩)
      have n1 : W 5 #[true, false, false, false, false, false] (mkSt [(0, one (Cell.sl g0 (List.map eTlaws_Rule a0))), (3, one (Cell.ptr 0 0)), (20, one (Cell.sl g0 (List.map eTlaws_Rule a0)))] [] [(0, [cI a1.Server, cI a1.Op, Cell.sl g1 (List.map eI a1.Groups), cI a1.Now, cI a1.Used])] 1) := by
        refine hI _ _ _ ?_
        refine A.all [1, 2] (by kernel_rfl) rfl ⟨⟨_, rfl, ?_⟩, ⟨_, rfl, ?_⟩, trivial⟩
        · refine L.call [false] [] [] 1 hF rfl rfl rfl ent63 rfl rfl rfl rfl rfl (Flaws_toRuleS_gives k g0 a0 r3 hr3) rfl ?_
          refine L.nil ?_
          exact A.on (hO _ _ _ n3) (Le.mk [(0, 0), (1, 1)] hm rfl ⟨⟨_, rfl, rfl⟩, ⟨_, rfl, rfl⟩, ⟨_, rfl, rfl⟩, trivial⟩ ⟨⟨_, rfl, rfl⟩, trivial⟩ ⟨⟨_, _, rfl, rfl, rfl⟩, trivial⟩)
        · refine L.loadPtr shape89 hF rfl rfl rfl rfl rfl rfl ?_
          refine L.nil ?_
          exact A.on (hO _ _ _ n5) (Le.mk [(0, 0)] hm rfl ⟨⟨_, rfl, rfl⟩, ⟨_, rfl, rfl⟩, ⟨_, rfl, rfl⟩, ⟨_, rfl, rfl⟩, trivial⟩ trivial ⟨⟨_, _, rfl, rfl, rfl⟩, trivial⟩)
      have n0 : W 6 #[false, false, false, false, false, false] (mkSt [(0, one (Cell.sl g0 (List.map eTlaws_Rule a0))), (3, one (Cell.ptr 0 0))] [] [(0, [cI a1.Server, cI a1.Op, Cell.sl g1 (List.map eI a1.Groups), cI a1.Now, cI a1.Used])] 1) := by
        refine hI _ _ _ ?_
        refine A.take 0 rfl (by kernel_rfl) (by kernel_rfl) (by kernel_rfl) rfl (Ca.move) (fun Q0 k0 => L.move hF rfl rfl rfl (L.nil k0)) ?_
        exact A.on (hO _ _ _ n1) (Le.mk [(0, 0)] hm rfl ⟨⟨_, rfl, rfl⟩, ⟨_, rfl, rfl⟩, ⟨_, rfl, rfl⟩, trivial⟩ trivial ⟨⟨_, _, rfl, rfl, rfl⟩, trivial⟩)
      exact hI _ _ _ (A.on (hO _ _ _ n0) (Le.mk [(0, 6)] hm rfl ⟨⟨_, rfl, rfl⟩, ⟨_, rfl, rfl⟩, trivial⟩ trivial ⟨⟨_, _, rfl, rfl, rfl⟩, trivial⟩))
theorem open77 : Go.MG.Opens Try.prog 77 (Go.MG.eR Go.MG.eI) (Go.MG.wfR Go.MG.wfI) := Go.MG.Opens.slice Try.underlying77 (Go.MG.Opens.int Try.underlying3) (fun _ => (by kernel_rfl : Try.prog.cellsOf 3 = 1).symm) (fun _ => rfl) (fun _ => rfl) (by kernel_rfl)
def wfTlaws_Rule (x : Tlaws_Rule) : Prop := Go.MG.wfI x.Kind ∧ (Go.MG.wfR Go.MG.wfI) x.Set ∧ Go.MG.wfI x.N
theorem open131 : Go.MG.Opens Try.prog 131 eTlaws_Rule wfTlaws_Rule := by
  intro H enc W fuel cs x h
  obtain ⟨n, hp⟩ := Go.MG.struct_parts Try.underlying131 (by kernel_rfl : Try.prog.cellsOf 131 = 3) (by kernel_rfl) h
  obtain ⟨c0, k0, y0, rfl, h0, hp⟩ := hp
  obtain ⟨c1, k1, y1, rfl, h1, hp⟩ := hp
  obtain ⟨c2, k2, y2, rfl, h2, hp⟩ := hp
  obtain rfl := hp
  obtain ⟨a0, r0, w0⟩ := (Go.MG.Opens.int Try.underlying3) _ _ _ _ _ _ h0
  obtain ⟨a1, r1, w1⟩ := open77 _ _ _ _ _ _ h1
  obtain ⟨a2, r2, w2⟩ := (Go.MG.Opens.int Try.underlying3) _ _ _ _ _ _ h2
  exact ⟨⟨a0, a1, a2⟩, (r0.append (r1.append (r2.append (rfl : Go.MG.RCs _ [] [])))), w0, w1, w2⟩
theorem open68 : Go.MG.Opens Try.prog 68 (Go.MG.eR eTlaws_Rule) (Go.MG.wfR wfTlaws_Rule) := Go.MG.Opens.slice Try.underlying68 open131 (fun _ => (by kernel_rfl : Try.prog.cellsOf 131 = 3).symm) (fun _ => rfl) (fun _ => rfl) (by kernel_rfl)
def wfTlaws_Ask (x : Tlaws_Ask) : Prop := Go.MG.wfI x.Server ∧ Go.MG.wfI x.Op ∧ (Go.MG.wfR Go.MG.wfI) x.Groups ∧ Go.MG.wfI x.Now ∧ Go.MG.wfI x.Used
end Go.Proofs.Ytflcaebmammlfaa.M
