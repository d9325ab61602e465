import Derived.Test.YtflcaebmammlfaaMgZc
import Derived.Test.YtflcaebmammlfaaProg
namespace Go.Proofs.Ytflcaebmammlfaa.M
open Go Go.MG
set_option linter.unusedVariables false
set_option linter.unusedSimpArgs false
structure Tlaws_Name where
  Parts : List (List UInt8)
  Realm : List UInt8
def eTlaws_Name (x : Tlaws_Name) : List Cell := [Cell.sl true (List.map eS x.Parts), cS x.Realm]
structure Timpl_Name where
  Parts : List (List UInt8)
  Realm : List UInt8
def eTimpl_Name (x : Timpl_Name) : List Cell := [Cell.sl true (List.map eS x.Parts), cS x.Realm]
theorem mixed : Try.prog.follows .mixedOrders = true := by kernel_rfl
theorem shape9 : MG.shape Try.prog 9 = some (false, 1) := by kernel_rfl
theorem shape51 : MG.shape Try.prog 51 = some (false, 1) := by kernel_rfl
theorem shape53 : MG.shape Try.prog 53 = some (true, 2) := by kernel_rfl
theorem shape56 : MG.shape Try.prog 56 = some (true, 2) := by kernel_rfl
theorem info5 : Try.prog.info? 5 = some Try.t5 := by kernel_rfl
theorem info9 : Try.prog.info? 9 = some Try.t9 := by kernel_rfl
theorem info51 : Try.prog.info? 51 = some Try.t51 := by kernel_rfl
theorem info56 : Try.prog.info? 56 = some Try.t56 := by kernel_rfl
/-! ### Flaws_szStringS -/
def Flaws_szStringS.l2 : Nat → (List (List UInt8)) → Int → Int → Option Int
  | 0, _, _, _ => none
  | k2 + 1, v24, v25, v26 => cond (decide (v26 < (v24.length : Int))) ((at? v24 v26).bind fun b28 => cond (decide ((IntKind.i64.wrap (v25 - (b28.length : Int))) < (0 : Int))) (some (-1 : Int)) ((Flaws_szStringS.l2 k2) v24 (IntKind.i64.wrap (v25 - (b28.length : Int))) (IntKind.i64.wrap (v26 + (1 : Int))))) (some v25)
def Flaws_szStringS (k : Nat) (a0 : List (List UInt8)) (a1 : Int) : Option Int := cond (decide ((IntKind.i64.wrap (a1 - (a0.length : Int))) < (0 : Int))) (some (-1 : Int)) (Flaws_szStringS.l2 k a0 (IntKind.i64.wrap (a1 - (a0.length : Int))) (0 : Int))
theorem ent106 : Enters Try.prog 106 := ⟨Try.f106, Try.func106, rfl, by decide⟩
set_option maxHeartbeats 8000000 in
set_option maxRecDepth 100000 in
theorem Flaws_szStringS_gives (k : Nat) (g0 : Bool) (a0 : List (List UInt8)) (a1 : Int) (r : Int) (H : Flaws_szStringS k a0 a1 = some r) : Gives Try.prog 106 [V.one (Cell.sl g0 (List.map eS a0)), V.one (cI a1)] [] [V.one (cI r)] [] := by
  refine Gives.intro Try.func106 rfl rfl rfl rfl ?_
  intro F hF hm
  unfold Flaws_szStringS at H
  obtain ⟨K, hK⟩ : ∃ K, k ≤ K := ⟨k, Nat.le_refl k⟩
  refine WpC.seq ?_
  refine WpC.regionL ?_
  refine L.assign hF rfl rfl rfl ?_
  refine L.nil ?_
  refine WpC.seq ?_
  refine WpC.regionL ?_
  refine L.move hF rfl rfl rfl ?_
  refine L.move hF rfl rfl rfl ?_
  refine L.lenR (xs := a0) (e := eS) Try.underlying51 hF rfl rfl rfl rfl ?_
  refine L.bin hF rfl rfl rfl rfl rfl rfl ?_
  refine L.assign hF rfl rfl rfl ?_
  refine L.nil ?_
  refine WpC.seq ?_
  refine WpC.seq ?_
  refine WpC.regionL ?_
  refine L.move hF rfl rfl rfl ?_
  refine L.bin hF rfl rfl rfl rfl rfl rfl ?_
  refine L.nil ?_
  refine WpC.cond rfl (fun hc => ?_) (fun hc => ?_)
  · replace H := condT hc H
    refine WpC.seq ?_
    refine WpC.regionL ?_
    refine L.assign hF rfl rfl rfl ?_
    refine L.nil ?_
    refine WpC.ret ?_
    cases H
    exact Leaves.ret rfl rfl rfl ⟨rfl, rfl⟩
  · replace H := condF hc H
    refine WpC.skip ?_
    refine WpC.seq ?_
    refine WpC.seq ?_
    refine WpC.regionL ?_
    refine L.assign hF rfl rfl rfl ?_
    refine L.nil ?_
    refine WpC.block ?_
    refine WpC.loopL (P := Try.prog) (fun n σ => ∃ v24 : List (List UInt8), ∃ v25 : Int, ∃ v26 : Int, n ≤ K ∧ Flaws_szStringS.l2 n v24 v25 v26 = some r ∧ σ = mkSt [(0, one (Cell.sl g0 (List.map eS v24))), (1, one (cI v25)), (5, one (cI v26))] [] [] 0) k ⟨_, ⟨a0, (IntKind.i64.wrap (a1 - (a0.length : Int))), (0 : Int), by omega, H, rfl⟩, Le.mk [] hm rfl ⟨⟨_, rfl, rfl⟩, ⟨_, rfl, rfl⟩, ⟨_, rfl, rfl⟩, trivial⟩ trivial trivial⟩ ?_
    clear H
    rintro k2 _ ⟨v24, v25, v26, hk2, H, rfl⟩
    cases k2 with
    | zero => cases H
    | succ k2 =>
      rw [Flaws_szStringS.l2] at H
      refine WpC.seq ?_
      refine WpC.seq ?_
      refine WpC.regionL ?_
      refine L.move hF rfl rfl rfl ?_
      refine L.move hF rfl rfl rfl ?_
      refine L.lenR (xs := v24) (e := eS) Try.underlying51 hF rfl rfl rfl rfl ?_
      refine L.bin hF rfl rfl rfl rfl rfl rfl ?_
      refine L.nil ?_
      refine WpC.cond rfl (fun hc => ?_) (fun hc => ?_)
      · replace H := condT hc H
        refine WpC.skip ?_
        refine WpC.seq ?_
        refine WpC.block ?_
        refine WpC.seq ?_
        refine WpC.regionL ?_
        refine L.move hF rfl rfl rfl ?_
        refine L.move hF rfl rfl rfl ?_
        refine L.move hF rfl rfl rfl ?_
        obtain ⟨b28, hb28, H⟩ := bindS H
        refine L.idxR (xs := v24) (e := eS) Try.underlying51 info9 hF rfl rfl rfl rfl rfl hb28 rfl rfl ?_
        refine L.loadPe shape9 hF rfl rfl rfl rfl rfl ?_
        refine L.lenS Try.underlying9 hF rfl rfl rfl ?_
        refine L.bin hF rfl rfl rfl rfl rfl rfl ?_
        refine L.assign hF rfl rfl rfl ?_
        refine L.nil ?_
        refine WpC.seq ?_
        refine WpC.regionL ?_
        refine L.move hF rfl rfl rfl ?_
        refine L.bin hF rfl rfl rfl rfl rfl rfl ?_
        refine L.nil ?_
        refine WpC.cond rfl (fun hc => ?_) (fun hc => ?_)
        · replace H := condT hc H
          refine WpC.seq ?_
          refine WpC.regionL ?_
          refine L.assign hF rfl rfl rfl ?_
          refine L.nil ?_
          refine WpC.ret ?_
          cases H
          exact Leaves.ret rfl rfl rfl ⟨rfl, rfl⟩
        · replace H := condF hc H
          refine WpC.skip ?_
          refine WpC.regionL ?_
          refine L.move hF rfl rfl rfl ?_
          refine L.bin hF rfl rfl rfl rfl rfl rfl ?_
          refine L.assign hF rfl rfl rfl ?_
          refine L.nil ?_
          exact ⟨k2, _, by omega, ⟨v24, (IntKind.i64.wrap (v25 - (b28.length : Int))), (IntKind.i64.wrap (v26 + (1 : Int))), by omega, H, rfl⟩, Le.mk [] hm rfl ⟨⟨_, rfl, rfl⟩, ⟨_, rfl, rfl⟩, ⟨_, rfl, rfl⟩, trivial⟩ trivial trivial⟩
      · replace H := condF hc H
        refine WpC.exit ?_
        refine WpC.seq ?_
        refine WpC.regionL ?_
        refine L.move hF rfl rfl rfl ?_
        refine L.assign hF rfl rfl rfl ?_
        refine L.nil ?_
        refine WpC.ret ?_
        cases H
        exact Leaves.ret rfl rfl rfl ⟨rfl, rfl⟩
/-! ### Flaws_szName -/
def Flaws_szName (k : Nat) (a0 : Tlaws_Name) (a1 : Int) : Option Int := (Flaws_szStringS k a0.Parts a1).bind fun r1 => cond (decide (r1 < (0 : Int))) (some (-1 : Int)) (cond (decide ((IntKind.i64.wrap (r1 - (a0.Realm.length : Int))) < (0 : Int))) (some (-1 : Int)) (some (IntKind.i64.wrap (r1 - (a0.Realm.length : Int)))))
theorem ent47 : Enters Try.prog 47 := ⟨Try.f47, Try.func47, rfl, by decide⟩
set_option maxHeartbeats 8000000 in
set_option maxRecDepth 100000 in
theorem Flaws_szName_gives (k : Nat) (g0 : Bool) (a0 : Tlaws_Name) (a1 : Int) (r : Int) (H : Flaws_szName k a0 a1 = some r) : Gives Try.prog 47 [V.agg [Cell.sl g0 (List.map eS a0.Parts), cS a0.Realm], V.one (cI a1)] [] [V.one (cI r)] [] := by
  refine Gives.intro Try.func47 rfl rfl rfl rfl ?_
  intro F hF hm
  unfold Flaws_szName at H
  obtain ⟨K, hK⟩ : ∃ K, k ≤ K := ⟨k, Nat.le_refl k⟩
  refine WpC.seq ?_
  refine WpC.regionL ?_
  refine L.box 3 hF rfl rfl rfl rfl ?_
  refine L.assign hF rfl rfl rfl ?_
  refine L.nil ?_
  refine WpC.seq ?_
  refine WpC.regionL ?_
  refine L.fieldAddr Try.underlying53 rfl info51 rfl hF rfl rfl rfl rfl rfl ?_
  refine L.loadPtr shape51 hF rfl rfl rfl rfl rfl rfl ?_
  refine L.move hF rfl rfl rfl ?_
  obtain ⟨r1, hr1, H⟩ := bindS H
  refine L.call [false, false] [] [] 4 hF rfl rfl rfl ent106 rfl rfl rfl rfl rfl (Flaws_szStringS_gives k g0 a0.Parts a1 r1 hr1) rfl ?_
  refine L.assign hF rfl rfl rfl ?_
  refine L.nil ?_
  refine WpC.seq ?_
  refine WpC.seq ?_
  refine WpC.regionL ?_
  refine L.move hF rfl rfl rfl ?_
  refine L.bin hF rfl rfl rfl rfl rfl rfl ?_
  refine L.nil ?_
  refine WpC.cond rfl (fun hc => ?_) (fun hc => ?_)
  · replace H := condT hc H
    refine WpC.seq ?_
    refine WpC.regionL ?_
    refine L.assign hF rfl rfl rfl ?_
    refine L.nil ?_
    refine WpC.ret ?_
    cases H
    exact Leaves.ret rfl rfl rfl ⟨rfl, rfl⟩
  · replace H := condF hc H
    refine WpC.skip ?_
    refine WpC.seq ?_
    refine WpC.regionL ?_
    refine L.move hF rfl rfl rfl ?_
    refine L.fieldAddr Try.underlying53 rfl info9 rfl hF rfl rfl rfl rfl rfl ?_
    refine L.loadPtr shape9 hF rfl rfl rfl rfl rfl rfl ?_
    refine L.lenS Try.underlying9 hF rfl rfl rfl ?_
    refine L.bin hF rfl rfl rfl rfl rfl rfl ?_
    refine L.assign hF rfl rfl rfl ?_
    refine L.nil ?_
    refine WpC.seq ?_
    refine WpC.seq ?_
    refine WpC.regionL ?_
    refine L.move hF rfl rfl rfl ?_
    refine L.bin hF rfl rfl rfl rfl rfl rfl ?_
    refine L.nil ?_
    refine WpC.cond rfl (fun hc => ?_) (fun hc => ?_)
    · replace H := condT hc H
      refine WpC.seq ?_
      refine WpC.regionL ?_
      refine L.assign hF rfl rfl rfl ?_
      refine L.nil ?_
      refine WpC.ret ?_
      cases H
      exact Leaves.ret rfl rfl rfl ⟨rfl, rfl⟩
    · replace H := condF hc H
      refine WpC.skip ?_
      refine WpC.seq ?_
      refine WpC.regionL ?_
      refine L.move hF rfl rfl rfl ?_
      refine L.assign hF rfl rfl rfl ?_
      refine L.nil ?_
      refine WpC.ret ?_
      cases H
      exact Leaves.ret rfl rfl rfl ⟨rfl, rfl⟩
/-! ### Flaws_toStringS -/
def Flaws_toStringS.l2 : Nat → (List (List UInt8)) → (List (List UInt8)) → Int → Option (List (List UInt8))
  | 0, _, _, _ => none
  | k2 + 1, v35, v36, v37 => cond (decide (v37 < (v35.length : Int))) ((at? v35 v37).bind fun b40 => (at? v36 v37).bind fun b41 => (Flaws_toStringS.l2 k2) v35 (v36.set v37.toNat b40) (IntKind.i64.wrap (v37 + (1 : Int)))) (some v36)
def Flaws_toStringS (k : Nat) (a0 : List (List UInt8)) : Option (List (List UInt8)) := cond (decide (0 ≤ (a0.length : Int) ∧ (a0.length : Int) ≤ (a0.length : Int) ∧ 16 * (a0.length : Int) ≤ 281474976710656 ∧ (a0.length : Int) ≤ 9223372036854775807)) (Flaws_toStringS.l2 k a0 (List.replicate (a0.length : Int).toNat ([] : List UInt8)) (0 : Int)) none
theorem ent108 : Enters Try.prog 108 := ⟨Try.f108, Try.func108, rfl, by decide⟩
set_option maxHeartbeats 8000000 in
set_option maxRecDepth 100000 in
theorem Flaws_toStringS_gives (k : Nat) (g0 : Bool) (a0 : List (List UInt8)) (r : List (List UInt8)) (H : Flaws_toStringS k a0 = some r) : Gives Try.prog 108 [V.one (Cell.sl g0 (List.map eS a0))] [] [V.one (Cell.ow 1 (List.map eS r))] [] := by
  refine Gives.intro Try.func108 rfl rfl rfl rfl ?_
  intro F hF hm
  unfold Flaws_toStringS at H
  obtain ⟨K, hK⟩ : ∃ K, k ≤ K := ⟨k, Nat.le_refl k⟩
  refine WpC.seq ?_
  refine WpC.regionL ?_
  refine L.assign hF rfl rfl rfl ?_
  refine L.nil ?_
  refine WpC.seq ?_
  refine WpC.regionL ?_
  refine L.move hF rfl rfl rfl ?_
  refine L.lenR (xs := a0) (e := eS) Try.underlying51 hF rfl rfl rfl rfl ?_
  obtain ⟨h1, H⟩ := condG H
  refine L.makeSlice (e := eS) 1 ([] : List UInt8) Try.underlying51 info9 rfl rfl rfl hF rfl rfl rfl rfl (of_decide_eq_true h1) rfl rfl ?_
  refine L.assign hF rfl rfl rfl ?_
  refine L.nil ?_
  refine WpC.seq ?_
  refine WpC.seq ?_
  refine WpC.regionL ?_
  refine L.assign hF rfl rfl rfl ?_
  refine L.nil ?_
  refine WpC.block ?_
  refine WpC.loopL (P := Try.prog) (fun n σ => ∃ v35 : List (List UInt8), ∃ v36 : List (List UInt8), ∃ v37 : Int, n ≤ K ∧ Flaws_toStringS.l2 n v35 v36 v37 = some r ∧ σ = mkSt [(0, one (Cell.sl g0 (List.map eS v35))), (3, one (Cell.own 0)), (4, one (cI v37))] [(0, ⟨1, List.map eS v36⟩)] [] 1) k ⟨_, ⟨a0, (List.replicate (a0.length : Int).toNat ([] : List UInt8)), (0 : Int), by omega, H, rfl⟩, Le.mk [(0, 1)] hm rfl ⟨⟨_, rfl, rfl⟩, ⟨_, rfl, rfl⟩, ⟨_, rfl, rfl⟩, trivial⟩ ⟨⟨_, rfl, rfl⟩, trivial⟩ trivial⟩ ?_
  clear H
  rintro k2 _ ⟨v35, v36, v37, hk2, H, rfl⟩
  cases k2 with
  | zero => cases H
  | succ k2 =>
    rw [Flaws_toStringS.l2] at H
    refine WpC.seq ?_
    refine WpC.seq ?_
    refine WpC.regionL ?_
    refine L.move hF rfl rfl rfl ?_
    refine L.move hF rfl rfl rfl ?_
    refine L.lenR (xs := v35) (e := eS) Try.underlying51 hF rfl rfl rfl rfl ?_
    refine L.bin hF rfl rfl rfl rfl rfl rfl ?_
    refine L.nil ?_
    refine WpC.cond rfl (fun hc => ?_) (fun hc => ?_)
    · replace H := condT hc H
      refine WpC.skip ?_
      refine WpC.seq ?_
      refine WpC.block ?_
      refine WpC.regionL ?_
      refine L.move hF rfl rfl rfl ?_
      refine L.move hF rfl rfl rfl ?_
      refine L.move hF rfl rfl rfl ?_
      refine L.move hF rfl rfl rfl ?_
      obtain ⟨b40, hb40, H⟩ := bindS H
      refine L.idxR (xs := v35) (e := eS) Try.underlying51 info9 hF rfl rfl rfl rfl rfl hb40 rfl rfl ?_
      refine L.loadPe shape9 hF rfl rfl rfl rfl rfl ?_
      obtain ⟨b41, hb41, H⟩ := bindS H
      refine L.idxR (xs := v36) (e := eS) Try.underlying51 info9 hF rfl rfl rfl rfl rfl hb41 rfl rfl ?_
      refine L.storeEp (xs := v36) (e := eS) (a' := b40) shape9 hF rfl rfl rfl rfl rfl rfl rfl (at?_get hb41).2 rfl rfl ?_
      refine L.nil ?_
      refine WpC.regionL ?_
      refine L.move hF rfl rfl rfl ?_
      refine L.bin hF rfl rfl rfl rfl rfl rfl ?_
      refine L.assign hF rfl rfl rfl ?_
      refine L.nil ?_
      exact ⟨k2, _, by omega, ⟨v35, (v36.set v37.toNat b40), (IntKind.i64.wrap (v37 + (1 : Int))), by omega, H, rfl⟩, Le.mk [(0, 0)] hm rfl ⟨⟨_, rfl, rfl⟩, ⟨_, rfl, rfl⟩, ⟨_, rfl, rfl⟩, trivial⟩ ⟨⟨_, rfl, rfl⟩, trivial⟩ trivial⟩
    · replace H := condF hc H
      refine WpC.exit ?_
      refine WpC.seq ?_
      refine WpC.regionL ?_
      refine L.move hF rfl rfl rfl ?_
      refine L.assign hF rfl rfl rfl ?_
      refine L.nil ?_
      refine WpC.ret ?_
      cases H
      exact Leaves.ret rfl rfl rfl ⟨rfl, rfl⟩
/-! ### Flaws_toName -/
def Flaws_toName (k : Nat) (a0 : Tlaws_Name) : Option Timpl_Name := (Flaws_toStringS k a0.Parts).bind fun r1 => some (⟨r1, a0.Realm⟩ : Timpl_Name)
theorem ent49 : Enters Try.prog 49 := ⟨Try.f49, Try.func49, rfl, by decide⟩
set_option maxHeartbeats 8000000 in
set_option maxRecDepth 100000 in
theorem Flaws_toName_gives (k : Nat) (g0 : Bool) (a0 : Tlaws_Name) (r : Timpl_Name) (H : Flaws_toName k a0 = some r) : Gives Try.prog 49 [V.agg [Cell.sl g0 (List.map eS a0.Parts), cS a0.Realm]] [] [V.agg [Cell.ow 1 (List.map eS r.Parts), cS r.Realm]] [] := by
  refine Gives.intro Try.func49 rfl rfl rfl rfl ?_
  intro F hF hm
  unfold Flaws_toName at H
  obtain ⟨K, hK⟩ : ∃ K, k ≤ K := ⟨k, Nat.le_refl k⟩
  refine WpC.seq ?_
  refine WpC.regionL ?_
  refine L.box 2 hF rfl rfl rfl rfl ?_
  refine L.alloc 3 info56 rfl hF rfl rfl rfl rfl ?_
  refine L.nil ?_
  refine WpC.seq ?_
  refine WpC.regionL ?_
  refine L.alloc 4 info56 rfl hF rfl rfl rfl rfl ?_
  refine L.nil ?_
  refine WpC.seq ?_
  refine WpC.regionL ?_
  refine L.fieldAddr Try.underlying53 rfl info51 rfl hF rfl rfl rfl rfl rfl ?_
  refine L.loadPtr shape51 hF rfl rfl rfl rfl rfl rfl ?_
  obtain ⟨r1, hr1, H⟩ := bindS H
  refine L.call [false] [] [] 5 hF rfl rfl rfl ent108 rfl rfl rfl rfl rfl (Flaws_toStringS_gives k g0 a0.Parts r1 hr1) rfl ?_
  refine L.fieldAddr Try.underlying56 rfl info51 rfl hF rfl rfl rfl rfl rfl ?_
  refine L.storePtr shape51 hF rfl rfl rfl rfl rfl rfl rfl ?_
  refine L.nil ?_
  refine WpC.seq ?_
  refine WpC.regionL ?_
  refine L.fieldAddr Try.underlying53 rfl info9 rfl hF rfl rfl rfl rfl rfl ?_
  refine L.loadPtr shape9 hF rfl rfl rfl rfl rfl rfl ?_
  refine L.fieldAddr Try.underlying56 rfl info9 rfl hF rfl rfl rfl rfl rfl ?_
  refine L.storePtr shape9 hF rfl rfl rfl rfl rfl rfl rfl ?_
  refine L.nil ?_
  refine WpC.seq ?_
  refine WpC.regionL ?_
  refine L.loadPtr shape56 hF rfl rfl rfl rfl rfl rfl ?_
  refine L.storePtr shape56 hF rfl rfl rfl rfl rfl rfl rfl ?_
  refine L.nil ?_
  refine WpC.ret ?_
  cases H
  exact Leaves.ret rfl rfl rfl ⟨rfl, rfl⟩
/-! ### Fspec_l1In -/
def Fspec_l1In (k : Nat) (a0 : Int) (a1 : Int) (a2 : Int) : Option Bool := cond (decide (a0 ≥ a1)) (some (decide (a0 ≤ a2))) (some false)
theorem ent92 : Enters Try.prog 92 := ⟨Try.f92, Try.func92, rfl, by decide⟩
set_option maxHeartbeats 8000000 in
set_option maxRecDepth 100000 in
theorem Fspec_l1In_gives (k : Nat) (a0 : Int) (a1 : Int) (a2 : Int) (r : Bool) (H : Fspec_l1In k a0 a1 a2 = some r) : Gives Try.prog 92 [V.one (cI a0), V.one (cI a1), V.one (cI a2)] [] [V.one (cL r)] [] := by
  refine Gives.intro Try.func92 rfl rfl rfl rfl ?_
  intro F hF hm
  unfold Fspec_l1In at H
  obtain ⟨K, hK⟩ : ∃ K, k ≤ K := ⟨k, Nat.le_refl k⟩
  refine WpC.seq ?_
  refine WpC.regionL ?_
  refine L.assign hF rfl rfl rfl ?_
  refine L.nil ?_
  refine WpC.seq ?_
  refine WpC.regionL ?_
  refine L.move hF rfl rfl rfl ?_
  refine L.move hF rfl rfl rfl ?_
  refine L.bin hF rfl rfl rfl rfl rfl rfl ?_
  refine L.move hF rfl rfl rfl ?_
  refine L.split (fun hc => ?_) (fun hc => ?_)
  · replace H := condT hc H
    refine L.move hF rfl rfl rfl ?_
    refine L.move hF rfl rfl rfl ?_
    refine L.bin hF rfl rfl rfl rfl rfl rfl ?_
    refine L.pick hF rfl rfl rfl rfl ?_
    refine L.assign hF rfl rfl rfl ?_
    refine L.nil ?_
    refine WpC.ret ?_
    cases H
    exact Leaves.ret rfl rfl rfl ⟨rfl, rfl⟩
  · replace H := condF hc H
    refine L.off hF rfl rfl ?_
    refine L.off hF rfl rfl ?_
    refine L.off hF rfl rfl ?_
    refine L.pick hF rfl rfl rfl rfl ?_
    refine L.assign hF rfl rfl rfl ?_
    refine L.nil ?_
    refine WpC.ret ?_
    cases H
    exact Leaves.ret rfl rfl rfl ⟨rfl, rfl⟩
/-! ### Fspec_l18Part -/
def Fspec_l18Part.l2 : Nat → (List UInt8) → Int → Option Bool
  | 0, _, _ => none
  | k2 + 1, v49, v50 => cond (decide (v50 < (v49.length : Int))) ((at? v49 v50).bind fun b57 => cond (decide (b57 < (33 : UInt8))) (some false) ((at? v49 v50).bind fun b58 => cond (decide ((126 : UInt8) < b58)) (some false) ((Fspec_l18Part.l2 k2) v49 (IntKind.i64.wrap (v50 + (1 : Int)))))) (some true)
def Fspec_l18Part (k : Nat) (a0 : List UInt8) : Option Bool := cond (decide ((a0.length : Int) > (20 : Int))) (some false) (Fspec_l18Part.l2 k a0 (0 : Int))
theorem ent107 : Enters Try.prog 107 := ⟨Try.f107, Try.func107, rfl, by decide⟩
set_option maxHeartbeats 8000000 in
set_option maxRecDepth 100000 in
theorem Fspec_l18Part_gives (k : Nat) (a0 : List UInt8) (r : Bool) (H : Fspec_l18Part k a0 = some r) : Gives Try.prog 107 [V.one (cS a0)] [] [V.one (cL r)] [] := by
  refine Gives.intro Try.func107 rfl rfl rfl rfl ?_
  intro F hF hm
  unfold Fspec_l18Part at H
  obtain ⟨K, hK⟩ : ∃ K, k ≤ K := ⟨k, Nat.le_refl k⟩
  refine WpC.seq ?_
  refine WpC.regionL ?_
  refine L.assign hF rfl rfl rfl ?_
  refine L.nil ?_
  refine WpC.seq ?_
  refine WpC.seq ?_
  refine WpC.regionL ?_
  refine L.move hF rfl rfl rfl ?_
  refine L.lenS Try.underlying9 hF rfl rfl rfl ?_
  refine L.bin hF rfl rfl rfl rfl rfl rfl ?_
  refine L.nil ?_
  refine WpC.cond rfl (fun hc => ?_) (fun hc => ?_)
  · replace H := condT hc H
    refine WpC.seq ?_
    refine WpC.regionL ?_
    refine L.assign hF rfl rfl rfl ?_
    refine L.nil ?_
    refine WpC.ret ?_
    cases H
    exact Leaves.ret rfl rfl rfl ⟨rfl, rfl⟩
  · replace H := condF hc H
    refine WpC.skip ?_
    refine WpC.seq ?_
    refine WpC.seq ?_
    refine WpC.regionL ?_
    refine L.assign hF rfl rfl rfl ?_
    refine L.nil ?_
    refine WpC.block ?_
    refine WpC.loopL (P := Try.prog) (fun n σ => ∃ v49 : List UInt8, ∃ v50 : Int, n ≤ K ∧ Fspec_l18Part.l2 n v49 v50 = some r ∧ σ = mkSt [(0, one (cS v49)), (3, one (cI v50))] [] [] 0) k ⟨_, ⟨a0, (0 : Int), by omega, H, rfl⟩, Le.mk [] hm rfl ⟨⟨_, rfl, rfl⟩, ⟨_, rfl, rfl⟩, trivial⟩ trivial trivial⟩ ?_
    clear H
    rintro k2 _ ⟨v49, v50, hk2, H, rfl⟩
    cases k2 with
    | zero => cases H
    | succ k2 =>
      rw [Fspec_l18Part.l2] at H
      refine WpC.seq ?_
      refine WpC.seq ?_
      refine WpC.regionL ?_
      refine L.move hF rfl rfl rfl ?_
      refine L.move hF rfl rfl rfl ?_
      refine L.lenS Try.underlying9 hF rfl rfl rfl ?_
      refine L.bin hF rfl rfl rfl rfl rfl rfl ?_
      refine L.nil ?_
      refine WpC.cond rfl (fun hc => ?_) (fun hc => ?_)
      · replace H := condT hc H
        refine WpC.skip ?_
        refine WpC.seq ?_
        refine WpC.block ?_
        refine WpC.seq ?_
        refine WpC.regionL ?_
        refine L.move hF rfl rfl rfl ?_
        refine L.move hF rfl rfl rfl ?_
        obtain ⟨b57, hb57, H⟩ := bindS H
        refine L.idxS Try.underlying9 hF rfl rfl rfl rfl hb57 ?_
        refine L.binB (a := b57) (b := (33 : UInt8)) hF rfl rfl rfl rfl rfl ?_
        refine L.move hF rfl rfl rfl ?_
        refine L.split (fun hc => ?_) (fun hc => ?_)
        · replace H := condT hc H
          refine L.off hF rfl rfl ?_
          refine L.off hF rfl rfl ?_
          refine L.off hF rfl rfl ?_
          refine L.off hF rfl rfl ?_
          refine L.pick hF rfl rfl rfl rfl ?_
          refine L.nil ?_
          refine WpC.cond rfl (fun _ => ?_) (fun hc => by cases hc)
          refine WpC.seq ?_
          refine WpC.regionL ?_
          refine L.assign hF rfl rfl rfl ?_
          refine L.nil ?_
          refine WpC.ret ?_
          cases H
          exact Leaves.ret rfl rfl rfl ⟨rfl, rfl⟩
        · replace H := condF hc H
          refine L.move hF rfl rfl rfl ?_
          refine L.move hF rfl rfl rfl ?_
          obtain ⟨b58, hb58, H⟩ := bindS H
          refine L.idxS Try.underlying9 hF rfl rfl rfl rfl hb58 ?_
          refine L.binB (a := b58) (b := (126 : UInt8)) hF rfl rfl rfl rfl rfl ?_
          refine L.pick hF rfl rfl rfl rfl ?_
          refine L.nil ?_
          refine WpC.cond rfl (fun hc => ?_) (fun hc => ?_)
          · replace H := condT hc H
            refine WpC.seq ?_
            refine WpC.regionL ?_
            refine L.assign hF rfl rfl rfl ?_
            refine L.nil ?_
            refine WpC.ret ?_
            cases H
            exact Leaves.ret rfl rfl rfl ⟨rfl, rfl⟩
          · replace H := condF hc H
            refine WpC.skip ?_
            refine WpC.regionL ?_
            refine L.move hF rfl rfl rfl ?_
            refine L.bin hF rfl rfl rfl rfl rfl rfl ?_
            refine L.assign hF rfl rfl rfl ?_
            refine L.nil ?_
            exact ⟨k2, _, by omega, ⟨v49, (IntKind.i64.wrap (v50 + (1 : Int))), by omega, H, rfl⟩, Le.mk [] hm rfl ⟨⟨_, rfl, rfl⟩, ⟨_, rfl, rfl⟩, trivial⟩ trivial trivial⟩
      · replace H := condF hc H
        refine WpC.exit ?_
        refine WpC.seq ?_
        refine WpC.regionL ?_
        refine L.assign hF rfl rfl rfl ?_
        refine L.nil ?_
        refine WpC.ret ?_
        cases H
        exact Leaves.ret rfl rfl rfl ⟨rfl, rfl⟩
/-! ### Fspec_NameOk -/
def Fspec_NameOk.l2 : Nat → Int → (List (List UInt8)) → (List UInt8) → Option Bool
  | 0, _, _, _ => none
  | k2 + 1, v82, v83, v84 => cond (decide (v82 < (v83.length : Int))) ((at? v83 v82).bind fun b94 => cond (b94 == ([] : List UInt8)) (some false) ((at? v83 v82).bind fun b95 => (Fspec_l18Part k2 b95).bind fun r96 => cond (!r96) (some false) ((Fspec_NameOk.l2 k2) (IntKind.i64.wrap (v82 + (1 : Int))) v83 v84))) (some true)
def Fspec_NameOk (k : Nat) (a0 : Timpl_Name) : Option Bool := (Fspec_l1In k (a0.Parts.length : Int) (1 : Int) (4 : Int)).bind fun r7 => cond (!r7) (some false) ((Fspec_l18Part k a0.Realm).bind fun r8 => cond (!r8) (some false) (Fspec_NameOk.l2 k (0 : Int) a0.Parts a0.Realm))
theorem ent48 : Enters Try.prog 48 := ⟨Try.f48, Try.func48, rfl, by decide⟩
set_option maxHeartbeats 8000000 in
set_option maxRecDepth 100000 in
theorem Fspec_NameOk_gives (k : Nat) (g0 : Bool) (a0 : Timpl_Name) (r : Bool) (H : Fspec_NameOk k a0 = some r) : Gives Try.prog 48 [V.agg [Cell.sl g0 (List.map eS a0.Parts), cS a0.Realm]] [] [V.one (cL r)] [] := by
  refine Gives.intro Try.func48 rfl rfl rfl rfl ?_
  intro F hF hm
  unfold Fspec_NameOk at H
  obtain ⟨K, hK⟩ : ∃ K, k ≤ K := ⟨k, Nat.le_refl k⟩
  refine WpC.seq ?_
  refine WpC.regionL ?_
  refine L.box 2 hF rfl rfl rfl rfl ?_
  refine L.assign hF rfl rfl rfl ?_
  refine L.nil ?_
  refine WpC.seq ?_
  refine WpC.seq ?_
  refine WpC.regionL ?_
  refine L.fieldAddr Try.underlying56 rfl info51 rfl hF rfl rfl rfl rfl rfl ?_
  refine L.loadPtr shape51 hF rfl rfl rfl rfl rfl rfl ?_
  refine L.lenR (xs := a0.Parts) (e := eS) Try.underlying51 hF rfl rfl rfl rfl ?_
  obtain ⟨r7, hr7, H⟩ := bindS H
  refine L.call [false, false, false] [] [] 3 hF rfl rfl rfl ent92 rfl rfl rfl rfl rfl (Fspec_l1In_gives k  (a0.Parts.length : Int) (1 : Int) (4 : Int) r7 hr7) rfl ?_
  refine L.not hF rfl rfl rfl ?_
  refine L.move hF rfl rfl rfl ?_
  refine L.split (fun hc => ?_) (fun hc => ?_)
  · replace H := condT hc H
    refine L.off hF rfl rfl ?_
    refine L.off hF rfl rfl ?_
    refine L.off hF rfl rfl ?_
    refine L.off hF rfl rfl ?_
    refine L.pick hF rfl rfl rfl rfl ?_
    refine L.nil ?_
    refine WpC.cond rfl (fun _ => ?_) (fun hc => by cases hc)
    refine WpC.seq ?_
    refine WpC.regionL ?_
    refine L.assign hF rfl rfl rfl ?_
    refine L.nil ?_
    refine WpC.ret ?_
    cases H
    exact Leaves.ret rfl rfl rfl ⟨rfl, rfl⟩
  · replace H := condF hc H
    refine L.fieldAddr Try.underlying56 rfl info9 rfl hF rfl rfl rfl rfl rfl ?_
    refine L.loadPtr shape9 hF rfl rfl rfl rfl rfl rfl ?_
    obtain ⟨r8, hr8, H⟩ := bindS H
    refine L.call [false] [] [] 4 hF rfl rfl rfl ent107 rfl rfl rfl rfl rfl (Fspec_l18Part_gives k  a0.Realm r8 hr8) rfl ?_
    refine L.not hF rfl rfl rfl ?_
    refine L.pick hF rfl rfl rfl rfl ?_
    refine L.nil ?_
    refine WpC.cond rfl (fun hc => ?_) (fun hc => ?_)
    · replace H := condT hc H
      refine WpC.seq ?_
      refine WpC.regionL ?_
      refine L.assign hF rfl rfl rfl ?_
      refine L.nil ?_
      refine WpC.ret ?_
      cases H
      exact Leaves.ret rfl rfl rfl ⟨rfl, rfl⟩
    · replace H := condF hc H
      refine WpC.skip ?_
      refine WpC.seq ?_
      refine WpC.seq ?_
      refine WpC.regionL ?_
      refine L.assign hF rfl rfl rfl ?_
      refine L.nil ?_
      refine WpC.block ?_
      refine WpC.loopL (P := Try.prog) (fun n σ => ∃ v82 : Int, ∃ v83 : List (List UInt8), ∃ v84 : List UInt8, n ≤ K ∧ Fspec_NameOk.l2 n v82 v83 v84 = some r ∧ σ = mkSt [(1, one (Cell.ptr 0 0)), (3, one (cI v82))] [] [(0, [Cell.sl g0 (List.map eS v83), cS v84])] 1) k ⟨_, ⟨(0 : Int), a0.Parts, a0.Realm, by omega, H, rfl⟩, Le.mk [(0, 2)] hm rfl ⟨⟨_, rfl, rfl⟩, ⟨_, rfl, rfl⟩, trivial⟩ trivial ⟨⟨_, _, rfl, rfl, rfl⟩, trivial⟩⟩ ?_
      clear H
      rintro k2 _ ⟨v82, v83, v84, hk2, H, rfl⟩
      cases k2 with
      | zero => cases H
      | succ k2 =>
        rw [Fspec_NameOk.l2] at H
        refine WpC.seq ?_
        refine WpC.seq ?_
        refine WpC.regionL ?_
        refine L.move hF rfl rfl rfl ?_
        refine L.fieldAddr Try.underlying56 rfl info51 rfl hF rfl rfl rfl rfl rfl ?_
        refine L.loadPtr shape51 hF rfl rfl rfl rfl rfl rfl ?_
        refine L.lenR (xs := v83) (e := eS) Try.underlying51 hF rfl rfl rfl rfl ?_
        refine L.bin hF rfl rfl rfl rfl rfl rfl ?_
        refine L.nil ?_
        refine WpC.cond rfl (fun hc => ?_) (fun hc => ?_)
        · replace H := condT hc H
          refine WpC.skip ?_
          refine WpC.seq ?_
          refine WpC.block ?_
          refine WpC.seq ?_
          refine WpC.regionL ?_
          refine L.fieldAddr Try.underlying56 rfl info51 rfl hF rfl rfl rfl rfl rfl ?_
          refine L.loadPtr shape51 hF rfl rfl rfl rfl rfl rfl ?_
          refine L.move hF rfl rfl rfl ?_
          obtain ⟨b94, hb94, H⟩ := bindS H
          refine L.idxR (xs := v83) (e := eS) Try.underlying51 info9 hF rfl rfl rfl rfl rfl hb94 rfl rfl ?_
          refine L.loadPe shape9 hF rfl rfl rfl rfl rfl ?_
          refine L.binS hF rfl rfl rfl rfl rfl ?_
          refine L.move hF rfl rfl rfl ?_
          refine L.split (fun hc => ?_) (fun hc => ?_)
          · replace H := condT hc H
            refine L.off hF rfl rfl ?_
            refine L.off hF rfl rfl ?_
            refine L.off hF rfl rfl ?_
            refine L.off hF rfl rfl ?_
            refine L.off hF rfl rfl ?_
            refine L.off hF rfl rfl ?_
            refine L.off hF rfl rfl ?_
            refine L.pick hF rfl rfl rfl rfl ?_
            refine L.nil ?_
            refine WpC.cond rfl (fun _ => ?_) (fun hc => by cases hc)
            refine WpC.seq ?_
            refine WpC.regionL ?_
            refine L.assign hF rfl rfl rfl ?_
            refine L.nil ?_
            refine WpC.ret ?_
            cases H
            exact Leaves.ret rfl rfl rfl ⟨rfl, rfl⟩
          · replace H := condF hc H
            refine L.fieldAddr Try.underlying56 rfl info51 rfl hF rfl rfl rfl rfl rfl ?_
            refine L.loadPtr shape51 hF rfl rfl rfl rfl rfl rfl ?_
            refine L.move hF rfl rfl rfl ?_
            obtain ⟨b95, hb95, H⟩ := bindS H
            refine L.idxR (xs := v83) (e := eS) Try.underlying51 info9 hF rfl rfl rfl rfl rfl hb95 rfl rfl ?_
            refine L.loadPe shape9 hF rfl rfl rfl rfl rfl ?_
            obtain ⟨r96, hr96, H⟩ := bindS H
            refine L.call [false] [] [] 1 hF rfl rfl rfl ent107 rfl rfl rfl rfl rfl (Fspec_l18Part_gives k2  b95 r96 hr96) rfl ?_
            refine L.not hF rfl rfl rfl ?_
            refine L.pick hF rfl rfl rfl rfl ?_
            refine L.nil ?_
            refine WpC.cond rfl (fun hc => ?_) (fun hc => ?_)
            · replace H := condT hc H
              refine WpC.seq ?_
              refine WpC.regionL ?_
              refine L.assign hF rfl rfl rfl ?_
              refine L.nil ?_
              refine WpC.ret ?_
              cases H
              exact Leaves.ret rfl rfl rfl ⟨rfl, rfl⟩
            · replace H := condF hc H
              refine WpC.skip ?_
              refine WpC.regionL ?_
              refine L.move hF rfl rfl rfl ?_
              refine L.bin hF rfl rfl rfl rfl rfl rfl ?_
              refine L.assign hF rfl rfl rfl ?_
              refine L.nil ?_
              exact ⟨k2, _, by omega, ⟨(IntKind.i64.wrap (v82 + (1 : Int))), v83, v84, by omega, H, rfl⟩, Le.mk [(0, 0)] hm rfl ⟨⟨_, rfl, rfl⟩, ⟨_, rfl, rfl⟩, trivial⟩ trivial ⟨⟨_, _, rfl, rfl, rfl⟩, trivial⟩⟩
        · replace H := condF hc H
          refine WpC.exit ?_
          refine WpC.seq ?_
          refine WpC.regionL ?_
          refine L.assign hF rfl rfl rfl ?_
          refine L.nil ?_
          refine WpC.ret ?_
          cases H
          exact Leaves.ret rfl rfl rfl ⟨rfl, rfl⟩
/-! ### Fspec_l18Esc -/
def Fspec_l18Esc.j37 (cl32 : (List UInt8) → (List UInt8) → Int → Option (List UInt8)) (k : Nat) (v303 : List UInt8) (v304 : List UInt8) (v305 : Int) : Option (List UInt8) := (at? v303 v305).bind fun b306 => cond (decide ((2 * (v304.length + ([b306] : List UInt8).length) + 192) * 1 ≤ 281474976710656)) (cl32 v303 (v304 ++ ([b306] : List UInt8)) (IntKind.i64.wrap (v305 + (1 : Int)))) none
def Fspec_l18Esc.j38 (cl32 : (List UInt8) → (List UInt8) → Int → Option (List UInt8)) (k : Nat) (v311 : List UInt8) (v312 : List UInt8) (v313 : Int) (v314 : Bool) : Option (List UInt8) := cond v314 (cond (decide ((2 * (v312.length + ([(92 : UInt8)] : List UInt8).length) + 192) * 1 ≤ 281474976710656)) (Fspec_l18Esc.j37 cl32 k v311 (v312 ++ ([(92 : UInt8)] : List UInt8)) v313) none) (Fspec_l18Esc.j37 cl32 k v311 v312 v313)
def Fspec_l18Esc.l32 : Nat → (List UInt8) → (List UInt8) → Int → Option (List UInt8)
  | 0, _, _, _ => none
  | k32 + 1, v262, v263, v264 => cond (decide (v264 < (v262.length : Int))) ((at? v262 v264).bind fun b316 => cond (b316 == (47 : UInt8)) (Fspec_l18Esc.j38 (Fspec_l18Esc.l32 k32) k32 v262 v263 v264 true) ((at? v262 v264).bind fun b317 => cond (b317 == (64 : UInt8)) (Fspec_l18Esc.j38 (Fspec_l18Esc.l32 k32) k32 v262 v263 v264 true) ((at? v262 v264).bind fun b318 => Fspec_l18Esc.j38 (Fspec_l18Esc.l32 k32) k32 v262 v263 v264 (b318 == (92 : UInt8))))) (some v263)
def Fspec_l18Esc (k : Nat) (a0 : List UInt8) : Option (List UInt8) := Fspec_l18Esc.l32 k a0 ([] : List UInt8) (0 : Int)
theorem ent125 : Enters Try.prog 125 := ⟨Try.f125, Try.func125, rfl, by decide⟩
set_option maxHeartbeats 8000000 in
set_option maxRecDepth 100000 in
theorem Fspec_l18Esc_gives (k : Nat) (a0 : List UInt8) (r : List UInt8) (H : Fspec_l18Esc k a0 = some r) : Gives Try.prog 125 [V.one (cS a0)] [] [V.one (cS r)] [] := by
  refine Gives.intro Try.func125 rfl rfl rfl rfl ?_
  intro F hF hm
  unfold Fspec_l18Esc at H
  obtain ⟨K, hK⟩ : ∃ K, k ≤ K := ⟨k, Nat.le_refl k⟩
  refine WpC.seq ?_
  refine WpC.regionL ?_
  refine L.assign hF rfl rfl rfl ?_
  refine L.nil ?_
  refine WpC.seq ?_
  refine WpC.regionL ?_
  refine L.buildSlice (e := eB) 1 ([] : List UInt8) Try.underlying35 info5 rfl rfl rfl hF rfl rfl rfl rfl rfl rfl rfl rfl ?_
  refine L.assign hF rfl rfl rfl ?_
  refine L.nil ?_
  refine WpC.seq ?_
  refine WpC.seq ?_
  refine WpC.regionL ?_
  refine L.assign hF rfl rfl rfl ?_
  refine L.nil ?_
  refine WpC.block ?_
  refine WpC.loopL (P := Try.prog) (fun n σ => ∃ v262 : List UInt8, ∃ v263 : List UInt8, ∃ v264 : Int, n ≤ K ∧ Fspec_l18Esc.l32 n v262 v263 v264 = some r ∧ σ = mkSt [(0, one (cS v262)), (3, one (Cell.own 0)), (4, one (cI v264))] [(0, ⟨1, List.map eB v263⟩)] [] 1) k ⟨_, ⟨a0, ([] : List UInt8), (0 : Int), by omega, H, rfl⟩, Le.mk [(0, 1)] hm rfl ⟨⟨_, rfl, rfl⟩, ⟨_, rfl, rfl⟩, ⟨_, rfl, rfl⟩, trivial⟩ ⟨⟨_, rfl, rfl⟩, trivial⟩ trivial⟩ ?_
  clear H
  rintro k32 _ ⟨v262, v263, v264, hk32, H, rfl⟩
  cases k32 with
  | zero => cases H
  | succ k32 =>
    rw [Fspec_l18Esc.l32] at H
    refine WpC.seq ?_
    refine WpC.seq ?_
    refine WpC.regionL ?_
    refine L.move hF rfl rfl rfl ?_
    refine L.move hF rfl rfl rfl ?_
    refine L.lenS Try.underlying9 hF rfl rfl rfl ?_
    refine L.bin hF rfl rfl rfl rfl rfl rfl ?_
    refine L.nil ?_
    refine WpC.cond rfl (fun hc => ?_) (fun hc => ?_)
    · replace H := condT hc H
      refine WpC.skip ?_
      refine WpC.seq ?_
      refine WpC.block ?_
      refine WpC.join (fun σ => ∃ kj37 : Nat, ∃ v303 : List UInt8, ∃ v304 : List UInt8, ∃ v305 : Int, kj37 ≤ K ∧ Fspec_l18Esc.j37 (Fspec_l18Esc.l32 k32) kj37 v303 v304 v305 = some r ∧ σ = mkSt [(0, one (cS v303)), (3, one (Cell.own 0)), (4, one (cI v305))] [(0, ⟨1, List.map eB v304⟩)] [] 1) ?_ ?_
      · rintro _ ⟨kj37, v303, v304, v305, hkj37, H, rfl⟩
        unfold Fspec_l18Esc.j37 at H
        refine WpC.regionL ?_
        refine L.move hF rfl rfl rfl ?_
        refine L.move hF rfl rfl rfl ?_
        refine L.move hF rfl rfl rfl ?_
        obtain ⟨b306, hb306, H⟩ := bindS H
        refine L.idxS Try.underlying9 hF rfl rfl rfl rfl hb306 ?_
        refine L.buildSlice (e := eB) 1 ([b306] : List UInt8) Try.underlying35 info5 rfl rfl rfl hF rfl rfl rfl rfl rfl rfl rfl rfl ?_
        obtain ⟨h307, H⟩ := condG H
        refine L.append (xs := v304) (ys := ([b306] : List UInt8)) (e := eB) 2 Try.underlying35 info5 rfl rfl hF rfl rfl rfl rfl rfl rfl rfl rfl (fun _ => rfl) (fun _ _ h1 h2 => by cases h1; cases h2; rfl) ⟨_, Try.underlying35⟩ (of_decide_eq_true h307) rfl rfl ?_
        refine L.assign hF rfl rfl rfl ?_
        refine L.nil ?_
        refine WpC.regionL ?_
        refine L.move hF rfl rfl rfl ?_
        refine L.bin hF rfl rfl rfl rfl rfl rfl ?_
        refine L.assign hF rfl rfl rfl ?_
        refine L.nil ?_
        exact ⟨k32, _, by omega, ⟨v303, (v304 ++ ([b306] : List UInt8)), (IntKind.i64.wrap (v305 + (1 : Int))), by omega, H, rfl⟩, Le.mk [(0, 2)] hm rfl ⟨⟨_, rfl, rfl⟩, ⟨_, rfl, rfl⟩, ⟨_, rfl, rfl⟩, trivial⟩ ⟨⟨_, rfl, rfl⟩, trivial⟩ trivial⟩
      · refine WpC.join (fun σ => ∃ kj38 : Nat, ∃ v311 : List UInt8, ∃ v312 : List UInt8, ∃ v313 : Int, ∃ v314 : Bool, kj38 ≤ K ∧ Fspec_l18Esc.j38 (Fspec_l18Esc.l32 k32) kj38 v311 v312 v313 v314 = some r ∧ σ = mkSt [(0, one (cS v311)), (3, one (Cell.own 0)), (4, one (cI v313)), (27, one (cL v314))] [(0, ⟨1, List.map eB v312⟩)] [] 1) ?_ ?_
        · rintro _ ⟨kj38, v311, v312, v313, v314, hkj38, H, rfl⟩
          unfold Fspec_l18Esc.j38 at H
          refine WpC.cond rfl (fun hc => ?_) (fun hc => ?_)
          · replace H := condT hc H
            refine WpC.regionL ?_
            refine L.move hF rfl rfl rfl ?_
            refine L.buildSlice (e := eB) 1 ([(92 : UInt8)] : List UInt8) Try.underlying35 info5 rfl rfl rfl hF rfl rfl rfl rfl rfl rfl rfl rfl ?_
            obtain ⟨h315, H⟩ := condG H
            refine L.append (xs := v312) (ys := ([(92 : UInt8)] : List UInt8)) (e := eB) 2 Try.underlying35 info5 rfl rfl hF rfl rfl rfl rfl rfl rfl rfl rfl (fun _ => rfl) (fun _ _ h1 h2 => by cases h1; cases h2; rfl) ⟨_, Try.underlying35⟩ (of_decide_eq_true h315) rfl rfl ?_
            refine L.assign hF rfl rfl rfl ?_
            refine L.nil ?_
            exact ⟨_, ⟨kj38, v311, (v312 ++ ([(92 : UInt8)] : List UInt8)), v313, by omega, H, rfl⟩, Le.mk [(0, 2)] hm rfl ⟨⟨_, rfl, rfl⟩, ⟨_, rfl, rfl⟩, ⟨_, rfl, rfl⟩, trivial⟩ ⟨⟨_, rfl, rfl⟩, trivial⟩ trivial⟩
          · replace H := condF hc H
            refine WpC.skip ?_
            exact ⟨_, ⟨kj38, v311, v312, v313, by omega, H, rfl⟩, Le.mk [(0, 0)] hm rfl ⟨⟨_, rfl, rfl⟩, ⟨_, rfl, rfl⟩, ⟨_, rfl, rfl⟩, trivial⟩ ⟨⟨_, rfl, rfl⟩, trivial⟩ trivial⟩
        · refine WpC.regionL ?_
          refine L.move hF rfl rfl rfl ?_
          refine L.move hF rfl rfl rfl ?_
          obtain ⟨b316, hb316, H⟩ := bindS H
          refine L.idxS Try.underlying9 hF rfl rfl rfl rfl hb316 ?_
          refine L.binB (a := b316) (b := (47 : UInt8)) hF rfl rfl rfl rfl rfl ?_
          refine L.move hF rfl rfl rfl ?_
          refine L.split (fun hc => ?_) (fun hc => ?_)
          · replace H := condT hc H
            refine L.off hF rfl rfl ?_
            refine L.off hF rfl rfl ?_
            refine L.off hF rfl rfl ?_
            refine L.off hF rfl rfl ?_
            refine L.pick hF rfl rfl rfl rfl ?_
            refine L.move hF rfl rfl rfl ?_
            refine L.off hF rfl rfl ?_
            refine L.off hF rfl rfl ?_
            refine L.off hF rfl rfl ?_
            refine L.off hF rfl rfl ?_
            refine L.pick hF rfl rfl rfl rfl ?_
            refine L.nil ?_
            exact ⟨_, ⟨k32, v262, v263, v264, true, by omega, H, rfl⟩, Le.mk [(0, 0)] hm rfl ⟨⟨_, rfl, rfl⟩, ⟨_, rfl, rfl⟩, ⟨_, rfl, rfl⟩, ⟨_, rfl, rfl⟩, trivial⟩ ⟨⟨_, rfl, rfl⟩, trivial⟩ trivial⟩
          · replace H := condF hc H
            refine L.move hF rfl rfl rfl ?_
            refine L.move hF rfl rfl rfl ?_
            obtain ⟨b317, hb317, H⟩ := bindS H
            refine L.idxS Try.underlying9 hF rfl rfl rfl rfl hb317 ?_
            refine L.binB (a := b317) (b := (64 : UInt8)) hF rfl rfl rfl rfl rfl ?_
            refine L.pick hF rfl rfl rfl rfl ?_
            refine L.move hF rfl rfl rfl ?_
            refine L.split (fun hc => ?_) (fun hc => ?_)
            · replace H := condT hc H
              refine L.off hF rfl rfl ?_
              refine L.off hF rfl rfl ?_
              refine L.off hF rfl rfl ?_
              refine L.off hF rfl rfl ?_
              refine L.pick hF rfl rfl rfl rfl ?_
              refine L.nil ?_
              exact ⟨_, ⟨k32, v262, v263, v264, true, by omega, H, rfl⟩, Le.mk [(0, 0)] hm rfl ⟨⟨_, rfl, rfl⟩, ⟨_, rfl, rfl⟩, ⟨_, rfl, rfl⟩, ⟨_, rfl, rfl⟩, trivial⟩ ⟨⟨_, rfl, rfl⟩, trivial⟩ trivial⟩
            · replace H := condF hc H
              refine L.move hF rfl rfl rfl ?_
              refine L.move hF rfl rfl rfl ?_
              obtain ⟨b318, hb318, H⟩ := bindS H
              refine L.idxS Try.underlying9 hF rfl rfl rfl rfl hb318 ?_
              refine L.binB (a := b318) (b := (92 : UInt8)) hF rfl rfl rfl rfl rfl ?_
              refine L.pick hF rfl rfl rfl rfl ?_
              refine L.nil ?_
              exact ⟨_, ⟨k32, v262, v263, v264, (b318 == (92 : UInt8)), by omega, H, rfl⟩, Le.mk [(0, 0)] hm rfl ⟨⟨_, rfl, rfl⟩, ⟨_, rfl, rfl⟩, ⟨_, rfl, rfl⟩, ⟨_, rfl, rfl⟩, trivial⟩ ⟨⟨_, rfl, rfl⟩, trivial⟩ trivial⟩
    · replace H := condF hc H
      refine WpC.exit ?_
      refine WpC.seq ?_
      refine WpC.regionL ?_
      refine L.move hF rfl rfl rfl ?_
      refine L.b2s (xs := v263) Try.underlying35 Try.underlying5 Try.underlying9 hF rfl rfl rfl rfl ?_
      refine L.assign hF rfl rfl rfl ?_
      refine L.nil ?_
      refine WpC.ret ?_
      cases H
      exact Leaves.ret rfl rfl rfl ⟨rfl, rfl⟩
/-! ### Fspec_ShowName -/
def Fspec_ShowName.j14 (cl12 : (List UInt8) → Int → (List (List UInt8)) → (List UInt8) → Option (List UInt8)) (k : Nat) (v119 : List UInt8) (v120 : Int) (v121 : List (List UInt8)) (v122 : List UInt8) : Option (List UInt8) := (at? v121 v120).bind fun b123 => (Fspec_l18Esc k b123).bind fun r124 => cond (decide (v119.length + r124.length ≤ 9223372036854775807)) (cl12 (v119 ++ r124) (IntKind.i64.wrap (v120 + (1 : Int))) v121 v122) none
def Fspec_ShowName.l12 : Nat → (List UInt8) → Int → (List (List UInt8)) → (List UInt8) → Option (List UInt8)
  | 0, _, _, _, _ => none
  | k12 + 1, v105, v106, v107, v108 => cond (decide (v106 < (v107.length : Int))) (cond (decide (v106 > (0 : Int))) (cond (decide (v105.length + ([47] : List UInt8).length ≤ 9223372036854775807)) (Fspec_ShowName.j14 (Fspec_ShowName.l12 k12) k12 (v105 ++ ([47] : List UInt8)) v106 v107 v108) none) (Fspec_ShowName.j14 (Fspec_ShowName.l12 k12) k12 v105 v106 v107 v108)) (cond (v108 != ([] : List UInt8)) (cond (decide (v105.length + ([64] : List UInt8).length ≤ 9223372036854775807)) ((Fspec_l18Esc k12 v108).bind fun r131 => cond (decide ((v105 ++ ([64] : List UInt8)).length + r131.length ≤ 9223372036854775807)) (some ((v105 ++ ([64] : List UInt8)) ++ r131)) none) none) (some v105))
def Fspec_ShowName (k : Nat) (a0 : Timpl_Name) : Option (List UInt8) := (Fspec_NameOk k a0).bind fun r2 => cond (!r2) (some ([] : List UInt8)) (Fspec_ShowName.l12 k ([] : List UInt8) (0 : Int) a0.Parts a0.Realm)
theorem ent66 : Enters Try.prog 66 := ⟨Try.f66, Try.func66, rfl, by decide⟩
set_option maxHeartbeats 8000000 in
set_option maxRecDepth 100000 in
theorem Fspec_ShowName_gives (k : Nat) (g0 : Bool) (a0 : Timpl_Name) (r : List UInt8) (H : Fspec_ShowName k a0 = some r) : Gives Try.prog 66 [V.agg [Cell.sl g0 (List.map eS a0.Parts), cS a0.Realm]] [] [V.one (cS r)] [] := by
  refine Gives.intro Try.func66 rfl rfl rfl rfl ?_
  intro F hF hm
  unfold Fspec_ShowName at H
  obtain ⟨K, hK⟩ : ∃ K, k ≤ K := ⟨k, Nat.le_refl k⟩
  refine WpC.seq ?_
  refine WpC.regionL ?_
  refine L.box 2 hF rfl rfl rfl rfl ?_
  refine L.assign hF rfl rfl rfl ?_
  refine L.nil ?_
  refine WpC.seq ?_
  refine WpC.seq ?_
  refine WpC.regionL ?_
  refine L.loadPtr shape56 hF rfl rfl rfl rfl rfl rfl ?_
  obtain ⟨r2, hr2, H⟩ := bindS H
  refine L.call [false] [] [] 3 hF rfl rfl rfl ent48 rfl rfl rfl rfl rfl (Fspec_NameOk_gives k g0 a0 r2 hr2) rfl ?_
  refine L.not hF rfl rfl rfl ?_
  refine L.nil ?_
  refine WpC.cond rfl (fun hc => ?_) (fun hc => ?_)
  · replace H := condT hc H
    refine WpC.seq ?_
    refine WpC.regionL ?_
    refine L.assign hF rfl rfl rfl ?_
    refine L.nil ?_
    refine WpC.ret ?_
    cases H
    exact Leaves.ret rfl rfl rfl ⟨rfl, rfl⟩
  · replace H := condF hc H
    refine WpC.skip ?_
    refine WpC.seq ?_
    refine WpC.regionL ?_
    refine L.assign hF rfl rfl rfl ?_
    refine L.nil ?_
    refine WpC.seq ?_
    refine WpC.seq ?_
    refine WpC.regionL ?_
    refine L.assign hF rfl rfl rfl ?_
    refine L.nil ?_
    refine WpC.block ?_
    refine WpC.loopL (P := Try.prog) (fun n σ => ∃ v105 : List UInt8, ∃ v106 : Int, ∃ v107 : List (List UInt8), ∃ v108 : List UInt8, n ≤ K ∧ Fspec_ShowName.l12 n v105 v106 v107 v108 = some r ∧ σ = mkSt [(1, one (Cell.ptr 0 0)), (3, one (cS v105)), (4, one (cI v106))] [] [(0, [Cell.sl g0 (List.map eS v107), cS v108])] 1) k ⟨_, ⟨([] : List UInt8), (0 : Int), a0.Parts, a0.Realm, by omega, H, rfl⟩, Le.mk [(0, 2)] hm rfl ⟨⟨_, rfl, rfl⟩, ⟨_, rfl, rfl⟩, ⟨_, rfl, rfl⟩, trivial⟩ trivial ⟨⟨_, _, rfl, rfl, rfl⟩, trivial⟩⟩ ?_
    clear H
    rintro k12 _ ⟨v105, v106, v107, v108, hk12, H, rfl⟩
    cases k12 with
    | zero => cases H
    | succ k12 =>
      rw [Fspec_ShowName.l12] at H
      refine WpC.seq ?_
      refine WpC.seq ?_
      refine WpC.regionL ?_
      refine L.move hF rfl rfl rfl ?_
      refine L.fieldAddr Try.underlying56 rfl info51 rfl hF rfl rfl rfl rfl rfl ?_
      refine L.loadPtr shape51 hF rfl rfl rfl rfl rfl rfl ?_
      refine L.lenR (xs := v107) (e := eS) Try.underlying51 hF rfl rfl rfl rfl ?_
      refine L.bin hF rfl rfl rfl rfl rfl rfl ?_
      refine L.nil ?_
      refine WpC.cond rfl (fun hc => ?_) (fun hc => ?_)
      · replace H := condT hc H
        refine WpC.skip ?_
        refine WpC.seq ?_
        refine WpC.block ?_
        refine WpC.join (fun σ => ∃ kj14 : Nat, ∃ v119 : List UInt8, ∃ v120 : Int, ∃ v121 : List (List UInt8), ∃ v122 : List UInt8, kj14 ≤ K ∧ Fspec_ShowName.j14 (Fspec_ShowName.l12 k12) kj14 v119 v120 v121 v122 = some r ∧ σ = mkSt [(1, one (Cell.ptr 0 0)), (3, one (cS v119)), (4, one (cI v120))] [] [(0, [Cell.sl g0 (List.map eS v121), cS v122])] 1) ?_ ?_
        · rintro _ ⟨kj14, v119, v120, v121, v122, hkj14, H, rfl⟩
          unfold Fspec_ShowName.j14 at H
          refine WpC.regionL ?_
          refine L.move hF rfl rfl rfl ?_
          refine L.fieldAddr Try.underlying56 rfl info51 rfl hF rfl rfl rfl rfl rfl ?_
          refine L.loadPtr shape51 hF rfl rfl rfl rfl rfl rfl ?_
          refine L.move hF rfl rfl rfl ?_
          obtain ⟨b123, hb123, H⟩ := bindS H
          refine L.idxR (xs := v121) (e := eS) Try.underlying51 info9 hF rfl rfl rfl rfl rfl hb123 rfl rfl ?_
          refine L.loadPe shape9 hF rfl rfl rfl rfl rfl ?_
          obtain ⟨r124, hr124, H⟩ := bindS H
          refine L.call [false] [] [] 1 hF rfl rfl rfl ent125 rfl rfl rfl rfl rfl (Fspec_l18Esc_gives kj14  b123 r124 hr124) rfl ?_
          obtain ⟨h125, H⟩ := condG H
          refine L.catS hF rfl rfl rfl rfl (of_decide_eq_true h125) ?_
          refine L.assign hF rfl rfl rfl ?_
          refine L.nil ?_
          refine WpC.regionL ?_
          refine L.move hF rfl rfl rfl ?_
          refine L.bin hF rfl rfl rfl rfl rfl rfl ?_
          refine L.assign hF rfl rfl rfl ?_
          refine L.nil ?_
          exact ⟨k12, _, by omega, ⟨(v119 ++ r124), (IntKind.i64.wrap (v120 + (1 : Int))), v121, v122, by omega, H, rfl⟩, Le.mk [(0, 0)] hm rfl ⟨⟨_, rfl, rfl⟩, ⟨_, rfl, rfl⟩, ⟨_, rfl, rfl⟩, trivial⟩ trivial ⟨⟨_, _, rfl, rfl, rfl⟩, trivial⟩⟩
        · refine WpC.seq ?_
          refine WpC.regionL ?_
          refine L.move hF rfl rfl rfl ?_
          refine L.bin hF rfl rfl rfl rfl rfl rfl ?_
          refine L.nil ?_
          refine WpC.cond rfl (fun hc => ?_) (fun hc => ?_)
          · replace H := condT hc H
            refine WpC.regionL ?_
            refine L.move hF rfl rfl rfl ?_
            obtain ⟨h126, H⟩ := condG H
            refine L.catS hF rfl rfl rfl rfl (of_decide_eq_true h126) ?_
            refine L.assign hF rfl rfl rfl ?_
            refine L.nil ?_
            exact ⟨_, ⟨k12, (v105 ++ ([47] : List UInt8)), v106, v107, v108, by omega, H, rfl⟩, Le.mk [(0, 0)] hm rfl ⟨⟨_, rfl, rfl⟩, ⟨_, rfl, rfl⟩, ⟨_, rfl, rfl⟩, trivial⟩ trivial ⟨⟨_, _, rfl, rfl, rfl⟩, trivial⟩⟩
          · replace H := condF hc H
            refine WpC.skip ?_
            exact ⟨_, ⟨k12, v105, v106, v107, v108, by omega, H, rfl⟩, Le.mk [(0, 0)] hm rfl ⟨⟨_, rfl, rfl⟩, ⟨_, rfl, rfl⟩, ⟨_, rfl, rfl⟩, trivial⟩ trivial ⟨⟨_, _, rfl, rfl, rfl⟩, trivial⟩⟩
      · replace H := condF hc H
        refine WpC.exit ?_
        refine WpC.seq ?_
        refine WpC.seq ?_
        refine WpC.regionL ?_
        refine L.fieldAddr Try.underlying56 rfl info9 rfl hF rfl rfl rfl rfl rfl ?_
        refine L.loadPtr shape9 hF rfl rfl rfl rfl rfl rfl ?_
        refine L.binS hF rfl rfl rfl rfl rfl ?_
        refine L.nil ?_
        refine WpC.cond rfl (fun hc => ?_) (fun hc => ?_)
        · replace H := condT hc H
          refine WpC.regionL ?_
          refine L.move hF rfl rfl rfl ?_
          obtain ⟨h130, H⟩ := condG H
          refine L.catS hF rfl rfl rfl rfl (of_decide_eq_true h130) ?_
          refine L.fieldAddr Try.underlying56 rfl info9 rfl hF rfl rfl rfl rfl rfl ?_
          refine L.loadPtr shape9 hF rfl rfl rfl rfl rfl rfl ?_
          obtain ⟨r131, hr131, H⟩ := bindS H
          refine L.call [false] [] [] 1 hF rfl rfl rfl ent125 rfl rfl rfl rfl rfl (Fspec_l18Esc_gives k12  v108 r131 hr131) rfl ?_
          obtain ⟨h132, H⟩ := condG H
          refine L.catS hF rfl rfl rfl rfl (of_decide_eq_true h132) ?_
          refine L.assign hF rfl rfl rfl ?_
          refine L.nil ?_
          refine WpC.seq ?_
          refine WpC.regionL ?_
          refine L.move hF rfl rfl rfl ?_
          refine L.assign hF rfl rfl rfl ?_
          refine L.nil ?_
          refine WpC.ret ?_
          cases H
          exact Leaves.ret rfl rfl rfl ⟨rfl, rfl⟩
        · replace H := condF hc H
          refine WpC.skip ?_
          refine WpC.seq ?_
          refine WpC.regionL ?_
          refine L.move hF rfl rfl rfl ?_
          refine L.assign hF rfl rfl rfl ?_
          refine L.nil ?_
          refine WpC.ret ?_
          cases H
          exact Leaves.ret rfl rfl rfl ⟨rfl, rfl⟩
/-! ### Fimpl_within -/
def Fimpl_within (k : Nat) (a0 : Int) (a1 : Int) (a2 : Int) : Option Bool := cond (decide (a0 ≥ a1)) (some (decide (a0 ≤ a2))) (some false)
theorem ent93 : Enters Try.prog 93 := ⟨Try.f93, Try.func93, rfl, by decide⟩
set_option maxHeartbeats 8000000 in
set_option maxRecDepth 100000 in
theorem Fimpl_within_gives (k : Nat) (a0 : Int) (a1 : Int) (a2 : Int) (r : Bool) (H : Fimpl_within k a0 a1 a2 = some r) : Gives Try.prog 93 [V.one (cI a0), V.one (cI a1), V.one (cI a2)] [] [V.one (cL r)] [] := by
  refine Gives.intro Try.func93 rfl rfl rfl rfl ?_
  intro F hF hm
  unfold Fimpl_within at H
  obtain ⟨K, hK⟩ : ∃ K, k ≤ K := ⟨k, Nat.le_refl k⟩
  refine WpC.seq ?_
  refine WpC.regionL ?_
  refine L.assign hF rfl rfl rfl ?_
  refine L.nil ?_
  refine WpC.seq ?_
  refine WpC.regionL ?_
  refine L.move hF rfl rfl rfl ?_
  refine L.move hF rfl rfl rfl ?_
  refine L.bin hF rfl rfl rfl rfl rfl rfl ?_
  refine L.move hF rfl rfl rfl ?_
  refine L.split (fun hc => ?_) (fun hc => ?_)
  · replace H := condT hc H
    refine L.move hF rfl rfl rfl ?_
    refine L.move hF rfl rfl rfl ?_
    refine L.bin hF rfl rfl rfl rfl rfl rfl ?_
    refine L.pick hF rfl rfl rfl rfl ?_
    refine L.assign hF rfl rfl rfl ?_
    refine L.nil ?_
    refine WpC.ret ?_
    cases H
    exact Leaves.ret rfl rfl rfl ⟨rfl, rfl⟩
  · replace H := condF hc H
    refine L.off hF rfl rfl ?_
    refine L.off hF rfl rfl ?_
    refine L.off hF rfl rfl ?_
    refine L.pick hF rfl rfl rfl rfl ?_
    refine L.assign hF rfl rfl rfl ?_
    refine L.nil ?_
    refine WpC.ret ?_
    cases H
    exact Leaves.ret rfl rfl rfl ⟨rfl, rfl⟩
/-! ### Fimpl_isPart -/
def Fimpl_isPart.l2 : Nat → (List UInt8) → Int → Int → Option Bool
  | 0, _, _, _ => none
  | k2 + 1, v34, v35, v36 => cond (decide (v36 < (v34.length : Int))) ((at? v34 v36).bind fun b39 => (Fimpl_within k2 (b39.toNat : Int) (33 : Int) (126 : Int)).bind fun r40 => cond (!r40) (some false) ((Fimpl_isPart.l2 k2) v34 v35 (IntKind.i64.wrap (v36 + (1 : Int))))) ((Fimpl_within k2 (v34.length : Int) v35 (20 : Int)).bind fun r41 => some r41)
def Fimpl_isPart (k : Nat) (a0 : List UInt8) (a1 : Int) : Option Bool := Fimpl_isPart.l2 k a0 a1 (0 : Int)
theorem ent109 : Enters Try.prog 109 := ⟨Try.f109, Try.func109, rfl, by decide⟩
set_option maxHeartbeats 8000000 in
set_option maxRecDepth 100000 in
theorem Fimpl_isPart_gives (k : Nat) (a0 : List UInt8) (a1 : Int) (r : Bool) (H : Fimpl_isPart k a0 a1 = some r) : Gives Try.prog 109 [V.one (cS a0), V.one (cI a1)] [] [V.one (cL r)] [] := by
  refine Gives.intro Try.func109 rfl rfl rfl rfl ?_
  intro F hF hm
  unfold Fimpl_isPart at H
  obtain ⟨K, hK⟩ : ∃ K, k ≤ K := ⟨k, Nat.le_refl k⟩
  refine WpC.seq ?_
  refine WpC.regionL ?_
  refine L.assign hF rfl rfl rfl ?_
  refine L.nil ?_
  refine WpC.seq ?_
  refine WpC.seq ?_
  refine WpC.regionL ?_
  refine L.assign hF rfl rfl rfl ?_
  refine L.nil ?_
  refine WpC.block ?_
  refine WpC.loopL (P := Try.prog) (fun n σ => ∃ v34 : List UInt8, ∃ v35 : Int, ∃ v36 : Int, n ≤ K ∧ Fimpl_isPart.l2 n v34 v35 v36 = some r ∧ σ = mkSt [(0, one (cS v34)), (1, one (cI v35)), (5, one (cI v36))] [] [] 0) k ⟨_, ⟨a0, a1, (0 : Int), by omega, H, rfl⟩, Le.mk [] hm rfl ⟨⟨_, rfl, rfl⟩, ⟨_, rfl, rfl⟩, ⟨_, rfl, rfl⟩, trivial⟩ trivial trivial⟩ ?_
  clear H
  rintro k2 _ ⟨v34, v35, v36, hk2, H, rfl⟩
  cases k2 with
  | zero => cases H
  | succ k2 =>
    rw [Fimpl_isPart.l2] at H
    refine WpC.seq ?_
    refine WpC.seq ?_
    refine WpC.regionL ?_
    refine L.move hF rfl rfl rfl ?_
    refine L.move hF rfl rfl rfl ?_
    refine L.lenS Try.underlying9 hF rfl rfl rfl ?_
    refine L.bin hF rfl rfl rfl rfl rfl rfl ?_
    refine L.nil ?_
    refine WpC.cond rfl (fun hc => ?_) (fun hc => ?_)
    · replace H := condT hc H
      refine WpC.skip ?_
      refine WpC.seq ?_
      refine WpC.block ?_
      refine WpC.seq ?_
      refine WpC.regionL ?_
      refine L.move hF rfl rfl rfl ?_
      refine L.move hF rfl rfl rfl ?_
      obtain ⟨b39, hb39, H⟩ := bindS H
      refine L.idxS Try.underlying9 hF rfl rfl rfl rfl hb39 ?_
      refine L.ofB Try.underlying5 Try.underlying3 hF rfl rfl rfl ?_
      obtain ⟨r40, hr40, H⟩ := bindS H
      refine L.call [false, false, false] [] [] 0 hF rfl rfl rfl ent93 rfl rfl rfl rfl rfl (Fimpl_within_gives k2  (b39.toNat : Int) (33 : Int) (126 : Int) r40 hr40) rfl ?_
      refine L.not hF rfl rfl rfl ?_
      refine L.nil ?_
      refine WpC.cond rfl (fun hc => ?_) (fun hc => ?_)
      · replace H := condT hc H
        refine WpC.seq ?_
        refine WpC.regionL ?_
        refine L.assign hF rfl rfl rfl ?_
        refine L.nil ?_
        refine WpC.ret ?_
        cases H
        exact Leaves.ret rfl rfl rfl ⟨rfl, rfl⟩
      · replace H := condF hc H
        refine WpC.skip ?_
        refine WpC.regionL ?_
        refine L.move hF rfl rfl rfl ?_
        refine L.bin hF rfl rfl rfl rfl rfl rfl ?_
        refine L.assign hF rfl rfl rfl ?_
        refine L.nil ?_
        exact ⟨k2, _, by omega, ⟨v34, v35, (IntKind.i64.wrap (v36 + (1 : Int))), by omega, H, rfl⟩, Le.mk [] hm rfl ⟨⟨_, rfl, rfl⟩, ⟨_, rfl, rfl⟩, ⟨_, rfl, rfl⟩, trivial⟩ trivial trivial⟩
    · replace H := condF hc H
      refine WpC.exit ?_
      refine WpC.seq ?_
      refine WpC.regionL ?_
      refine L.move hF rfl rfl rfl ?_
      refine L.lenS Try.underlying9 hF rfl rfl rfl ?_
      refine L.move hF rfl rfl rfl ?_
      obtain ⟨r41, hr41, H⟩ := bindS H
      refine L.call [false, false, false] [] [] 0 hF rfl rfl rfl ent93 rfl rfl rfl rfl rfl (Fimpl_within_gives k2  (v34.length : Int) v35 (20 : Int) r41 hr41) rfl ?_
      refine L.assign hF rfl rfl rfl ?_
      refine L.nil ?_
      refine WpC.ret ?_
      cases H
      exact Leaves.ret rfl rfl rfl ⟨rfl, rfl⟩
/-! ### Fimpl_NameOk_1 -/
def Fimpl_NameOk_1 (k : Nat) (a0 : List UInt8) : Option Bool := (Fimpl_isPart k a0 (1 : Int)).bind fun r1 => some (!r1)
theorem ent111 : Enters Try.prog 111 := ⟨Try.f111, Try.func111, rfl, by decide⟩
set_option maxHeartbeats 8000000 in
set_option maxRecDepth 100000 in
theorem Fimpl_NameOk_1_gives (k : Nat) (a0 : List UInt8) (r : Bool) (H : Fimpl_NameOk_1 k a0 = some r) : Gives Try.prog 111 [V.one (cS a0)] [] [V.one (cL r)] [] := by
  refine Gives.intro Try.func111 rfl rfl rfl rfl ?_
  intro F hF hm
  unfold Fimpl_NameOk_1 at H
  obtain ⟨K, hK⟩ : ∃ K, k ≤ K := ⟨k, Nat.le_refl k⟩
  refine WpC.seq ?_
  refine WpC.regionL ?_
  refine L.assign hF rfl rfl rfl ?_
  refine L.nil ?_
  refine WpC.seq ?_
  refine WpC.regionL ?_
  refine L.move hF rfl rfl rfl ?_
  obtain ⟨r1, hr1, H⟩ := bindS H
  refine L.call [false, false] [] [] 1 hF rfl rfl rfl ent109 rfl rfl rfl rfl rfl (Fimpl_isPart_gives k  a0 (1 : Int) r1 hr1) rfl ?_
  refine L.not hF rfl rfl rfl ?_
  refine L.assign hF rfl rfl rfl ?_
  refine L.nil ?_
  refine WpC.ret ?_
  cases H
  exact Leaves.ret rfl rfl rfl ⟨rfl, rfl⟩
/-! ### Fslices_IndexFunc_string__impl_NameOk_1 -/
def Fslices_IndexFunc_string__impl_NameOk_1.l2 : Nat → (List (List UInt8)) → Int → Int → Option Int
  | 0, _, _, _ => none
  | k2 + 1, v34, v35, v36 => cond (decide (v36 < v35)) ((at? v34 v36).bind fun b39 => (Fimpl_NameOk_1 k2 b39).bind fun r40 => cond r40 (some v36) ((Fslices_IndexFunc_string__impl_NameOk_1.l2 k2) v34 v35 (IntKind.i64.wrap (v36 + (1 : Int))))) (some (-1 : Int))
def Fslices_IndexFunc_string__impl_NameOk_1 (k : Nat) (a0 : List (List UInt8)) : Option Int := Fslices_IndexFunc_string__impl_NameOk_1.l2 k a0 (a0.length : Int) (0 : Int)
theorem ent150 : Enters Try.prog 150 := ⟨Try.f150, Try.func150, rfl, by decide⟩
set_option maxHeartbeats 8000000 in
set_option maxRecDepth 100000 in
theorem Fslices_IndexFunc_string__impl_NameOk_1_gives (k : Nat) (g0 : Bool) (a0 : List (List UInt8)) (r : Int) (H : Fslices_IndexFunc_string__impl_NameOk_1 k a0 = some r) : Gives Try.prog 150 [V.one (Cell.sl g0 (List.map eS a0)), V.one (Cell.clo 111 [])] [] [V.one (cI r)] [] := by
  refine Gives.intro Try.func150 rfl rfl rfl rfl ?_
  intro F hF hm
  unfold Fslices_IndexFunc_string__impl_NameOk_1 at H
  obtain ⟨K, hK⟩ : ∃ K, k ≤ K := ⟨k, Nat.le_refl k⟩
  refine WpC.seq ?_
  refine WpC.regionL ?_
  refine L.assign hF rfl rfl rfl ?_
  refine L.nil ?_
  refine WpC.seq ?_
  refine WpC.seq ?_
  refine WpC.regionL ?_
  refine L.move hF rfl rfl rfl ?_
  refine L.lenR (xs := a0) (e := eS) Try.underlying51 hF rfl rfl rfl rfl ?_
  refine L.move hF rfl rfl rfl ?_
  refine L.nil ?_
  refine WpC.block ?_
  refine WpC.loopL (P := Try.prog) (fun n σ => ∃ v34 : List (List UInt8), ∃ v35 : Int, ∃ v36 : Int, n ≤ K ∧ Fslices_IndexFunc_string__impl_NameOk_1.l2 n v34 v35 v36 = some r ∧ σ = mkSt [(0, one (Cell.sl g0 (List.map eS v34))), (1, one (Cell.clo 111 [])), (7, one (cI v35)), (8, one (cI v36))] [] [] 0) k ⟨_, ⟨a0, (a0.length : Int), (0 : Int), by omega, H, rfl⟩, Le.mk [] hm rfl ⟨⟨_, rfl, rfl⟩, ⟨_, rfl, rfl⟩, ⟨_, rfl, rfl⟩, ⟨_, rfl, rfl⟩, trivial⟩ trivial trivial⟩ ?_
  clear H
  rintro k2 _ ⟨v34, v35, v36, hk2, H, rfl⟩
  cases k2 with
  | zero => cases H
  | succ k2 =>
    rw [Fslices_IndexFunc_string__impl_NameOk_1.l2] at H
    refine WpC.seq ?_
    refine WpC.regionL ?_
    refine L.bin hF rfl rfl rfl rfl rfl rfl ?_
    refine L.nil ?_
    refine WpC.seq ?_
    refine WpC.cond rfl (fun hc => ?_) (fun hc => ?_)
    · replace H := condT hc H
      refine WpC.skip ?_
      refine WpC.seq ?_
      refine WpC.block ?_
      refine WpC.seq ?_
      refine WpC.regionL ?_
      refine L.move hF rfl rfl rfl ?_
      refine L.assign hF rfl rfl rfl ?_
      refine L.nil ?_
      refine WpC.seq ?_
      refine WpC.regionL ?_
      refine L.move hF rfl rfl rfl ?_
      refine L.move hF rfl rfl rfl ?_
      refine L.move hF rfl rfl rfl ?_
      obtain ⟨b39, hb39, H⟩ := bindS H
      refine L.idxR (xs := v34) (e := eS) Try.underlying51 info9 hF rfl rfl rfl rfl rfl hb39 rfl rfl ?_
      refine L.loadPe shape9 hF rfl rfl rfl rfl rfl ?_
      obtain ⟨r40, hr40, H⟩ := bindS H
      refine L.call [false] [] [] 0 hF rfl rfl rfl ent111 rfl rfl rfl rfl rfl (Fimpl_NameOk_1_gives k2  b39 r40 hr40) rfl ?_
      refine L.nil ?_
      refine WpC.cond rfl (fun hc => ?_) (fun hc => ?_)
      · replace H := condT hc H
        refine WpC.seq ?_
        refine WpC.regionL ?_
        refine L.move hF rfl rfl rfl ?_
        refine L.assign hF rfl rfl rfl ?_
        refine L.nil ?_
        refine WpC.ret ?_
        cases H
        exact Leaves.ret rfl rfl rfl ⟨rfl, rfl⟩
      · replace H := condF hc H
        refine WpC.skip ?_
        refine WpC.regionL ?_
        refine L.bin hF rfl rfl rfl rfl rfl rfl ?_
        refine L.move hF rfl rfl rfl ?_
        refine L.nil ?_
        exact ⟨k2, _, by omega, ⟨v34, v35, (IntKind.i64.wrap (v36 + (1 : Int))), by omega, H, rfl⟩, Le.mk [] hm rfl ⟨⟨_, rfl, rfl⟩, ⟨_, rfl, rfl⟩, ⟨_, rfl, rfl⟩, ⟨_, rfl, rfl⟩, trivial⟩ trivial trivial⟩
    · replace H := condF hc H
      refine WpC.exit ?_
      refine WpC.seq ?_
      refine WpC.regionL ?_
      refine L.assign hF rfl rfl rfl ?_
      refine L.nil ?_
      refine WpC.ret ?_
      cases H
      exact Leaves.ret rfl rfl rfl ⟨rfl, rfl⟩
/-! ### Fslices_ContainsFunc_string__impl_NameOk_1 -/
def Fslices_ContainsFunc_string__impl_NameOk_1 (k : Nat) (a0 : List (List UInt8)) : Option Bool := (Fslices_IndexFunc_string__impl_NameOk_1 k a0).bind fun r1 => some (decide (r1 ≥ (0 : Int)))
theorem ent110 : Enters Try.prog 110 := ⟨Try.f110, Try.func110, rfl, by decide⟩
set_option maxHeartbeats 8000000 in
set_option maxRecDepth 100000 in
theorem Fslices_ContainsFunc_string__impl_NameOk_1_gives (k : Nat) (g0 : Bool) (a0 : List (List UInt8)) (r : Bool) (H : Fslices_ContainsFunc_string__impl_NameOk_1 k a0 = some r) : Gives Try.prog 110 [V.one (Cell.sl g0 (List.map eS a0)), V.one (Cell.clo 111 [])] [] [V.one (cL r)] [] := by
  refine Gives.intro Try.func110 rfl rfl rfl rfl ?_
  intro F hF hm
  unfold Fslices_ContainsFunc_string__impl_NameOk_1 at H
  obtain ⟨K, hK⟩ : ∃ K, k ≤ K := ⟨k, Nat.le_refl k⟩
  refine WpC.seq ?_
  refine WpC.regionL ?_
  refine L.assign hF rfl rfl rfl ?_
  refine L.nil ?_
  refine WpC.seq ?_
  refine WpC.regionL ?_
  refine L.move hF rfl rfl rfl ?_
  refine L.move hF rfl rfl rfl ?_
  obtain ⟨r1, hr1, H⟩ := bindS H
  refine L.call [false, false] [] [] 2 hF rfl rfl rfl ent150 rfl rfl rfl rfl rfl (Fslices_IndexFunc_string__impl_NameOk_1_gives k g0 a0 r1 hr1) rfl ?_
  refine L.bin hF rfl rfl rfl rfl rfl rfl ?_
  refine L.assign hF rfl rfl rfl ?_
  refine L.nil ?_
  refine WpC.ret ?_
  cases H
  exact Leaves.ret rfl rfl rfl ⟨rfl, rfl⟩
/-! ### Fimpl_NameOk -/
def Fimpl_NameOk (k : Nat) (a0 : Timpl_Name) : Option Bool := (Fimpl_within k (a0.Parts.length : Int) (1 : Int) (4 : Int)).bind fun r4 => cond r4 ((Fimpl_isPart k a0.Realm (0 : Int)).bind fun r5 => cond r5 ((Fslices_ContainsFunc_string__impl_NameOk_1 k a0.Parts).bind fun r6 => some (!r6)) (some false)) (some false)
theorem ent50 : Enters Try.prog 50 := ⟨Try.f50, Try.func50, rfl, by decide⟩
set_option maxHeartbeats 8000000 in
set_option maxRecDepth 100000 in
theorem Fimpl_NameOk_gives (k : Nat) (g0 : Bool) (a0 : Timpl_Name) (r : Bool) (H : Fimpl_NameOk k a0 = some r) : Gives Try.prog 50 [V.agg [Cell.sl g0 (List.map eS a0.Parts), cS a0.Realm]] [] [V.one (cL r)] [] := by
  refine Gives.intro Try.func50 rfl rfl rfl rfl ?_
  intro F hF hm
  unfold Fimpl_NameOk at H
  obtain ⟨K, hK⟩ : ∃ K, k ≤ K := ⟨k, Nat.le_refl k⟩
  refine WpC.seq ?_
  refine WpC.regionL ?_
  refine L.box 2 hF rfl rfl rfl rfl ?_
  refine L.assign hF rfl rfl rfl ?_
  refine L.nil ?_
  refine WpC.seq ?_
  refine WpC.regionL ?_
  refine L.fieldAddr Try.underlying56 rfl info51 rfl hF rfl rfl rfl rfl rfl ?_
  refine L.loadPtr shape51 hF rfl rfl rfl rfl rfl rfl ?_
  refine L.lenR (xs := a0.Parts) (e := eS) Try.underlying51 hF rfl rfl rfl rfl ?_
  obtain ⟨r4, hr4, H⟩ := bindS H
  refine L.call [false, false, false] [] [] 3 hF rfl rfl rfl ent93 rfl rfl rfl rfl rfl (Fimpl_within_gives k  (a0.Parts.length : Int) (1 : Int) (4 : Int) r4 hr4) rfl ?_
  refine L.move hF rfl rfl rfl ?_
  refine L.split (fun hc => ?_) (fun hc => ?_)
  · replace H := condT hc H
    refine L.fieldAddr Try.underlying56 rfl info9 rfl hF rfl rfl rfl rfl rfl ?_
    refine L.loadPtr shape9 hF rfl rfl rfl rfl rfl rfl ?_
    obtain ⟨r5, hr5, H⟩ := bindS H
    refine L.call [false, false] [] [] 4 hF rfl rfl rfl ent109 rfl rfl rfl rfl rfl (Fimpl_isPart_gives k  a0.Realm (0 : Int) r5 hr5) rfl ?_
    refine L.pick hF rfl rfl rfl rfl ?_
    refine L.move hF rfl rfl rfl ?_
    refine L.split (fun hc => ?_) (fun hc => ?_)
    · replace H := condT hc H
      refine L.fieldAddr Try.underlying56 rfl info51 rfl hF rfl rfl rfl rfl rfl ?_
      refine L.loadPtr shape51 hF rfl rfl rfl rfl rfl rfl ?_
      obtain ⟨r6, hr6, H⟩ := bindS H
      refine L.call [false, false] [] [] 5 hF rfl rfl rfl ent110 rfl rfl rfl rfl rfl (Fslices_ContainsFunc_string__impl_NameOk_1_gives k g0 a0.Parts r6 hr6) rfl ?_
      refine L.not hF rfl rfl rfl ?_
      refine L.pick hF rfl rfl rfl rfl ?_
      refine L.assign hF rfl rfl rfl ?_
      refine L.nil ?_
      refine WpC.ret ?_
      cases H
      exact Leaves.ret rfl rfl rfl ⟨rfl, rfl⟩
    · replace H := condF hc H
      refine L.off hF rfl rfl ?_
      refine L.off hF rfl rfl ?_
      refine L.off hF rfl rfl ?_
      refine L.off hF rfl rfl ?_
      refine L.pick hF rfl rfl rfl rfl ?_
      refine L.assign hF rfl rfl rfl ?_
      refine L.nil ?_
      refine WpC.ret ?_
      cases H
      exact Leaves.ret rfl rfl rfl ⟨rfl, rfl⟩
  · replace H := condF hc H
    refine L.off hF rfl rfl ?_
    refine L.off hF rfl rfl ?_
    refine L.off hF rfl rfl ?_
    refine L.pick hF rfl rfl rfl rfl ?_
    refine L.move hF rfl rfl rfl ?_
    refine L.off hF rfl rfl ?_
    refine L.off hF rfl rfl ?_
    refine L.off hF rfl rfl ?_
    refine L.off hF rfl rfl ?_
    refine L.pick hF rfl rfl rfl rfl ?_
    refine L.assign hF rfl rfl rfl ?_
    refine L.nil ?_
    refine WpC.ret ?_
    cases H
    exact Leaves.ret rfl rfl rfl ⟨rfl, rfl⟩
/-! ### Fimpl_isMark -/
def Fimpl_isMark (k : Nat) (a0 : UInt8) : Option Bool := cond (a0 == (47 : UInt8)) (some true) (cond (a0 == (64 : UInt8)) (some true) (some (a0 == (92 : UInt8))))
theorem ent158 : Enters Try.prog 158 := ⟨Try.f158, Try.func158, rfl, by decide⟩
set_option maxHeartbeats 8000000 in
set_option maxRecDepth 100000 in
theorem Fimpl_isMark_gives (k : Nat) (a0 : UInt8) (r : Bool) (H : Fimpl_isMark k a0 = some r) : Gives Try.prog 158 [V.one (cU a0)] [] [V.one (cL r)] [] := by
  refine Gives.intro Try.func158 rfl rfl rfl rfl ?_
  intro F hF hm
  unfold Fimpl_isMark at H
  obtain ⟨K, hK⟩ : ∃ K, k ≤ K := ⟨k, Nat.le_refl k⟩
  refine WpC.seq ?_
  refine WpC.regionL ?_
  refine L.assign hF rfl rfl rfl ?_
  refine L.nil ?_
  refine WpC.seq ?_
  refine WpC.regionL ?_
  refine L.move hF rfl rfl rfl ?_
  refine L.binB (a := a0) (b := (47 : UInt8)) hF rfl rfl rfl rfl rfl ?_
  refine L.move hF rfl rfl rfl ?_
  refine L.split (fun hc => ?_) (fun hc => ?_)
  · replace H := condT hc H
    refine L.off hF rfl rfl ?_
    refine L.off hF rfl rfl ?_
    refine L.pick hF rfl rfl rfl rfl ?_
    refine L.move hF rfl rfl rfl ?_
    refine L.off hF rfl rfl ?_
    refine L.off hF rfl rfl ?_
    refine L.pick hF rfl rfl rfl rfl ?_
    refine L.assign hF rfl rfl rfl ?_
    refine L.nil ?_
    refine WpC.ret ?_
    cases H
    exact Leaves.ret rfl rfl rfl ⟨rfl, rfl⟩
  · replace H := condF hc H
    refine L.move hF rfl rfl rfl ?_
    refine L.binB (a := a0) (b := (64 : UInt8)) hF rfl rfl rfl rfl rfl ?_
    refine L.pick hF rfl rfl rfl rfl ?_
    refine L.move hF rfl rfl rfl ?_
    refine L.split (fun hc => ?_) (fun hc => ?_)
    · replace H := condT hc H
      refine L.off hF rfl rfl ?_
      refine L.off hF rfl rfl ?_
      refine L.pick hF rfl rfl rfl rfl ?_
      refine L.assign hF rfl rfl rfl ?_
      refine L.nil ?_
      refine WpC.ret ?_
      cases H
      exact Leaves.ret rfl rfl rfl ⟨rfl, rfl⟩
    · replace H := condF hc H
      refine L.move hF rfl rfl rfl ?_
      refine L.binB (a := a0) (b := (92 : UInt8)) hF rfl rfl rfl rfl rfl ?_
      refine L.pick hF rfl rfl rfl rfl ?_
      refine L.assign hF rfl rfl rfl ?_
      refine L.nil ?_
      refine WpC.ret ?_
      cases H
      exact Leaves.ret rfl rfl rfl ⟨rfl, rfl⟩
/-! ### Fimpl_marked -/
def Fimpl_marked.j14 (cl12 : (List UInt8) → (List UInt8) → Int → Option (List UInt8)) (k : Nat) (v135 : List UInt8) (v136 : List UInt8) (v137 : Int) : Option (List UInt8) := (at? v135 v137).bind fun b138 => cond (decide ((2 * (v136.length + ([b138] : List UInt8).length) + 192) * 1 ≤ 281474976710656)) (cl12 v135 (v136 ++ ([b138] : List UInt8)) (IntKind.i64.wrap (v137 + (1 : Int)))) none
def Fimpl_marked.l12 : Nat → (List UInt8) → (List UInt8) → Int → Option (List UInt8)
  | 0, _, _, _ => none
  | k12 + 1, v118, v119, v120 => cond (decide (v120 < (v118.length : Int))) ((at? v118 v120).bind fun b140 => (Fimpl_isMark k12 b140).bind fun r141 => cond r141 (cond (decide ((2 * (v119.length + ([(92 : UInt8)] : List UInt8).length) + 192) * 1 ≤ 281474976710656)) (Fimpl_marked.j14 (Fimpl_marked.l12 k12) k12 v118 (v119 ++ ([(92 : UInt8)] : List UInt8)) v120) none) (Fimpl_marked.j14 (Fimpl_marked.l12 k12) k12 v118 v119 v120)) (some v119)
def Fimpl_marked (k : Nat) (a0 : List UInt8) : Option (List UInt8) := Fimpl_marked.l12 k a0 ([] : List UInt8) (0 : Int)
theorem ent126 : Enters Try.prog 126 := ⟨Try.f126, Try.func126, rfl, by decide⟩
set_option maxHeartbeats 8000000 in
set_option maxRecDepth 100000 in
theorem Fimpl_marked_gives (k : Nat) (a0 : List UInt8) (r : List UInt8) (H : Fimpl_marked k a0 = some r) : Gives Try.prog 126 [V.one (cS a0)] [] [V.one (cS r)] [] := by
  refine Gives.intro Try.func126 rfl rfl rfl rfl ?_
  intro F hF hm
  unfold Fimpl_marked at H
  obtain ⟨K, hK⟩ : ∃ K, k ≤ K := ⟨k, Nat.le_refl k⟩
  refine WpC.seq ?_
  refine WpC.regionL ?_
  refine L.assign hF rfl rfl rfl ?_
  refine L.nil ?_
  refine WpC.seq ?_
  refine WpC.regionL ?_
  refine L.buildSlice (e := eB) 1 ([] : List UInt8) Try.underlying35 info5 rfl rfl rfl hF rfl rfl rfl rfl rfl rfl rfl rfl ?_
  refine L.assign hF rfl rfl rfl ?_
  refine L.nil ?_
  refine WpC.seq ?_
  refine WpC.seq ?_
  refine WpC.regionL ?_
  refine L.assign hF rfl rfl rfl ?_
  refine L.nil ?_
  refine WpC.block ?_
  refine WpC.loopL (P := Try.prog) (fun n σ => ∃ v118 : List UInt8, ∃ v119 : List UInt8, ∃ v120 : Int, n ≤ K ∧ Fimpl_marked.l12 n v118 v119 v120 = some r ∧ σ = mkSt [(0, one (cS v118)), (3, one (Cell.own 0)), (4, one (cI v120))] [(0, ⟨1, List.map eB v119⟩)] [] 1) k ⟨_, ⟨a0, ([] : List UInt8), (0 : Int), by omega, H, rfl⟩, Le.mk [(0, 1)] hm rfl ⟨⟨_, rfl, rfl⟩, ⟨_, rfl, rfl⟩, ⟨_, rfl, rfl⟩, trivial⟩ ⟨⟨_, rfl, rfl⟩, trivial⟩ trivial⟩ ?_
  clear H
  rintro k12 _ ⟨v118, v119, v120, hk12, H, rfl⟩
  cases k12 with
  | zero => cases H
  | succ k12 =>
    rw [Fimpl_marked.l12] at H
    refine WpC.seq ?_
    refine WpC.seq ?_
    refine WpC.regionL ?_
    refine L.move hF rfl rfl rfl ?_
    refine L.move hF rfl rfl rfl ?_
    refine L.lenS Try.underlying9 hF rfl rfl rfl ?_
    refine L.bin hF rfl rfl rfl rfl rfl rfl ?_
    refine L.nil ?_
    refine WpC.cond rfl (fun hc => ?_) (fun hc => ?_)
    · replace H := condT hc H
      refine WpC.skip ?_
      refine WpC.seq ?_
      refine WpC.block ?_
      refine WpC.join (fun σ => ∃ kj14 : Nat, ∃ v135 : List UInt8, ∃ v136 : List UInt8, ∃ v137 : Int, kj14 ≤ K ∧ Fimpl_marked.j14 (Fimpl_marked.l12 k12) kj14 v135 v136 v137 = some r ∧ σ = mkSt [(0, one (cS v135)), (3, one (Cell.own 0)), (4, one (cI v137))] [(0, ⟨1, List.map eB v136⟩)] [] 1) ?_ ?_
      · rintro _ ⟨kj14, v135, v136, v137, hkj14, H, rfl⟩
        unfold Fimpl_marked.j14 at H
        refine WpC.regionL ?_
        refine L.move hF rfl rfl rfl ?_
        refine L.move hF rfl rfl rfl ?_
        refine L.move hF rfl rfl rfl ?_
        obtain ⟨b138, hb138, H⟩ := bindS H
        refine L.idxS Try.underlying9 hF rfl rfl rfl rfl hb138 ?_
        refine L.buildSlice (e := eB) 1 ([b138] : List UInt8) Try.underlying35 info5 rfl rfl rfl hF rfl rfl rfl rfl rfl rfl rfl rfl ?_
        obtain ⟨h139, H⟩ := condG H
        refine L.append (xs := v136) (ys := ([b138] : List UInt8)) (e := eB) 2 Try.underlying35 info5 rfl rfl hF rfl rfl rfl rfl rfl rfl rfl rfl (fun _ => rfl) (fun _ _ h1 h2 => by cases h1; cases h2; rfl) ⟨_, Try.underlying35⟩ (of_decide_eq_true h139) rfl rfl ?_
        refine L.assign hF rfl rfl rfl ?_
        refine L.nil ?_
        refine WpC.regionL ?_
        refine L.move hF rfl rfl rfl ?_
        refine L.bin hF rfl rfl rfl rfl rfl rfl ?_
        refine L.assign hF rfl rfl rfl ?_
        refine L.nil ?_
        exact ⟨k12, _, by omega, ⟨v135, (v136 ++ ([b138] : List UInt8)), (IntKind.i64.wrap (v137 + (1 : Int))), by omega, H, rfl⟩, Le.mk [(0, 2)] hm rfl ⟨⟨_, rfl, rfl⟩, ⟨_, rfl, rfl⟩, ⟨_, rfl, rfl⟩, trivial⟩ ⟨⟨_, rfl, rfl⟩, trivial⟩ trivial⟩
      · refine WpC.seq ?_
        refine WpC.regionL ?_
        refine L.move hF rfl rfl rfl ?_
        refine L.move hF rfl rfl rfl ?_
        obtain ⟨b140, hb140, H⟩ := bindS H
        refine L.idxS Try.underlying9 hF rfl rfl rfl rfl hb140 ?_
        obtain ⟨r141, hr141, H⟩ := bindS H
        refine L.call [false] [] [] 1 hF rfl rfl rfl ent158 rfl rfl rfl rfl rfl (Fimpl_isMark_gives k12  b140 r141 hr141) rfl ?_
        refine L.nil ?_
        refine WpC.cond rfl (fun hc => ?_) (fun hc => ?_)
        · replace H := condT hc H
          refine WpC.regionL ?_
          refine L.move hF rfl rfl rfl ?_
          refine L.buildSlice (e := eB) 2 ([(92 : UInt8)] : List UInt8) Try.underlying35 info5 rfl rfl rfl hF rfl rfl rfl rfl rfl rfl rfl rfl ?_
          obtain ⟨h142, H⟩ := condG H
          refine L.append (xs := v119) (ys := ([(92 : UInt8)] : List UInt8)) (e := eB) 3 Try.underlying35 info5 rfl rfl hF rfl rfl rfl rfl rfl rfl rfl rfl (fun _ => rfl) (fun _ _ h1 h2 => by cases h1; cases h2; rfl) ⟨_, Try.underlying35⟩ (of_decide_eq_true h142) rfl rfl ?_
          refine L.assign hF rfl rfl rfl ?_
          refine L.nil ?_
          exact ⟨_, ⟨k12, v118, (v119 ++ ([(92 : UInt8)] : List UInt8)), v120, by omega, H, rfl⟩, Le.mk [(0, 3)] hm rfl ⟨⟨_, rfl, rfl⟩, ⟨_, rfl, rfl⟩, ⟨_, rfl, rfl⟩, trivial⟩ ⟨⟨_, rfl, rfl⟩, trivial⟩ trivial⟩
        · replace H := condF hc H
          refine WpC.skip ?_
          exact ⟨_, ⟨k12, v118, v119, v120, by omega, H, rfl⟩, Le.mk [(0, 0)] hm rfl ⟨⟨_, rfl, rfl⟩, ⟨_, rfl, rfl⟩, ⟨_, rfl, rfl⟩, trivial⟩ ⟨⟨_, rfl, rfl⟩, trivial⟩ trivial⟩
    · replace H := condF hc H
      refine WpC.exit ?_
      refine WpC.seq ?_
      refine WpC.regionL ?_
      refine L.move hF rfl rfl rfl ?_
      refine L.b2s (xs := v119) Try.underlying35 Try.underlying5 Try.underlying9 hF rfl rfl rfl rfl ?_
      refine L.assign hF rfl rfl rfl ?_
      refine L.nil ?_
      refine WpC.ret ?_
      cases H
      exact Leaves.ret rfl rfl rfl ⟨rfl, rfl⟩
/-! ### Fimpl_ShowName -/
def Fimpl_ShowName.j14 (cl12 : (List UInt8) → (List (List UInt8)) → Int → Int → (List UInt8) → Option (List UInt8)) (k : Nat) (v148 : List UInt8) (v149 : List UInt8) (v150 : List (List UInt8)) (v151 : Int) (v152 : Int) (v153 : List UInt8) : Option (List UInt8) := (Fimpl_marked k v149).bind fun r154 => cond (decide (v148.length + r154.length ≤ 9223372036854775807)) (cl12 (v148 ++ r154) v150 v151 (IntKind.i64.wrap (v152 + (1 : Int))) v153) none
def Fimpl_ShowName.l12 : Nat → (List UInt8) → (List (List UInt8)) → Int → Int → (List UInt8) → Option (List UInt8)
  | 0, _, _, _, _, _ => none
  | k12 + 1, v130, v131, v132, v133, v134 => cond (decide (v133 < v132)) ((at? v131 v133).bind fun b146 => cond (decide (v133 > (0 : Int))) (cond (decide (v130.length + ([47] : List UInt8).length ≤ 9223372036854775807)) (Fimpl_ShowName.j14 (Fimpl_ShowName.l12 k12) k12 (v130 ++ ([47] : List UInt8)) b146 v131 v132 v133 v134) none) (Fimpl_ShowName.j14 (Fimpl_ShowName.l12 k12) k12 v130 b146 v131 v132 v133 v134)) (cond (v134 != ([] : List UInt8)) (cond (decide (v130.length + ([64] : List UInt8).length ≤ 9223372036854775807)) ((Fimpl_marked k12 v134).bind fun r161 => cond (decide ((v130 ++ ([64] : List UInt8)).length + r161.length ≤ 9223372036854775807)) (some ((v130 ++ ([64] : List UInt8)) ++ r161)) none) none) (some v130))
def Fimpl_ShowName (k : Nat) (a0 : Timpl_Name) : Option (List UInt8) := (Fimpl_NameOk k a0).bind fun r2 => cond (!r2) (some ([] : List UInt8)) (Fimpl_ShowName.l12 k ([] : List UInt8) a0.Parts (a0.Parts.length : Int) (0 : Int) a0.Realm)
theorem ent67 : Enters Try.prog 67 := ⟨Try.f67, Try.func67, rfl, by decide⟩
set_option maxHeartbeats 8000000 in
set_option maxRecDepth 100000 in
theorem Fimpl_ShowName_gives (k : Nat) (g0 : Bool) (a0 : Timpl_Name) (r : List UInt8) (H : Fimpl_ShowName k a0 = some r) : Gives Try.prog 67 [V.agg [Cell.sl g0 (List.map eS a0.Parts), cS a0.Realm]] [] [V.one (cS r)] [] := by
  refine Gives.intro Try.func67 rfl rfl rfl rfl ?_
  intro F hF hm
  unfold Fimpl_ShowName at H
  obtain ⟨K, hK⟩ : ∃ K, k ≤ K := ⟨k, Nat.le_refl k⟩
  refine WpC.seq ?_
  refine WpC.regionL ?_
  refine L.box 2 hF rfl rfl rfl rfl ?_
  refine L.assign hF rfl rfl rfl ?_
  refine L.nil ?_
  refine WpC.seq ?_
  refine WpC.seq ?_
  refine WpC.regionL ?_
  refine L.loadPtr shape56 hF rfl rfl rfl rfl rfl rfl ?_
  obtain ⟨r2, hr2, H⟩ := bindS H
  refine L.call [false] [] [] 3 hF rfl rfl rfl ent50 rfl rfl rfl rfl rfl (Fimpl_NameOk_gives k g0 a0 r2 hr2) rfl ?_
  refine L.not hF rfl rfl rfl ?_
  refine L.nil ?_
  refine WpC.cond rfl (fun hc => ?_) (fun hc => ?_)
  · replace H := condT hc H
    refine WpC.seq ?_
    refine WpC.regionL ?_
    refine L.assign hF rfl rfl rfl ?_
    refine L.nil ?_
    refine WpC.ret ?_
    cases H
    exact Leaves.ret rfl rfl rfl ⟨rfl, rfl⟩
  · replace H := condF hc H
    refine WpC.skip ?_
    refine WpC.seq ?_
    refine WpC.regionL ?_
    refine L.assign hF rfl rfl rfl ?_
    refine L.nil ?_
    refine WpC.seq ?_
    refine WpC.seq ?_
    refine WpC.regionL ?_
    refine L.fieldAddr Try.underlying56 rfl info51 rfl hF rfl rfl rfl rfl rfl ?_
    refine L.loadPtr shape51 hF rfl rfl rfl rfl rfl rfl ?_
    refine L.lenR (xs := a0.Parts) (e := eS) Try.underlying51 hF rfl rfl rfl rfl ?_
    refine L.move hF rfl rfl rfl ?_
    refine L.nil ?_
    refine WpC.block ?_
    refine WpC.loopL (P := Try.prog) (fun n σ => ∃ v130 : List UInt8, ∃ v131 : List (List UInt8), ∃ v132 : Int, ∃ v133 : Int, ∃ v134 : List UInt8, n ≤ K ∧ Fimpl_ShowName.l12 n v130 v131 v132 v133 v134 = some r ∧ σ = mkSt [(1, one (Cell.ptr 0 0)), (3, one (cS v130)), (10, one (Cell.sl g0 (List.map eS v131))), (11, one (cI v132)), (12, one (cI v133))] [] [(0, [Cell.sl g0 (List.map eS v131), cS v134])] 1) k ⟨_, ⟨([] : List UInt8), a0.Parts, (a0.Parts.length : Int), (0 : Int), a0.Realm, by omega, H, rfl⟩, Le.mk [(0, 2)] hm rfl ⟨⟨_, rfl, rfl⟩, ⟨_, rfl, rfl⟩, ⟨_, rfl, rfl⟩, ⟨_, rfl, rfl⟩, ⟨_, rfl, rfl⟩, trivial⟩ trivial ⟨⟨_, _, rfl, rfl, rfl⟩, trivial⟩⟩ ?_
    clear H
    rintro k12 _ ⟨v130, v131, v132, v133, v134, hk12, H, rfl⟩
    cases k12 with
    | zero => cases H
    | succ k12 =>
      rw [Fimpl_ShowName.l12] at H
      refine WpC.seq ?_
      refine WpC.regionL ?_
      refine L.bin hF rfl rfl rfl rfl rfl rfl ?_
      refine L.nil ?_
      refine WpC.seq ?_
      refine WpC.cond rfl (fun hc => ?_) (fun hc => ?_)
      · replace H := condT hc H
        refine WpC.skip ?_
        refine WpC.seq ?_
        refine WpC.block ?_
        refine WpC.seq ?_
        refine WpC.regionL ?_
        refine L.move hF rfl rfl rfl ?_
        obtain ⟨b146, hb146, H⟩ := bindS H
        refine L.idxR (xs := v131) (e := eS) Try.underlying51 info9 hF rfl rfl rfl rfl rfl hb146 rfl rfl ?_
        refine L.loadPe shape9 hF rfl rfl rfl rfl rfl ?_
        refine L.assign hF rfl rfl rfl ?_
        refine L.assign hF rfl rfl rfl ?_
        refine L.nil ?_
        refine WpC.join (fun σ => ∃ kj14 : Nat, ∃ v148 : List UInt8, ∃ v149 : List UInt8, ∃ v150 : List (List UInt8), ∃ v151 : Int, ∃ v152 : Int, ∃ v153 : List UInt8, kj14 ≤ K ∧ Fimpl_ShowName.j14 (Fimpl_ShowName.l12 k12) kj14 v148 v149 v150 v151 v152 v153 = some r ∧ σ = mkSt [(1, one (Cell.ptr 0 0)), (3, one (cS v148)), (5, one (cS v149)), (10, one (Cell.sl g0 (List.map eS v150))), (11, one (cI v151)), (12, one (cI v152))] [] [(0, [Cell.sl g0 (List.map eS v150), cS v153])] 1) ?_ ?_
        · rintro _ ⟨kj14, v148, v149, v150, v151, v152, v153, hkj14, H, rfl⟩
          unfold Fimpl_ShowName.j14 at H
          refine WpC.regionL ?_
          refine L.move hF rfl rfl rfl ?_
          refine L.move hF rfl rfl rfl ?_
          obtain ⟨r154, hr154, H⟩ := bindS H
          refine L.call [false] [] [] 1 hF rfl rfl rfl ent126 rfl rfl rfl rfl rfl (Fimpl_marked_gives kj14  v149 r154 hr154) rfl ?_
          obtain ⟨h155, H⟩ := condG H
          refine L.catS hF rfl rfl rfl rfl (of_decide_eq_true h155) ?_
          refine L.assign hF rfl rfl rfl ?_
          refine L.nil ?_
          refine WpC.regionL ?_
          refine L.bin hF rfl rfl rfl rfl rfl rfl ?_
          refine L.move hF rfl rfl rfl ?_
          refine L.nil ?_
          exact ⟨k12, _, by omega, ⟨(v148 ++ r154), v150, v151, (IntKind.i64.wrap (v152 + (1 : Int))), v153, by omega, H, rfl⟩, Le.mk [(0, 0)] hm rfl ⟨⟨_, rfl, rfl⟩, ⟨_, rfl, rfl⟩, ⟨_, rfl, rfl⟩, ⟨_, rfl, rfl⟩, ⟨_, rfl, rfl⟩, trivial⟩ trivial ⟨⟨_, _, rfl, rfl, rfl⟩, trivial⟩⟩
        · refine WpC.seq ?_
          refine WpC.regionL ?_
          refine L.move hF rfl rfl rfl ?_
          refine L.bin hF rfl rfl rfl rfl rfl rfl ?_
          refine L.nil ?_
          refine WpC.cond rfl (fun hc => ?_) (fun hc => ?_)
          · replace H := condT hc H
            refine WpC.regionL ?_
            refine L.move hF rfl rfl rfl ?_
            obtain ⟨h156, H⟩ := condG H
            refine L.catS hF rfl rfl rfl rfl (of_decide_eq_true h156) ?_
            refine L.assign hF rfl rfl rfl ?_
            refine L.nil ?_
            exact ⟨_, ⟨k12, (v130 ++ ([47] : List UInt8)), b146, v131, v132, v133, v134, by omega, H, rfl⟩, Le.mk [(0, 0)] hm rfl ⟨⟨_, rfl, rfl⟩, ⟨_, rfl, rfl⟩, ⟨_, rfl, rfl⟩, ⟨_, rfl, rfl⟩, ⟨_, rfl, rfl⟩, ⟨_, rfl, rfl⟩, trivial⟩ trivial ⟨⟨_, _, rfl, rfl, rfl⟩, trivial⟩⟩
          · replace H := condF hc H
            refine WpC.skip ?_
            exact ⟨_, ⟨k12, v130, b146, v131, v132, v133, v134, by omega, H, rfl⟩, Le.mk [(0, 0)] hm rfl ⟨⟨_, rfl, rfl⟩, ⟨_, rfl, rfl⟩, ⟨_, rfl, rfl⟩, ⟨_, rfl, rfl⟩, ⟨_, rfl, rfl⟩, ⟨_, rfl, rfl⟩, trivial⟩ trivial ⟨⟨_, _, rfl, rfl, rfl⟩, trivial⟩⟩
      · replace H := condF hc H
        refine WpC.exit ?_
        refine WpC.seq ?_
        refine WpC.seq ?_
        refine WpC.regionL ?_
        refine L.fieldAddr Try.underlying56 rfl info9 rfl hF rfl rfl rfl rfl rfl ?_
        refine L.loadPtr shape9 hF rfl rfl rfl rfl rfl rfl ?_
        refine L.binS hF rfl rfl rfl rfl rfl ?_
        refine L.nil ?_
        refine WpC.cond rfl (fun hc => ?_) (fun hc => ?_)
        · replace H := condT hc H
          refine WpC.regionL ?_
          refine L.move hF rfl rfl rfl ?_
          obtain ⟨h160, H⟩ := condG H
          refine L.catS hF rfl rfl rfl rfl (of_decide_eq_true h160) ?_
          refine L.fieldAddr Try.underlying56 rfl info9 rfl hF rfl rfl rfl rfl rfl ?_
          refine L.loadPtr shape9 hF rfl rfl rfl rfl rfl rfl ?_
          obtain ⟨r161, hr161, H⟩ := bindS H
          refine L.call [false] [] [] 1 hF rfl rfl rfl ent126 rfl rfl rfl rfl rfl (Fimpl_marked_gives k12  v134 r161 hr161) rfl ?_
          obtain ⟨h162, H⟩ := condG H
          refine L.catS hF rfl rfl rfl rfl (of_decide_eq_true h162) ?_
          refine L.assign hF rfl rfl rfl ?_
          refine L.nil ?_
          refine WpC.seq ?_
          refine WpC.regionL ?_
          refine L.move hF rfl rfl rfl ?_
          refine L.assign hF rfl rfl rfl ?_
          refine L.nil ?_
          refine WpC.ret ?_
          cases H
          exact Leaves.ret rfl rfl rfl ⟨rfl, rfl⟩
        · replace H := condF hc H
          refine WpC.skip ?_
          refine WpC.seq ?_
          refine WpC.regionL ?_
          refine L.move hF rfl rfl rfl ?_
          refine L.assign hF rfl rfl rfl ?_
          refine L.nil ?_
          refine WpC.ret ?_
          cases H
          exact Leaves.ret rfl rfl rfl ⟨rfl, rfl⟩
/-! ### Flaws_eqStringS -/
def Flaws_eqStringS.l2 : Nat → (List (List UInt8)) → (List (List UInt8)) → Int → Option Bool
  | 0, _, _, _ => none
  | k2 + 1, v34, v35, v36 => cond (decide (v36 < (v34.length : Int))) ((at? v34 v36).bind fun b39 => (at? v35 v36).bind fun b40 => cond (b39 != b40) (some false) ((Flaws_eqStringS.l2 k2) v34 v35 (IntKind.i64.wrap (v36 + (1 : Int))))) (some true)
def Flaws_eqStringS (k : Nat) (a0 : List (List UInt8)) (a1 : List (List UInt8)) : Option Bool := cond ((a0.length : Int) != (a1.length : Int)) (some false) (Flaws_eqStringS.l2 k a0 a1 (0 : Int))
theorem ent112 : Enters Try.prog 112 := ⟨Try.f112, Try.func112, rfl, by decide⟩
set_option maxHeartbeats 8000000 in
set_option maxRecDepth 100000 in
theorem Flaws_eqStringS_gives (k : Nat) (g0 : Bool) (g1 : Bool) (a0 : List (List UInt8)) (a1 : List (List UInt8)) (r : Bool) (H : Flaws_eqStringS k a0 a1 = some r) : Gives Try.prog 112 [V.one (Cell.sl g0 (List.map eS a0)), V.one (Cell.sl g1 (List.map eS a1))] [] [V.one (cL r)] [] := by
  refine Gives.intro Try.func112 rfl rfl rfl rfl ?_
  intro F hF hm
  unfold Flaws_eqStringS at H
  obtain ⟨K, hK⟩ : ∃ K, k ≤ K := ⟨k, Nat.le_refl k⟩
  refine WpC.seq ?_
  refine WpC.regionL ?_
  refine L.assign hF rfl rfl rfl ?_
  refine L.nil ?_
  refine WpC.seq ?_
  refine WpC.seq ?_
  refine WpC.regionL ?_
  refine L.move hF rfl rfl rfl ?_
  refine L.lenR (xs := a0) (e := eS) Try.underlying51 hF rfl rfl rfl rfl ?_
  refine L.move hF rfl rfl rfl ?_
  refine L.lenR (xs := a1) (e := eS) Try.underlying51 hF rfl rfl rfl rfl ?_
  refine L.bin hF rfl rfl rfl rfl rfl rfl ?_
  refine L.nil ?_
  refine WpC.cond rfl (fun hc => ?_) (fun hc => ?_)
  · replace H := condT hc H
    refine WpC.seq ?_
    refine WpC.regionL ?_
    refine L.assign hF rfl rfl rfl ?_
    refine L.nil ?_
    refine WpC.ret ?_
    cases H
    exact Leaves.ret rfl rfl rfl ⟨rfl, rfl⟩
  · replace H := condF hc H
    refine WpC.skip ?_
    refine WpC.seq ?_
    refine WpC.seq ?_
    refine WpC.regionL ?_
    refine L.assign hF rfl rfl rfl ?_
    refine L.nil ?_
    refine WpC.block ?_
    refine WpC.loopL (P := Try.prog) (fun n σ => ∃ v34 : List (List UInt8), ∃ v35 : List (List UInt8), ∃ v36 : Int, n ≤ K ∧ Flaws_eqStringS.l2 n v34 v35 v36 = some r ∧ σ = mkSt [(0, one (Cell.sl g0 (List.map eS v34))), (1, one (Cell.sl g1 (List.map eS v35))), (5, one (cI v36))] [] [] 0) k ⟨_, ⟨a0, a1, (0 : Int), by omega, H, rfl⟩, Le.mk [] hm rfl ⟨⟨_, rfl, rfl⟩, ⟨_, rfl, rfl⟩, ⟨_, rfl, rfl⟩, trivial⟩ trivial trivial⟩ ?_
    clear H
    rintro k2 _ ⟨v34, v35, v36, hk2, H, rfl⟩
    cases k2 with
    | zero => cases H
    | succ k2 =>
      rw [Flaws_eqStringS.l2] at H
      refine WpC.seq ?_
      refine WpC.seq ?_
      refine WpC.regionL ?_
      refine L.move hF rfl rfl rfl ?_
      refine L.move hF rfl rfl rfl ?_
      refine L.lenR (xs := v34) (e := eS) Try.underlying51 hF rfl rfl rfl rfl ?_
      refine L.bin hF rfl rfl rfl rfl rfl rfl ?_
      refine L.nil ?_
      refine WpC.cond rfl (fun hc => ?_) (fun hc => ?_)
      · replace H := condT hc H
        refine WpC.skip ?_
        refine WpC.seq ?_
        refine WpC.block ?_
        refine WpC.seq ?_
        refine S.begin mixed (by kernel_rfl) ?_
        refine S.st 0 rfl rfl ((Ca.move).quiet) (fun Q0 k0 => L.move hF rfl rfl rfl (L.nil k0)) ?_
        refine S.st 1 rfl rfl ((Ca.move).quiet) (fun Q0 k0 => L.move hF rfl rfl rfl (L.nil k0)) ?_
        obtain ⟨b39, hb39, H⟩ := bindS H
        refine S.st 2 rfl rfl ((Ca.indexAddr).quiet) (fun Q0 k0 => L.idxR (xs := v34) (e := eS) Try.underlying51 info9 hF rfl rfl rfl rfl rfl hb39 rfl rfl (L.nil k0)) ?_
        refine S.st 3 rfl rfl (Qu.load) (fun Q0 k0 => L.loadPe shape9 hF rfl rfl rfl rfl rfl (L.nil k0)) ?_
        refine S.st 4 rfl rfl ((Ca.move).quiet) (fun Q0 k0 => L.move hF rfl rfl rfl (L.nil k0)) ?_
        refine S.st 5 rfl rfl ((Ca.move).quiet) (fun Q0 k0 => L.move hF rfl rfl rfl (L.nil k0)) ?_
        obtain ⟨b40, hb40, H⟩ := bindS H
        refine S.st 6 rfl rfl ((Ca.indexAddr).quiet) (fun Q0 k0 => L.idxR (xs := v35) (e := eS) Try.underlying51 info9 hF rfl rfl rfl rfl rfl hb40 rfl rfl (L.nil k0)) ?_
        refine S.st 7 rfl rfl (Qu.load) (fun Q0 k0 => L.loadPe shape9 hF rfl rfl rfl rfl rfl (L.nil k0)) ?_
        refine S.st 8 rfl rfl ((Ca.bin rfl rfl (calm_str _ _ _ _ _ _)).quiet) (fun Q0 k0 => L.binS hF rfl rfl rfl rfl rfl (L.nil k0)) ?_
        refine S.nil ?_
        refine WpC.cond rfl (fun hc => ?_) (fun hc => ?_)
        · replace H := condT hc H
          refine WpC.seq ?_
          refine WpC.regionL ?_
          refine L.assign hF rfl rfl rfl ?_
          refine L.nil ?_
          refine WpC.ret ?_
          cases H
          exact Leaves.ret rfl rfl rfl ⟨rfl, rfl⟩
        · replace H := condF hc H
          refine WpC.skip ?_
          refine WpC.regionL ?_
          refine L.move hF rfl rfl rfl ?_
          refine L.bin hF rfl rfl rfl rfl rfl rfl ?_
          refine L.assign hF rfl rfl rfl ?_
          refine L.nil ?_
          exact ⟨k2, _, by omega, ⟨v34, v35, (IntKind.i64.wrap (v36 + (1 : Int))), by omega, H, rfl⟩, Le.mk [] hm rfl ⟨⟨_, rfl, rfl⟩, ⟨_, rfl, rfl⟩, ⟨_, rfl, rfl⟩, trivial⟩ trivial trivial⟩
      · replace H := condF hc H
        refine WpC.exit ?_
        refine WpC.seq ?_
        refine WpC.regionL ?_
        refine L.assign hF rfl rfl rfl ?_
        refine L.nil ?_
        refine WpC.ret ?_
        cases H
        exact Leaves.ret rfl rfl rfl ⟨rfl, rfl⟩
/-! ### Flaws_eqName -/
def Flaws_eqName (k : Nat) (a0 : Timpl_Name) (a1 : Timpl_Name) : Option Bool := (Flaws_eqStringS k a0.Parts a1.Parts).bind fun r2 => cond (!r2) (some false) (cond (a0.Realm != a1.Realm) (some false) (some true))
theorem ent51 : Enters Try.prog 51 := ⟨Try.f51, Try.func51, rfl, by decide⟩
set_option maxHeartbeats 8000000 in
set_option maxRecDepth 100000 in
theorem Flaws_eqName_gives (k : Nat) (g0 : Bool) (g1 : Bool) (a0 : Timpl_Name) (a1 : Timpl_Name) (r : Bool) (H : Flaws_eqName k a0 a1 = some r) : Gives Try.prog 51 [V.agg [Cell.sl g0 (List.map eS a0.Parts), cS a0.Realm], V.agg [Cell.sl g1 (List.map eS a1.Parts), cS a1.Realm]] [] [V.one (cL r)] [] := by
  refine Gives.intro Try.func51 rfl rfl rfl rfl ?_
  intro F hF hm
  unfold Flaws_eqName at H
  obtain ⟨K, hK⟩ : ∃ K, k ≤ K := ⟨k, Nat.le_refl k⟩
  refine WpC.seq ?_
  refine WpC.regionL ?_
  refine L.box 4 hF rfl rfl rfl rfl ?_
  refine L.box 5 hF rfl rfl rfl rfl ?_
  refine L.assign hF rfl rfl rfl ?_
  refine L.nil ?_
  refine WpC.seq ?_
  refine WpC.seq ?_
  refine WpC.regionL ?_
  refine L.fieldAddr Try.underlying56 rfl info51 rfl hF rfl rfl rfl rfl rfl ?_
  refine L.loadPtr shape51 hF rfl rfl rfl rfl rfl rfl ?_
  refine L.fieldAddr Try.underlying56 rfl info51 rfl hF rfl rfl rfl rfl rfl ?_
  refine L.loadPtr shape51 hF rfl rfl rfl rfl rfl rfl ?_
  obtain ⟨r2, hr2, H⟩ := bindS H
  refine L.call [false, false] [] [] 6 hF rfl rfl rfl ent112 rfl rfl rfl rfl rfl (Flaws_eqStringS_gives k g0 g1 a0.Parts a1.Parts r2 hr2) rfl ?_
  refine L.not hF rfl rfl rfl ?_
  refine L.nil ?_
  refine WpC.cond rfl (fun hc => ?_) (fun hc => ?_)
  · replace H := condT hc H
    refine WpC.seq ?_
    refine WpC.regionL ?_
    refine L.assign hF rfl rfl rfl ?_
    refine L.nil ?_
    refine WpC.ret ?_
    cases H
    exact Leaves.ret rfl rfl rfl ⟨rfl, rfl⟩
  · replace H := condF hc H
    refine WpC.skip ?_
    refine WpC.seq ?_
    refine WpC.seq ?_
    refine WpC.regionL ?_
    refine L.fieldAddr Try.underlying56 rfl info9 rfl hF rfl rfl rfl rfl rfl ?_
    refine L.loadPtr shape9 hF rfl rfl rfl rfl rfl rfl ?_
    refine L.fieldAddr Try.underlying56 rfl info9 rfl hF rfl rfl rfl rfl rfl ?_
    refine L.loadPtr shape9 hF rfl rfl rfl rfl rfl rfl ?_
    refine L.binS hF rfl rfl rfl rfl rfl ?_
    refine L.nil ?_
    refine WpC.cond rfl (fun hc => ?_) (fun hc => ?_)
    · replace H := condT hc H
      refine WpC.seq ?_
      refine WpC.regionL ?_
      refine L.assign hF rfl rfl rfl ?_
      refine L.nil ?_
      refine WpC.ret ?_
      cases H
      exact Leaves.ret rfl rfl rfl ⟨rfl, rfl⟩
    · replace H := condF hc H
      refine WpC.skip ?_
      refine WpC.seq ?_
      refine WpC.regionL ?_
      refine L.assign hF rfl rfl rfl ?_
      refine L.nil ?_
      refine WpC.ret ?_
      cases H
      exact Leaves.ret rfl rfl rfl ⟨rfl, rfl⟩
/-! ### Flaws_FnExactShowName -/
def Flaws_FnExactShowName (k : Nat) (a0 : Tlaws_Name) : Option Bool := (Flaws_szName k a0 (1048576 : Int)).bind fun r1 => cond (decide (r1 < (0 : Int))) (some true) ((Flaws_toName k a0).bind fun r2 => (Fspec_ShowName k r2).bind fun r3 => (Flaws_toName k a0).bind fun r4 => (Fimpl_ShowName k r4).bind fun r5 => cond (r5 != r3) (some false) ((Flaws_toName k a0).bind fun r8 => (Flaws_eqName k r4 r8).bind fun r9 => cond (!r9) (some false) (some true)))
theorem ent15 : Enters Try.prog 15 := ⟨Try.f15, Try.func15, rfl, by decide⟩
set_option maxHeartbeats 8000000 in
set_option maxRecDepth 100000 in
theorem Flaws_FnExactShowName_gives (k : Nat) (g0 : Bool) (a0 : Tlaws_Name) (r : Bool) (H : Flaws_FnExactShowName k a0 = some r) : Gives Try.prog 15 [V.agg [Cell.sl g0 (List.map eS a0.Parts), cS a0.Realm]] [] [V.one (cL r)] [] := by
  refine Gives.intro Try.func15 rfl rfl rfl rfl ?_
  intro F hF hm
  unfold Flaws_FnExactShowName at H
  obtain ⟨K, hK⟩ : ∃ K, k ≤ K := ⟨k, Nat.le_refl k⟩
  refine WpC.seq ?_
  refine WpC.regionL ?_
  refine L.box 2 hF rfl rfl rfl rfl ?_
  refine L.assign hF rfl rfl rfl ?_
  refine L.nil ?_
  refine WpC.seq ?_
  refine WpC.regionL ?_
  refine L.assign hF rfl rfl rfl ?_
  refine L.nil ?_
  refine WpC.seq ?_
  refine WpC.regionL ?_
  refine L.loadPtr shape53 hF rfl rfl rfl rfl rfl rfl ?_
  refine L.move hF rfl rfl rfl ?_
  obtain ⟨r1, hr1, H⟩ := bindS H
  refine L.call [false, false] [] [] 3 hF rfl rfl rfl ent47 rfl rfl rfl rfl rfl (Flaws_szName_gives k g0 a0 (1048576 : Int) r1 hr1) rfl ?_
  refine L.assign hF rfl rfl rfl ?_
  refine L.nil ?_
  refine WpC.seq ?_
  refine WpC.seq ?_
  refine WpC.regionL ?_
  refine L.move hF rfl rfl rfl ?_
  refine L.bin hF rfl rfl rfl rfl rfl rfl ?_
  refine L.nil ?_
  refine WpC.cond rfl (fun hc => ?_) (fun hc => ?_)
  · replace H := condT hc H
    refine WpC.seq ?_
    refine WpC.regionL ?_
    refine L.assign hF rfl rfl rfl ?_
    refine L.nil ?_
    refine WpC.ret ?_
    cases H
    exact Leaves.ret rfl rfl rfl ⟨rfl, rfl⟩
  · replace H := condF hc H
    refine WpC.skip ?_
    refine WpC.seq ?_
    refine WpC.regionL ?_
    refine L.loadPtr shape53 hF rfl rfl rfl rfl rfl rfl ?_
    obtain ⟨r2, hr2, H⟩ := bindS H
    refine L.call [false] [] [] 4 hF rfl rfl rfl ent49 rfl rfl rfl rfl rfl (Flaws_toName_gives k g0 a0 r2 hr2) rfl ?_
    obtain ⟨r3, hr3, H⟩ := bindS H
    refine L.call [false] [4] [] 6 hF rfl rfl rfl ent66 rfl rfl rfl rfl rfl (Fspec_ShowName_gives k false r2 r3 hr3) rfl ?_
    refine L.assign hF rfl rfl rfl ?_
    refine L.nil ?_
    refine WpC.seq ?_
    refine WpC.regionL ?_
    refine L.loadPtr shape53 hF rfl rfl rfl rfl rfl rfl ?_
    obtain ⟨r4, hr4, H⟩ := bindS H
    refine L.call [false] [] [] 7 hF rfl rfl rfl ent49 rfl rfl rfl rfl rfl (Flaws_toName_gives k g0 a0 r4 hr4) rfl ?_
    refine L.alloc 9 info56 rfl hF rfl rfl rfl rfl ?_
    refine L.storePtr shape56 hF rfl rfl rfl rfl rfl rfl rfl ?_
    refine L.nil ?_
    refine WpC.seq ?_
    refine WpC.regionL ?_
    refine L.loadPtr shape56 hF rfl rfl rfl rfl rfl rfl ?_
    obtain ⟨r5, hr5, H⟩ := bindS H
    refine L.call [false] [7] [] 10 hF rfl rfl rfl ent67 rfl rfl rfl rfl rfl (Fimpl_ShowName_gives k false r4 r5 hr5) rfl ?_
    refine L.assign hF rfl rfl rfl ?_
    refine L.nil ?_
    refine WpC.seq ?_
    refine WpC.seq ?_
    refine WpC.regionL ?_
    refine L.move hF rfl rfl rfl ?_
    refine L.move hF rfl rfl rfl ?_
    refine L.binS hF rfl rfl rfl rfl rfl ?_
    refine L.nil ?_
    refine WpC.cond rfl (fun hc => ?_) (fun hc => ?_)
    · replace H := condT hc H
      refine WpC.seq ?_
      refine WpC.regionL ?_
      refine L.assign hF rfl rfl rfl ?_
      refine L.nil ?_
      refine WpC.ret ?_
      cases H
      exact Leaves.ret rfl rfl rfl ⟨rfl, rfl⟩
    · replace H := condF hc H
      refine WpC.skip ?_
      refine WpC.seq ?_
      refine WpC.seq ?_
      obtain ⟨r8, hr8, H⟩ := bindS H
      obtain ⟨r9, hr9, H⟩ := bindS H
      refine A.begin mixed rfl rfl ?_
      intro W hI hO
      have n31 : W 0 #[true, true, true, true, true] (mkSt [(26, one (cL (!r9)))] [] [] 0) := by
        refine hI _ _ _ (A.done (by kernel_rfl) ?_)
        refine WpC.cond rfl (fun hc => ?_) (fun hc => ?_)
        · replace H := condT hc H
          refine WpC.seq ?_
          refine WpC.regionL ?_
          refine L.assign hF rfl rfl rfl ?_
          refine L.nil ?_
          refine WpC.ret ?_
          cases H
          exact Leaves.ret rfl rfl rfl ⟨rfl, rfl⟩
        · replace H := condF hc H
          refine WpC.skip ?_
          refine WpC.seq ?_
          refine WpC.regionL ?_
          refine L.assign hF rfl rfl rfl ?_
          refine L.nil ?_
          refine WpC.ret ?_
          cases H
          exact Leaves.ret rfl rfl rfl ⟨rfl, rfl⟩
      have n15 : W 1 #[true, true, true, true, false] (mkSt [(25, one (cL r9))] [] [] 0) := by
        refine hI _ _ _ ?_
        refine A.take 4 rfl (by kernel_rfl) (by kernel_rfl) (by kernel_rfl) rfl (Ca.un rfl rfl) (fun Q0 k0 => L.not hF rfl rfl rfl (L.nil k0)) ?_
        exact A.on (hO _ _ _ n31) (Le.mk [] hm rfl ⟨⟨_, rfl, rfl⟩, trivial⟩ trivial trivial)
      have n7 : W 2 #[true, true, true, false, false] (mkSt [(22, agg [Cell.own 0, cS r4.Realm]), (24, agg [Cell.own 1, cS r8.Realm])] [(0, ⟨1, List.map eS r4.Parts⟩), (1, ⟨1, List.map eS r8.Parts⟩)] [] 2) := by
        refine hI _ _ _ ?_
        refine A.all [3] (by kernel_rfl) rfl ⟨⟨_, rfl, ?_⟩, trivial⟩
        · refine L.call [false, false] [0, 1] [] 2 hF rfl rfl rfl ent51 rfl rfl rfl rfl rfl (Flaws_eqName_gives k false false r4 r8 r9 hr9) rfl ?_
          refine L.nil ?_
          exact A.on (hO _ _ _ n15) (Le.mk [] hm rfl ⟨⟨_, rfl, rfl⟩, trivial⟩ trivial trivial)
      have n3 : W 3 #[true, true, false, false, false] (mkSt [(22, agg [Cell.own 0, cS r4.Realm]), (23, agg [Cell.sl g0 (List.map eS a0.Parts), cS a0.Realm])] [(0, ⟨1, List.map eS r4.Parts⟩)] [] 1) := by
        refine hI _ _ _ ?_
        refine A.all [2] (by kernel_rfl) rfl ⟨⟨_, rfl, ?_⟩, trivial⟩
        · refine L.call [false] [] [] 1 hF rfl rfl rfl ent49 rfl rfl rfl rfl rfl (Flaws_toName_gives k g0 a0 r8 hr8) rfl ?_
          refine L.nil ?_
          exact A.on (hO _ _ _ n7) (Le.mk [(0, 0), (1, 1)] hm rfl ⟨⟨_, rfl, rfl⟩, ⟨_, rfl, rfl⟩, trivial⟩ ⟨⟨_, rfl, rfl⟩, ⟨_, rfl, rfl⟩, trivial⟩ trivial)
      have n6 : W 3 #[false, true, true, false, false] (mkSt [(5, one (Cell.ptr 0 0)), (24, agg [Cell.own 1, cS r8.Realm])] [(1, ⟨1, List.map eS r8.Parts⟩), (2, ⟨1, List.map eS r4.Parts⟩)] [(0, [Cell.own 2, cS r4.Realm])] 3) := by
        refine hI _ _ _ ?_
        refine A.all [0] (by kernel_rfl) rfl ⟨⟨_, rfl, ?_⟩, trivial⟩
        · refine L.loadPtr shape56 hF rfl rfl rfl rfl rfl rfl ?_
          refine L.nil ?_
          exact A.on (hO _ _ _ n7) (Le.mk [(0, 2), (1, 1)] hm rfl ⟨⟨_, rfl, rfl⟩, ⟨_, rfl, rfl⟩, trivial⟩ ⟨⟨_, rfl, rfl⟩, ⟨_, rfl, rfl⟩, trivial⟩ trivial)
      have n1 : W 4 #[true, false, false, false, false] (mkSt [(1, one (Cell.ptr 0 0)), (22, agg [Cell.own 1, cS r4.Realm])] [(1, ⟨1, List.map eS r4.Parts⟩)] [(0, [Cell.sl g0 (List.map eS a0.Parts), cS a0.Realm])] 2) := by
        refine hI _ _ _ ?_
        refine A.all [1] (by kernel_rfl) rfl ⟨⟨_, rfl, ?_⟩, trivial⟩
        · refine L.loadPtr shape53 hF rfl rfl rfl rfl rfl rfl ?_
          refine L.nil ?_
          exact A.on (hO _ _ _ n3) (Le.mk [(0, 1)] hm rfl ⟨⟨_, rfl, rfl⟩, ⟨_, rfl, rfl⟩, trivial⟩ ⟨⟨_, rfl, rfl⟩, trivial⟩ trivial)
      have n2 : W 4 #[false, true, false, false, false] (mkSt [(5, one (Cell.ptr 0 0)), (23, agg [Cell.sl g0 (List.map eS a0.Parts), cS a0.Realm])] [(1, ⟨1, List.map eS r4.Parts⟩)] [(0, [Cell.own 1, cS r4.Realm])] 2) := by
        refine hI _ _ _ ?_
        refine A.all [0, 2] (by kernel_rfl) rfl ⟨⟨_, rfl, ?_⟩, ⟨_, rfl, ?_⟩, trivial⟩
        · refine L.loadPtr shape56 hF rfl rfl rfl rfl rfl rfl ?_
          refine L.nil ?_
          exact A.on (hO _ _ _ n3) (Le.mk [(0, 1)] hm rfl ⟨⟨_, rfl, rfl⟩, ⟨_, rfl, rfl⟩, trivial⟩ ⟨⟨_, rfl, rfl⟩, trivial⟩ trivial)
        · refine L.call [false] [] [] 2 hF rfl rfl rfl ent49 rfl rfl rfl rfl rfl (Flaws_toName_gives k g0 a0 r8 hr8) rfl ?_
          refine L.nil ?_
          exact A.on (hO _ _ _ n6) (Le.mk [(0, 0), (1, 2), (2, 1)] hm rfl ⟨⟨_, rfl, rfl⟩, ⟨_, rfl, rfl⟩, trivial⟩ ⟨⟨_, rfl, rfl⟩, ⟨_, rfl, rfl⟩, trivial⟩ ⟨⟨_, _, rfl, rfl, rfl⟩, trivial⟩)
      have n0 : W 5 #[false, false, false, false, false] (mkSt [(1, one (Cell.ptr 0 0)), (5, one (Cell.ptr 1 0))] [(2, ⟨1, List.map eS r4.Parts⟩)] [(0, [Cell.sl g0 (List.map eS a0.Parts), cS a0.Realm]), (1, [Cell.own 2, cS r4.Realm])] 3) := by
        refine hI _ _ _ ?_
        refine A.all [0, 1] (by kernel_rfl) rfl ⟨⟨_, rfl, ?_⟩, ⟨_, rfl, ?_⟩, trivial⟩
        · refine L.loadPtr shape56 hF rfl rfl rfl rfl rfl rfl ?_
          refine L.nil ?_
          exact A.on (hO _ _ _ n1) (Le.mk [(0, 0), (1, 2)] hm rfl ⟨⟨_, rfl, rfl⟩, ⟨_, rfl, rfl⟩, trivial⟩ ⟨⟨_, rfl, rfl⟩, trivial⟩ ⟨⟨_, _, rfl, rfl, rfl⟩, trivial⟩)
        · refine L.loadPtr shape53 hF rfl rfl rfl rfl rfl rfl ?_
          refine L.nil ?_
          exact A.on (hO _ _ _ n2) (Le.mk [(0, 1), (1, 2)] hm rfl ⟨⟨_, rfl, rfl⟩, ⟨_, rfl, rfl⟩, trivial⟩ ⟨⟨_, rfl, rfl⟩, trivial⟩ ⟨⟨_, _, rfl, rfl, rfl⟩, trivial⟩)
      exact hI _ _ _ (A.on (hO _ _ _ n0) (Le.mk [(0, 2), (1, 9), (2, 7)] hm rfl ⟨⟨_, rfl, rfl⟩, ⟨_, rfl, rfl⟩, trivial⟩ ⟨⟨_, rfl, rfl⟩, trivial⟩ ⟨⟨_, _, rfl, rfl, rfl⟩, ⟨_, _, rfl, rfl, rfl⟩, trivial⟩))
theorem open51 : Go.MG.Opens Try.prog 51 (Go.MG.eR Go.MG.eS) (Go.MG.wfR Go.MG.wfS) := Go.MG.Opens.slice Try.underlying51 (Go.MG.Opens.str Try.underlying9) (fun _ => (by kernel_rfl : Try.prog.cellsOf 9 = 1).symm) (fun _ => rfl) (fun _ => rfl) (by kernel_rfl)
def wfTlaws_Name (x : Tlaws_Name) : Prop := (Go.MG.wfR Go.MG.wfS) x.Parts ∧ Go.MG.wfS x.Realm
theorem open53 : Go.MG.Opens Try.prog 53 eTlaws_Name wfTlaws_Name := by
  intro H enc W fuel cs x h
  obtain ⟨n, hp⟩ := Go.MG.struct_parts Try.underlying53 (by kernel_rfl : Try.prog.cellsOf 53 = 2) (by kernel_rfl) h
  obtain ⟨c0, k0, y0, rfl, h0, hp⟩ := hp
  obtain ⟨c1, k1, y1, rfl, h1, hp⟩ := hp
  obtain rfl := hp
  obtain ⟨a0, r0, w0⟩ := open51 _ _ _ _ _ _ h0
  obtain ⟨a1, r1, w1⟩ := (Go.MG.Opens.str Try.underlying9) _ _ _ _ _ _ h1
  exact ⟨⟨a0, a1⟩, (r0.append (r1.append (rfl : Go.MG.RCs _ [] []))), w0, w1⟩
end Go.Proofs.Ytflcaebmammlfaa.M
