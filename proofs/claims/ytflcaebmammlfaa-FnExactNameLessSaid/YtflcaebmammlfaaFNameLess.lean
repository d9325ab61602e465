import Derived.Test.YtflcaebmammlfaaMgZc
import Derived.Test.YtflcaebmammlfaaProg
namespace Go.Proofs.Ytflcaebmammlfaa.M
open Go Go.MG
set_option linter.unusedVariables false
set_option linter.unusedSimpArgs false
structure Tlaws_Name where
  Parts : List (List UInt8)
  Realm : List UInt8
def eTlaws_Name (x : Tlaws_Name) : List Cell := [Cell.sl true (List.map eS x.Parts), cS x.Realm]
structure Timpl_Name where
  Parts : List (List UInt8)
  Realm : List UInt8
def eTimpl_Name (x : Timpl_Name) : List Cell := [Cell.sl true (List.map eS x.Parts), cS x.Realm]
theorem mixed : Try.prog.follows .mixedOrders = true := by kernel_rfl
theorem shape9 : MG.shape Try.prog 9 = some (false, 1) := by kernel_rfl
theorem shape51 : MG.shape Try.prog 51 = some (false, 1) := by kernel_rfl
theorem shape53 : MG.shape Try.prog 53 = some (true, 2) := by kernel_rfl
theorem shape56 : MG.shape Try.prog 56 = some (true, 2) := by kernel_rfl
theorem info9 : Try.prog.info? 9 = some Try.t9 := by kernel_rfl
theorem info51 : Try.prog.info? 51 = some Try.t51 := by kernel_rfl
theorem info56 : Try.prog.info? 56 = some Try.t56 := by kernel_rfl
/-! ### Flaws_szStringS -/
def Flaws_szStringS.l2 : Nat → (List (List UInt8)) → Int → Int → Option Int
  | 0, _, _, _ => none
  | k2 + 1, v24, v25, v26 => cond (decide (v26 < (v24.length : Int))) ((at? v24 v26).bind fun b28 => cond (decide ((IntKind.i64.wrap (v25 - (b28.length : Int))) < (0 : Int))) (some (-1 : Int)) ((Flaws_szStringS.l2 k2) v24 (IntKind.i64.wrap (v25 - (b28.length : Int))) (IntKind.i64.wrap (v26 + (1 : Int))))) (some v25)
def Flaws_szStringS (k : Nat) (a0 : List (List UInt8)) (a1 : Int) : Option Int := cond (decide ((IntKind.i64.wrap (a1 - (a0.length : Int))) < (0 : Int))) (some (-1 : Int)) (Flaws_szStringS.l2 k a0 (IntKind.i64.wrap (a1 - (a0.length : Int))) (0 : Int))
theorem ent106 : Enters Try.prog 106 := ⟨Try.f106, Try.func106, rfl, by decide⟩
set_option maxHeartbeats 8000000 in
set_option maxRecDepth 100000 in
theorem Flaws_szStringS_gives (k : Nat) (g0 : Bool) (a0 : List (List UInt8)) (a1 : Int) (r : Int) (H : Flaws_szStringS k a0 a1 = some r) : Gives Try.prog 106 [V.one (Cell.sl g0 (List.map eS a0)), V.one (cI a1)] [] [V.one (cI r)] [] := by
  refine Gives.intro Try.func106 rfl rfl rfl rfl ?_
  intro F hF hm
  unfold Flaws_szStringS at H
  obtain ⟨K, hK⟩ : ∃ K, k ≤ K := ⟨k, Nat.le_refl k⟩
  refine WpC.seq ?_
  refine WpC.regionL ?_
  refine L.assign hF rfl rfl rfl ?_
  refine L.nil ?_
  refine WpC.seq ?_
  refine WpC.regionL ?_
  refine L.move hF rfl rfl rfl ?_
  refine L.move hF rfl rfl rfl ?_
  refine L.lenR (xs := a0) (e := eS) Try.underlying51 hF rfl rfl rfl rfl ?_
  refine L.bin hF rfl rfl rfl rfl rfl rfl ?_
  refine L.assign hF rfl rfl rfl ?_
  refine L.nil ?_
  refine WpC.seq ?_
  refine WpC.seq ?_
  refine WpC.regionL ?_
  refine L.move hF rfl rfl rfl ?_
  refine L.bin hF rfl rfl rfl rfl rfl rfl ?_
  refine L.nil ?_
  refine WpC.cond rfl (fun hc => ?_) (fun hc => ?_)
  · replace H := condT hc H
    refine WpC.seq ?_
    refine WpC.regionL ?_
    refine L.assign hF rfl rfl rfl ?_
    refine L.nil ?_
    refine WpC.ret ?_
    cases H
    exact Leaves.ret rfl rfl rfl ⟨rfl, rfl⟩
  · replace H := condF hc H
    refine WpC.skip ?_
    refine WpC.seq ?_
    refine WpC.seq ?_
    refine WpC.regionL ?_
    refine L.assign hF rfl rfl rfl ?_
    refine L.nil ?_
    refine WpC.block ?_
    refine WpC.loopL (P := Try.prog) (fun n σ => ∃ v24 : List (List UInt8), ∃ v25 : Int, ∃ v26 : Int, n ≤ K ∧ Flaws_szStringS.l2 n v24 v25 v26 = some r ∧ σ = mkSt [(0, one (Cell.sl g0 (List.map eS v24))), (1, one (cI v25)), (5, one (cI v26))] [] [] 0) k ⟨_, ⟨a0, (IntKind.i64.wrap (a1 - (a0.length : Int))), (0 : Int), by omega, H, rfl⟩, Le.mk [] hm rfl ⟨⟨_, rfl, rfl⟩, ⟨_, rfl, rfl⟩, ⟨_, rfl, rfl⟩, trivial⟩ trivial trivial⟩ ?_
    clear H
    rintro k2 _ ⟨v24, v25, v26, hk2, H, rfl⟩
    cases k2 with
    | zero => cases H
    | succ k2 =>
      rw [Flaws_szStringS.l2] at H
      refine WpC.seq ?_
      refine WpC.seq ?_
      refine WpC.regionL ?_
      refine L.move hF rfl rfl rfl ?_
      refine L.move hF rfl rfl rfl ?_
      refine L.lenR (xs := v24) (e := eS) Try.underlying51 hF rfl rfl rfl rfl ?_
      refine L.bin hF rfl rfl rfl rfl rfl rfl ?_
      refine L.nil ?_
      refine WpC.cond rfl (fun hc => ?_) (fun hc => ?_)
      · replace H := condT hc H
        refine WpC.skip ?_
        refine WpC.seq ?_
        refine WpC.block ?_
        refine WpC.seq ?_
        refine WpC.regionL ?_
        refine L.move hF rfl rfl rfl ?_
        refine L.move hF rfl rfl rfl ?_
        refine L.move hF rfl rfl rfl ?_
        obtain ⟨b28, hb28, H⟩ := bindS H
        refine L.idxR (xs := v24) (e := eS) Try.underlying51 info9 hF rfl rfl rfl rfl rfl hb28 rfl rfl ?_
        refine L.loadPe shape9 hF rfl rfl rfl rfl rfl ?_
        refine L.lenS Try.underlying9 hF rfl rfl rfl ?_
        refine L.bin hF rfl rfl rfl rfl rfl rfl ?_
        refine L.assign hF rfl rfl rfl ?_
        refine L.nil ?_
        refine WpC.seq ?_
        refine WpC.regionL ?_
        refine L.move hF rfl rfl rfl ?_
        refine L.bin hF rfl rfl rfl rfl rfl rfl ?_
        refine L.nil ?_
        refine WpC.cond rfl (fun hc => ?_) (fun hc => ?_)
        · replace H := condT hc H
          refine WpC.seq ?_
          refine WpC.regionL ?_
          refine L.assign hF rfl rfl rfl ?_
          refine L.nil ?_
          refine WpC.ret ?_
          cases H
          exact Leaves.ret rfl rfl rfl ⟨rfl, rfl⟩
        · replace H := condF hc H
          refine WpC.skip ?_
          refine WpC.regionL ?_
          refine L.move hF rfl rfl rfl ?_
          refine L.bin hF rfl rfl rfl rfl rfl rfl ?_
          refine L.assign hF rfl rfl rfl ?_
          refine L.nil ?_
          exact ⟨k2, _, by omega, ⟨v24, (IntKind.i64.wrap (v25 - (b28.length : Int))), (IntKind.i64.wrap (v26 + (1 : Int))), by omega, H, rfl⟩, Le.mk [] hm rfl ⟨⟨_, rfl, rfl⟩, ⟨_, rfl, rfl⟩, ⟨_, rfl, rfl⟩, trivial⟩ trivial trivial⟩
      · replace H := condF hc H
        refine WpC.exit ?_
        refine WpC.seq ?_
        refine WpC.regionL ?_
        refine L.move hF rfl rfl rfl ?_
        refine L.assign hF rfl rfl rfl ?_
        refine L.nil ?_
        refine WpC.ret ?_
        cases H
        exact Leaves.ret rfl rfl rfl ⟨rfl, rfl⟩
/-! ### Flaws_szName -/
def Flaws_szName (k : Nat) (a0 : Tlaws_Name) (a1 : Int) : Option Int := (Flaws_szStringS k a0.Parts a1).bind fun r1 => cond (decide (r1 < (0 : Int))) (some (-1 : Int)) (cond (decide ((IntKind.i64.wrap (r1 - (a0.Realm.length : Int))) < (0 : Int))) (some (-1 : Int)) (some (IntKind.i64.wrap (r1 - (a0.Realm.length : Int)))))
theorem ent47 : Enters Try.prog 47 := ⟨Try.f47, Try.func47, rfl, by decide⟩
set_option maxHeartbeats 8000000 in
set_option maxRecDepth 100000 in
theorem Flaws_szName_gives (k : Nat) (g0 : Bool) (a0 : Tlaws_Name) (a1 : Int) (r : Int) (H : Flaws_szName k a0 a1 = some r) : Gives Try.prog 47 [V.agg [Cell.sl g0 (List.map eS a0.Parts), cS a0.Realm], V.one (cI a1)] [] [V.one (cI r)] [] := by
  refine Gives.intro Try.func47 rfl rfl rfl rfl ?_
  intro F hF hm
  unfold Flaws_szName at H
  obtain ⟨K, hK⟩ : ∃ K, k ≤ K := ⟨k, Nat.le_refl k⟩
  refine WpC.seq ?_
  refine WpC.regionL ?_
  refine L.box 3 hF rfl rfl rfl rfl ?_
  refine L.assign hF rfl rfl rfl ?_
  refine L.nil ?_
  refine WpC.seq ?_
  refine WpC.regionL ?_
  refine L.fieldAddr Try.underlying53 rfl info51 rfl hF rfl rfl rfl rfl rfl ?_
  refine L.loadPtr shape51 hF rfl rfl rfl rfl rfl rfl ?_
  refine L.move hF rfl rfl rfl ?_
  obtain ⟨r1, hr1, H⟩ := bindS H
  refine L.call [false, false] [] [] 4 hF rfl rfl rfl ent106 rfl rfl rfl rfl rfl (Flaws_szStringS_gives k g0 a0.Parts a1 r1 hr1) rfl ?_
  refine L.assign hF rfl rfl rfl ?_
  refine L.nil ?_
  refine WpC.seq ?_
  refine WpC.seq ?_
  refine WpC.regionL ?_
  refine L.move hF rfl rfl rfl ?_
  refine L.bin hF rfl rfl rfl rfl rfl rfl ?_
  refine L.nil ?_
  refine WpC.cond rfl (fun hc => ?_) (fun hc => ?_)
  · replace H := condT hc H
    refine WpC.seq ?_
    refine WpC.regionL ?_
    refine L.assign hF rfl rfl rfl ?_
    refine L.nil ?_
    refine WpC.ret ?_
    cases H
    exact Leaves.ret rfl rfl rfl ⟨rfl, rfl⟩
  · replace H := condF hc H
    refine WpC.skip ?_
    refine WpC.seq ?_
    refine WpC.regionL ?_
    refine L.move hF rfl rfl rfl ?_
    refine L.fieldAddr Try.underlying53 rfl info9 rfl hF rfl rfl rfl rfl rfl ?_
    refine L.loadPtr shape9 hF rfl rfl rfl rfl rfl rfl ?_
    refine L.lenS Try.underlying9 hF rfl rfl rfl ?_
    refine L.bin hF rfl rfl rfl rfl rfl rfl ?_
    refine L.assign hF rfl rfl rfl ?_
    refine L.nil ?_
    refine WpC.seq ?_
    refine WpC.seq ?_
    refine WpC.regionL ?_
    refine L.move hF rfl rfl rfl ?_
    refine L.bin hF rfl rfl rfl rfl rfl rfl ?_
    refine L.nil ?_
    refine WpC.cond rfl (fun hc => ?_) (fun hc => ?_)
    · replace H := condT hc H
      refine WpC.seq ?_
      refine WpC.regionL ?_
      refine L.assign hF rfl rfl rfl ?_
      refine L.nil ?_
      refine WpC.ret ?_
      cases H
      exact Leaves.ret rfl rfl rfl ⟨rfl, rfl⟩
    · replace H := condF hc H
      refine WpC.skip ?_
      refine WpC.seq ?_
      refine WpC.regionL ?_
      refine L.move hF rfl rfl rfl ?_
      refine L.assign hF rfl rfl rfl ?_
      refine L.nil ?_
      refine WpC.ret ?_
      cases H
      exact Leaves.ret rfl rfl rfl ⟨rfl, rfl⟩
/-! ### Flaws_toStringS -/
def Flaws_toStringS.l2 : Nat → (List (List UInt8)) → (List (List UInt8)) → Int → Option (List (List UInt8))
  | 0, _, _, _ => none
  | k2 + 1, v35, v36, v37 => cond (decide (v37 < (v35.length : Int))) ((at? v35 v37).bind fun b40 => (at? v36 v37).bind fun b41 => (Flaws_toStringS.l2 k2) v35 (v36.set v37.toNat b40) (IntKind.i64.wrap (v37 + (1 : Int)))) (some v36)
def Flaws_toStringS (k : Nat) (a0 : List (List UInt8)) : Option (List (List UInt8)) := cond (decide (0 ≤ (a0.length : Int) ∧ (a0.length : Int) ≤ (a0.length : Int) ∧ 16 * (a0.length : Int) ≤ 281474976710656 ∧ (a0.length : Int) ≤ 9223372036854775807)) (Flaws_toStringS.l2 k a0 (List.replicate (a0.length : Int).toNat ([] : List UInt8)) (0 : Int)) none
theorem ent108 : Enters Try.prog 108 := ⟨Try.f108, Try.func108, rfl, by decide⟩
set_option maxHeartbeats 8000000 in
set_option maxRecDepth 100000 in
theorem Flaws_toStringS_gives (k : Nat) (g0 : Bool) (a0 : List (List UInt8)) (r : List (List UInt8)) (H : Flaws_toStringS k a0 = some r) : Gives Try.prog 108 [V.one (Cell.sl g0 (List.map eS a0))] [] [V.one (Cell.ow 1 (List.map eS r))] [] := by
  refine Gives.intro Try.func108 rfl rfl rfl rfl ?_
  intro F hF hm
  unfold Flaws_toStringS at H
  obtain ⟨K, hK⟩ : ∃ K, k ≤ K := ⟨k, Nat.le_refl k⟩
  refine WpC.seq ?_
  refine WpC.regionL ?_
  refine L.assign hF rfl rfl rfl ?_
  refine L.nil ?_
  refine WpC.seq ?_
  refine WpC.regionL ?_
  refine L.move hF rfl rfl rfl ?_
  refine L.lenR (xs := a0) (e := eS) Try.underlying51 hF rfl rfl rfl rfl ?_
  obtain ⟨h1, H⟩ := condG H
  refine L.makeSlice (e := eS) 1 ([] : List UInt8) Try.underlying51 info9 rfl rfl rfl hF rfl rfl rfl rfl (of_decide_eq_true h1) rfl rfl ?_
  refine L.assign hF rfl rfl rfl ?_
  refine L.nil ?_
  refine WpC.seq ?_
  refine WpC.seq ?_
  refine WpC.regionL ?_
  refine L.assign hF rfl rfl rfl ?_
  refine L.nil ?_
  refine WpC.block ?_
  refine WpC.loopL (P := Try.prog) (fun n σ => ∃ v35 : List (List UInt8), ∃ v36 : List (List UInt8), ∃ v37 : Int, n ≤ K ∧ Flaws_toStringS.l2 n v35 v36 v37 = some r ∧ σ = mkSt [(0, one (Cell.sl g0 (List.map eS v35))), (3, one (Cell.own 0)), (4, one (cI v37))] [(0, ⟨1, List.map eS v36⟩)] [] 1) k ⟨_, ⟨a0, (List.replicate (a0.length : Int).toNat ([] : List UInt8)), (0 : Int), by omega, H, rfl⟩, Le.mk [(0, 1)] hm rfl ⟨⟨_, rfl, rfl⟩, ⟨_, rfl, rfl⟩, ⟨_, rfl, rfl⟩, trivial⟩ ⟨⟨_, rfl, rfl⟩, trivial⟩ trivial⟩ ?_
  clear H
  rintro k2 _ ⟨v35, v36, v37, hk2, H, rfl⟩
  cases k2 with
  | zero => cases H
  | succ k2 =>
    rw [Flaws_toStringS.l2] at H
    refine WpC.seq ?_
    refine WpC.seq ?_
    refine WpC.regionL ?_
    refine L.move hF rfl rfl rfl ?_
    refine L.move hF rfl rfl rfl ?_
    refine L.lenR (xs := v35) (e := eS) Try.underlying51 hF rfl rfl rfl rfl ?_
    refine L.bin hF rfl rfl rfl rfl rfl rfl ?_
    refine L.nil ?_
    refine WpC.cond rfl (fun hc => ?_) (fun hc => ?_)
    · replace H := condT hc H
      refine WpC.skip ?_
      refine WpC.seq ?_
      refine WpC.block ?_
      refine WpC.regionL ?_
      refine L.move hF rfl rfl rfl ?_
      refine L.move hF rfl rfl rfl ?_
      refine L.move hF rfl rfl rfl ?_
      refine L.move hF rfl rfl rfl ?_
      obtain ⟨b40, hb40, H⟩ := bindS H
      refine L.idxR (xs := v35) (e := eS) Try.underlying51 info9 hF rfl rfl rfl rfl rfl hb40 rfl rfl ?_
      refine L.loadPe shape9 hF rfl rfl rfl rfl rfl ?_
      obtain ⟨b41, hb41, H⟩ := bindS H
      refine L.idxR (xs := v36) (e := eS) Try.underlying51 info9 hF rfl rfl rfl rfl rfl hb41 rfl rfl ?_
      refine L.storeEp (xs := v36) (e := eS) (a' := b40) shape9 hF rfl rfl rfl rfl rfl rfl rfl (at?_get hb41).2 rfl rfl ?_
      refine L.nil ?_
      refine WpC.regionL ?_
      refine L.move hF rfl rfl rfl ?_
      refine L.bin hF rfl rfl rfl rfl rfl rfl ?_
      refine L.assign hF rfl rfl rfl ?_
      refine L.nil ?_
      exact ⟨k2, _, by omega, ⟨v35, (v36.set v37.toNat b40), (IntKind.i64.wrap (v37 + (1 : Int))), by omega, H, rfl⟩, Le.mk [(0, 0)] hm rfl ⟨⟨_, rfl, rfl⟩, ⟨_, rfl, rfl⟩, ⟨_, rfl, rfl⟩, trivial⟩ ⟨⟨_, rfl, rfl⟩, trivial⟩ trivial⟩
    · replace H := condF hc H
      refine WpC.exit ?_
      refine WpC.seq ?_
      refine WpC.regionL ?_
      refine L.move hF rfl rfl rfl ?_
      refine L.assign hF rfl rfl rfl ?_
      refine L.nil ?_
      refine WpC.ret ?_
      cases H
      exact Leaves.ret rfl rfl rfl ⟨rfl, rfl⟩
/-! ### Flaws_toName -/
def Flaws_toName (k : Nat) (a0 : Tlaws_Name) : Option Timpl_Name := (Flaws_toStringS k a0.Parts).bind fun r1 => some (⟨r1, a0.Realm⟩ : Timpl_Name)
theorem ent49 : Enters Try.prog 49 := ⟨Try.f49, Try.func49, rfl, by decide⟩
set_option maxHeartbeats 8000000 in
set_option maxRecDepth 100000 in
theorem Flaws_toName_gives (k : Nat) (g0 : Bool) (a0 : Tlaws_Name) (r : Timpl_Name) (H : Flaws_toName k a0 = some r) : Gives Try.prog 49 [V.agg [Cell.sl g0 (List.map eS a0.Parts), cS a0.Realm]] [] [V.agg [Cell.ow 1 (List.map eS r.Parts), cS r.Realm]] [] := by
  refine Gives.intro Try.func49 rfl rfl rfl rfl ?_
  intro F hF hm
  unfold Flaws_toName at H
  obtain ⟨K, hK⟩ : ∃ K, k ≤ K := ⟨k, Nat.le_refl k⟩
  refine WpC.seq ?_
  refine WpC.regionL ?_
  refine L.box 2 hF rfl rfl rfl rfl ?_
  refine L.alloc 3 info56 rfl hF rfl rfl rfl rfl ?_
  refine L.nil ?_
  refine WpC.seq ?_
  refine WpC.regionL ?_
  refine L.alloc 4 info56 rfl hF rfl rfl rfl rfl ?_
  refine L.nil ?_
  refine WpC.seq ?_
  refine WpC.regionL ?_
  refine L.fieldAddr Try.underlying53 rfl info51 rfl hF rfl rfl rfl rfl rfl ?_
  refine L.loadPtr shape51 hF rfl rfl rfl rfl rfl rfl ?_
  obtain ⟨r1, hr1, H⟩ := bindS H
  refine L.call [false] [] [] 5 hF rfl rfl rfl ent108 rfl rfl rfl rfl rfl (Flaws_toStringS_gives k g0 a0.Parts r1 hr1) rfl ?_
  refine L.fieldAddr Try.underlying56 rfl info51 rfl hF rfl rfl rfl rfl rfl ?_
  refine L.storePtr shape51 hF rfl rfl rfl rfl rfl rfl rfl ?_
  refine L.nil ?_
  refine WpC.seq ?_
  refine WpC.regionL ?_
  refine L.fieldAddr Try.underlying53 rfl info9 rfl hF rfl rfl rfl rfl rfl ?_
  refine L.loadPtr shape9 hF rfl rfl rfl rfl rfl rfl ?_
  refine L.fieldAddr Try.underlying56 rfl info9 rfl hF rfl rfl rfl rfl rfl ?_
  refine L.storePtr shape9 hF rfl rfl rfl rfl rfl rfl rfl ?_
  refine L.nil ?_
  refine WpC.seq ?_
  refine WpC.regionL ?_
  refine L.loadPtr shape56 hF rfl rfl rfl rfl rfl rfl ?_
  refine L.storePtr shape56 hF rfl rfl rfl rfl rfl rfl rfl ?_
  refine L.nil ?_
  refine WpC.ret ?_
  cases H
  exact Leaves.ret rfl rfl rfl ⟨rfl, rfl⟩
/-! ### Fspec_NameLess -/
def Fspec_NameLess.j2 (k : Nat) (v39 : List (List UInt8)) (v40 : List UInt8) (v41 : List (List UInt8)) (v42 : List UInt8) : Option Bool := some (decide ((v39.length : Int) < (v41.length : Int)))
def Fspec_NameLess.l3 : Nat → Int → (List (List UInt8)) → (List UInt8) → (List (List UInt8)) → (List UInt8) → Option Bool
  | 0, _, _, _, _, _ => none
  | k3 + 1, v68, v69, v70, v71, v72 => cond (decide (v68 < (v69.length : Int))) (cond (decide (v68 < (v71.length : Int))) ((at? v69 v68).bind fun b77 => (at? v71 v68).bind fun b78 => cond (b77 != b78) ((at? v69 v68).bind fun b79 => (at? v71 v68).bind fun b80 => some (Op.bytesLess b79 b80)) ((Fspec_NameLess.l3 k3) (IntKind.i64.wrap (v68 + (1 : Int))) v69 v70 v71 v72)) (Fspec_NameLess.j2 k3 v69 v70 v71 v72)) (Fspec_NameLess.j2 k3 v69 v70 v71 v72)
def Fspec_NameLess (k : Nat) (a0 : Timpl_Name) (a1 : Timpl_Name) : Option Bool := cond (a0.Realm != a1.Realm) (some (Op.bytesLess a0.Realm a1.Realm)) (Fspec_NameLess.l3 k (0 : Int) a0.Parts a0.Realm a1.Parts a1.Realm)
theorem ent57 : Enters Try.prog 57 := ⟨Try.f57, Try.func57, rfl, by decide⟩
set_option maxHeartbeats 8000000 in
set_option maxRecDepth 100000 in
theorem Fspec_NameLess_gives (k : Nat) (g0 : Bool) (g1 : Bool) (a0 : Timpl_Name) (a1 : Timpl_Name) (r : Bool) (H : Fspec_NameLess k a0 a1 = some r) : Gives Try.prog 57 [V.agg [Cell.sl g0 (List.map eS a0.Parts), cS a0.Realm], V.agg [Cell.sl g1 (List.map eS a1.Parts), cS a1.Realm]] [] [V.one (cL r)] [] := by
  refine Gives.intro Try.func57 rfl rfl rfl rfl ?_
  intro F hF hm
  unfold Fspec_NameLess at H
  obtain ⟨K, hK⟩ : ∃ K, k ≤ K := ⟨k, Nat.le_refl k⟩
  refine WpC.seq ?_
  refine WpC.regionL ?_
  refine L.box 4 hF rfl rfl rfl rfl ?_
  refine L.box 5 hF rfl rfl rfl rfl ?_
  refine L.assign hF rfl rfl rfl ?_
  refine L.nil ?_
  refine WpC.seq ?_
  refine WpC.seq ?_
  refine WpC.regionL ?_
  refine L.fieldAddr Try.underlying56 rfl info9 rfl hF rfl rfl rfl rfl rfl ?_
  refine L.loadPtr shape9 hF rfl rfl rfl rfl rfl rfl ?_
  refine L.fieldAddr Try.underlying56 rfl info9 rfl hF rfl rfl rfl rfl rfl ?_
  refine L.loadPtr shape9 hF rfl rfl rfl rfl rfl rfl ?_
  refine L.binS hF rfl rfl rfl rfl rfl ?_
  refine L.nil ?_
  refine WpC.cond rfl (fun hc => ?_) (fun hc => ?_)
  · replace H := condT hc H
    refine WpC.seq ?_
    refine WpC.regionL ?_
    refine L.fieldAddr Try.underlying56 rfl info9 rfl hF rfl rfl rfl rfl rfl ?_
    refine L.loadPtr shape9 hF rfl rfl rfl rfl rfl rfl ?_
    refine L.fieldAddr Try.underlying56 rfl info9 rfl hF rfl rfl rfl rfl rfl ?_
    refine L.loadPtr shape9 hF rfl rfl rfl rfl rfl rfl ?_
    refine L.binS hF rfl rfl rfl rfl rfl ?_
    refine L.assign hF rfl rfl rfl ?_
    refine L.nil ?_
    refine WpC.ret ?_
    cases H
    exact Leaves.ret rfl rfl rfl ⟨rfl, rfl⟩
  · replace H := condF hc H
    refine WpC.skip ?_
    refine WpC.join (fun σ => ∃ kj2 : Nat, ∃ v39 : List (List UInt8), ∃ v40 : List UInt8, ∃ v41 : List (List UInt8), ∃ v42 : List UInt8, kj2 ≤ K ∧ Fspec_NameLess.j2 kj2 v39 v40 v41 v42 = some r ∧ σ = mkSt [(2, one (Cell.ptr 0 0)), (3, one (Cell.ptr 1 0))] [] [(0, [Cell.sl g0 (List.map eS v39), cS v40]), (1, [Cell.sl g1 (List.map eS v41), cS v42])] 2) ?_ ?_
    · rintro _ ⟨kj2, v39, v40, v41, v42, hkj2, H, rfl⟩
      unfold Fspec_NameLess.j2 at H
      refine WpC.seq ?_
      refine WpC.regionL ?_
      refine L.fieldAddr Try.underlying56 rfl info51 rfl hF rfl rfl rfl rfl rfl ?_
      refine L.loadPtr shape51 hF rfl rfl rfl rfl rfl rfl ?_
      refine L.lenR (xs := v39) (e := eS) Try.underlying51 hF rfl rfl rfl rfl ?_
      refine L.fieldAddr Try.underlying56 rfl info51 rfl hF rfl rfl rfl rfl rfl ?_
      refine L.loadPtr shape51 hF rfl rfl rfl rfl rfl rfl ?_
      refine L.lenR (xs := v41) (e := eS) Try.underlying51 hF rfl rfl rfl rfl ?_
      refine L.bin hF rfl rfl rfl rfl rfl rfl ?_
      refine L.assign hF rfl rfl rfl ?_
      refine L.nil ?_
      refine WpC.ret ?_
      cases H
      exact Leaves.ret rfl rfl rfl ⟨rfl, rfl⟩
    · refine WpC.seq ?_
      refine WpC.regionL ?_
      refine L.assign hF rfl rfl rfl ?_
      refine L.nil ?_
      refine WpC.block ?_
      refine WpC.loopL (P := Try.prog) (fun n σ => ∃ v68 : Int, ∃ v69 : List (List UInt8), ∃ v70 : List UInt8, ∃ v71 : List (List UInt8), ∃ v72 : List UInt8, n ≤ K ∧ Fspec_NameLess.l3 n v68 v69 v70 v71 v72 = some r ∧ σ = mkSt [(2, one (Cell.ptr 0 0)), (3, one (Cell.ptr 1 0)), (5, one (cI v68))] [] [(0, [Cell.sl g0 (List.map eS v69), cS v70]), (1, [Cell.sl g1 (List.map eS v71), cS v72])] 2) k ⟨_, ⟨(0 : Int), a0.Parts, a0.Realm, a1.Parts, a1.Realm, by omega, H, rfl⟩, Le.mk [(0, 4), (1, 5)] hm rfl ⟨⟨_, rfl, rfl⟩, ⟨_, rfl, rfl⟩, ⟨_, rfl, rfl⟩, trivial⟩ trivial ⟨⟨_, _, rfl, rfl, rfl⟩, ⟨_, _, rfl, rfl, rfl⟩, trivial⟩⟩ ?_
      clear H
      rintro k3 _ ⟨v68, v69, v70, v71, v72, hk3, H, rfl⟩
      cases k3 with
      | zero => cases H
      | succ k3 =>
        rw [Fspec_NameLess.l3] at H
        refine WpC.seq ?_
        refine WpC.seq ?_
        refine WpC.regionL ?_
        refine L.move hF rfl rfl rfl ?_
        refine L.fieldAddr Try.underlying56 rfl info51 rfl hF rfl rfl rfl rfl rfl ?_
        refine L.loadPtr shape51 hF rfl rfl rfl rfl rfl rfl ?_
        refine L.lenR (xs := v69) (e := eS) Try.underlying51 hF rfl rfl rfl rfl ?_
        refine L.bin hF rfl rfl rfl rfl rfl rfl ?_
        refine L.move hF rfl rfl rfl ?_
        refine L.split (fun hc => ?_) (fun hc => ?_)
        · replace H := condT hc H
          refine L.move hF rfl rfl rfl ?_
          refine L.fieldAddr Try.underlying56 rfl info51 rfl hF rfl rfl rfl rfl rfl ?_
          refine L.loadPtr shape51 hF rfl rfl rfl rfl rfl rfl ?_
          refine L.lenR (xs := v71) (e := eS) Try.underlying51 hF rfl rfl rfl rfl ?_
          refine L.bin hF rfl rfl rfl rfl rfl rfl ?_
          refine L.pick hF rfl rfl rfl rfl ?_
          refine L.nil ?_
          refine WpC.cond rfl (fun hc => ?_) (fun hc => ?_)
          · replace H := condT hc H
            refine WpC.skip ?_
            refine WpC.seq ?_
            refine WpC.block ?_
            refine WpC.seq ?_
            refine S.begin mixed (by kernel_rfl) ?_
            refine S.st 0 rfl rfl ((Ca.fieldAddr Try.underlying56 rfl info51 rfl).quiet) (fun Q0 k0 => L.fieldAddr Try.underlying56 rfl info51 rfl hF rfl rfl rfl rfl rfl (L.nil k0)) ?_
            refine S.st 1 rfl rfl (Qu.load) (fun Q0 k0 => L.loadPtr shape51 hF rfl rfl rfl rfl rfl rfl (L.nil k0)) ?_
            refine S.st 2 rfl rfl ((Ca.move).quiet) (fun Q0 k0 => L.move hF rfl rfl rfl (L.nil k0)) ?_
            obtain ⟨b77, hb77, H⟩ := bindS H
            refine S.st 3 rfl rfl ((Ca.indexAddr).quiet) (fun Q0 k0 => L.idxR (xs := v69) (e := eS) Try.underlying51 info9 hF rfl rfl rfl rfl rfl hb77 rfl rfl (L.nil k0)) ?_
            refine S.st 4 rfl rfl (Qu.load) (fun Q0 k0 => L.loadPe shape9 hF rfl rfl rfl rfl rfl (L.nil k0)) ?_
            refine S.st 5 rfl rfl ((Ca.fieldAddr Try.underlying56 rfl info51 rfl).quiet) (fun Q0 k0 => L.fieldAddr Try.underlying56 rfl info51 rfl hF rfl rfl rfl rfl rfl (L.nil k0)) ?_
            refine S.st 6 rfl rfl (Qu.load) (fun Q0 k0 => L.loadPtr shape51 hF rfl rfl rfl rfl rfl rfl (L.nil k0)) ?_
            refine S.st 7 rfl rfl ((Ca.move).quiet) (fun Q0 k0 => L.move hF rfl rfl rfl (L.nil k0)) ?_
            obtain ⟨b78, hb78, H⟩ := bindS H
            refine S.st 8 rfl rfl ((Ca.indexAddr).quiet) (fun Q0 k0 => L.idxR (xs := v71) (e := eS) Try.underlying51 info9 hF rfl rfl rfl rfl rfl hb78 rfl rfl (L.nil k0)) ?_
            refine S.st 9 rfl rfl (Qu.load) (fun Q0 k0 => L.loadPe shape9 hF rfl rfl rfl rfl rfl (L.nil k0)) ?_
            refine S.st 10 rfl rfl ((Ca.bin rfl rfl (calm_str _ _ _ _ _ _)).quiet) (fun Q0 k0 => L.binS hF rfl rfl rfl rfl rfl (L.nil k0)) ?_
            refine S.nil ?_
            refine WpC.cond rfl (fun hc => ?_) (fun hc => ?_)
            · replace H := condT hc H
              refine WpC.seq ?_
              refine S.begin mixed (by kernel_rfl) ?_
              refine S.st 0 rfl rfl ((Ca.fieldAddr Try.underlying56 rfl info51 rfl).quiet) (fun Q0 k0 => L.fieldAddr Try.underlying56 rfl info51 rfl hF rfl rfl rfl rfl rfl (L.nil k0)) ?_
              refine S.st 1 rfl rfl (Qu.load) (fun Q0 k0 => L.loadPtr shape51 hF rfl rfl rfl rfl rfl rfl (L.nil k0)) ?_
              refine S.st 2 rfl rfl ((Ca.move).quiet) (fun Q0 k0 => L.move hF rfl rfl rfl (L.nil k0)) ?_
              obtain ⟨b79, hb79, H⟩ := bindS H
              refine S.st 3 rfl rfl ((Ca.indexAddr).quiet) (fun Q0 k0 => L.idxR (xs := v69) (e := eS) Try.underlying51 info9 hF rfl rfl rfl rfl rfl hb79 rfl rfl (L.nil k0)) ?_
              refine S.st 4 rfl rfl (Qu.load) (fun Q0 k0 => L.loadPe shape9 hF rfl rfl rfl rfl rfl (L.nil k0)) ?_
              refine S.st 5 rfl rfl ((Ca.fieldAddr Try.underlying56 rfl info51 rfl).quiet) (fun Q0 k0 => L.fieldAddr Try.underlying56 rfl info51 rfl hF rfl rfl rfl rfl rfl (L.nil k0)) ?_
              refine S.st 6 rfl rfl (Qu.load) (fun Q0 k0 => L.loadPtr shape51 hF rfl rfl rfl rfl rfl rfl (L.nil k0)) ?_
              refine S.st 7 rfl rfl ((Ca.move).quiet) (fun Q0 k0 => L.move hF rfl rfl rfl (L.nil k0)) ?_
              obtain ⟨b80, hb80, H⟩ := bindS H
              refine S.st 8 rfl rfl ((Ca.indexAddr).quiet) (fun Q0 k0 => L.idxR (xs := v71) (e := eS) Try.underlying51 info9 hF rfl rfl rfl rfl rfl hb80 rfl rfl (L.nil k0)) ?_
              refine S.st 9 rfl rfl (Qu.load) (fun Q0 k0 => L.loadPe shape9 hF rfl rfl rfl rfl rfl (L.nil k0)) ?_
              refine S.st 10 rfl rfl ((Ca.bin rfl rfl (calm_str _ _ _ _ _ _)).quiet) (fun Q0 k0 => L.binS hF rfl rfl rfl rfl rfl (L.nil k0)) ?_
              refine S.st 11 rfl rfl ((Ca.assign).quiet) (fun Q0 k0 => L.assign hF rfl rfl rfl (L.nil k0)) ?_
              refine S.nil ?_
              refine WpC.ret ?_
              cases H
              exact Leaves.ret rfl rfl rfl ⟨rfl, rfl⟩
            · replace H := condF hc H
              refine WpC.skip ?_
              refine WpC.regionL ?_
              refine L.move hF rfl rfl rfl ?_
              refine L.bin hF rfl rfl rfl rfl rfl rfl ?_
              refine L.assign hF rfl rfl rfl ?_
              refine L.nil ?_
              exact ⟨k3, _, by omega, ⟨(IntKind.i64.wrap (v68 + (1 : Int))), v69, v70, v71, v72, by omega, H, rfl⟩, Le.mk [(0, 0), (1, 1)] hm rfl ⟨⟨_, rfl, rfl⟩, ⟨_, rfl, rfl⟩, ⟨_, rfl, rfl⟩, trivial⟩ trivial ⟨⟨_, _, rfl, rfl, rfl⟩, ⟨_, _, rfl, rfl, rfl⟩, trivial⟩⟩
          · replace H := condF hc H
            refine WpC.exit ?_
            exact ⟨_, ⟨k3, v69, v70, v71, v72, by omega, H, rfl⟩, Le.mk [(0, 0), (1, 1)] hm rfl ⟨⟨_, rfl, rfl⟩, ⟨_, rfl, rfl⟩, trivial⟩ trivial ⟨⟨_, _, rfl, rfl, rfl⟩, ⟨_, _, rfl, rfl, rfl⟩, trivial⟩⟩
        · replace H := condF hc H
          refine L.off hF rfl rfl ?_
          refine L.off hF rfl rfl ?_
          refine L.off hF rfl rfl ?_
          refine L.off hF rfl rfl ?_
          refine L.off hF rfl rfl ?_
          refine L.pick hF rfl rfl rfl rfl ?_
          refine L.nil ?_
          refine WpC.cond rfl (fun hc => by cases hc) (fun _ => ?_)
          refine WpC.exit ?_
          exact ⟨_, ⟨k3, v69, v70, v71, v72, by omega, H, rfl⟩, Le.mk [(0, 0), (1, 1)] hm rfl ⟨⟨_, rfl, rfl⟩, ⟨_, rfl, rfl⟩, trivial⟩ trivial ⟨⟨_, _, rfl, rfl, rfl⟩, ⟨_, _, rfl, rfl, rfl⟩, trivial⟩⟩
/-! ### Fcmp_isNaN_string -/
def Fcmp_isNaN_string (k : Nat) (a0 : List UInt8) : Option Bool := some (a0 != a0)
theorem ent170 : Enters Try.prog 170 := ⟨Try.f170, Try.func170, rfl, by decide⟩
set_option maxHeartbeats 8000000 in
set_option maxRecDepth 100000 in
theorem Fcmp_isNaN_string_gives (k : Nat) (a0 : List UInt8) (r : Bool) (H : Fcmp_isNaN_string k a0 = some r) : Gives Try.prog 170 [V.one (cS a0)] [] [V.one (cL r)] [] := by
  refine Gives.intro Try.func170 rfl rfl rfl rfl ?_
  intro F hF hm
  unfold Fcmp_isNaN_string at H
  obtain ⟨K, hK⟩ : ∃ K, k ≤ K := ⟨k, Nat.le_refl k⟩
  refine WpC.seq ?_
  refine WpC.regionL ?_
  refine L.assign hF rfl rfl rfl ?_
  refine L.nil ?_
  refine WpC.seq ?_
  refine WpC.regionL ?_
  refine L.move hF rfl rfl rfl ?_
  refine L.move hF rfl rfl rfl ?_
  refine L.binS hF rfl rfl rfl rfl rfl ?_
  refine L.assign hF rfl rfl rfl ?_
  refine L.nil ?_
  refine WpC.ret ?_
  cases H
  exact Leaves.ret rfl rfl rfl ⟨rfl, rfl⟩
/-! ### Fcmp_Compare_string -/
def Fcmp_Compare_string (k : Nat) (a0 : List UInt8) (a1 : List UInt8) : Option Int := (Fcmp_isNaN_string k a0).bind fun r1 => (Fcmp_isNaN_string k a1).bind fun r2 => cond r1 (cond r2 (some (0 : Int)) (some (-1 : Int))) (cond r2 (some (1 : Int)) (cond (Op.bytesLess a0 a1) (some (-1 : Int)) (cond (!(Op.bytesLess a0 a1 || a0 == a1)) (some (1 : Int)) (some (0 : Int)))))
theorem ent153 : Enters Try.prog 153 := ⟨Try.f153, Try.func153, rfl, by decide⟩
set_option maxHeartbeats 8000000 in
set_option maxRecDepth 100000 in
theorem Fcmp_Compare_string_gives (k : Nat) (a0 : List UInt8) (a1 : List UInt8) (r : Int) (H : Fcmp_Compare_string k a0 a1 = some r) : Gives Try.prog 153 [V.one (cS a0), V.one (cS a1)] [] [V.one (cI r)] [] := by
  refine Gives.intro Try.func153 rfl rfl rfl rfl ?_
  intro F hF hm
  unfold Fcmp_Compare_string at H
  obtain ⟨K, hK⟩ : ∃ K, k ≤ K := ⟨k, Nat.le_refl k⟩
  refine WpC.seq ?_
  refine WpC.regionL ?_
  refine L.assign hF rfl rfl rfl ?_
  refine L.nil ?_
  refine WpC.seq ?_
  refine WpC.regionL ?_
  refine L.move hF rfl rfl rfl ?_
  obtain ⟨r1, hr1, H⟩ := bindS H
  refine L.call [false] [] [] 2 hF rfl rfl rfl ent170 rfl rfl rfl rfl rfl (Fcmp_isNaN_string_gives k  a0 r1 hr1) rfl ?_
  refine L.assign hF rfl rfl rfl ?_
  refine L.nil ?_
  refine WpC.seq ?_
  refine WpC.regionL ?_
  refine L.move hF rfl rfl rfl ?_
  obtain ⟨r2, hr2, H⟩ := bindS H
  refine L.call [false] [] [] 3 hF rfl rfl rfl ent170 rfl rfl rfl rfl rfl (Fcmp_isNaN_string_gives k  a1 r2 hr2) rfl ?_
  refine L.assign hF rfl rfl rfl ?_
  refine L.nil ?_
  refine WpC.seq ?_
  refine WpC.seq ?_
  refine WpC.regionL ?_
  refine L.move hF rfl rfl rfl ?_
  refine L.nil ?_
  refine WpC.cond rfl (fun hc => ?_) (fun hc => ?_)
  · replace H := condT hc H
    refine WpC.seq ?_
    refine WpC.seq ?_
    refine WpC.regionL ?_
    refine L.move hF rfl rfl rfl ?_
    refine L.nil ?_
    refine WpC.cond rfl (fun hc => ?_) (fun hc => ?_)
    · replace H := condT hc H
      refine WpC.seq ?_
      refine WpC.regionL ?_
      refine L.assign hF rfl rfl rfl ?_
      refine L.nil ?_
      refine WpC.ret ?_
      cases H
      exact Leaves.ret rfl rfl rfl ⟨rfl, rfl⟩
    · replace H := condF hc H
      refine WpC.skip ?_
      refine WpC.seq ?_
      refine WpC.regionL ?_
      refine L.assign hF rfl rfl rfl ?_
      refine L.nil ?_
      refine WpC.ret ?_
      cases H
      exact Leaves.ret rfl rfl rfl ⟨rfl, rfl⟩
  · replace H := condF hc H
    refine WpC.skip ?_
    refine WpC.seq ?_
    refine WpC.seq ?_
    refine WpC.regionL ?_
    refine L.move hF rfl rfl rfl ?_
    refine L.nil ?_
    refine WpC.cond rfl (fun hc => ?_) (fun hc => ?_)
    · replace H := condT hc H
      refine WpC.seq ?_
      refine WpC.regionL ?_
      refine L.assign hF rfl rfl rfl ?_
      refine L.nil ?_
      refine WpC.ret ?_
      cases H
      exact Leaves.ret rfl rfl rfl ⟨rfl, rfl⟩
    · replace H := condF hc H
      refine WpC.skip ?_
      refine WpC.seq ?_
      refine WpC.seq ?_
      refine WpC.regionL ?_
      refine L.move hF rfl rfl rfl ?_
      refine L.move hF rfl rfl rfl ?_
      refine L.binS hF rfl rfl rfl rfl rfl ?_
      refine L.nil ?_
      refine WpC.cond rfl (fun hc => ?_) (fun hc => ?_)
      · replace H := condT hc H
        refine WpC.seq ?_
        refine WpC.regionL ?_
        refine L.assign hF rfl rfl rfl ?_
        refine L.nil ?_
        refine WpC.ret ?_
        cases H
        exact Leaves.ret rfl rfl rfl ⟨rfl, rfl⟩
      · replace H := condF hc H
        refine WpC.skip ?_
        refine WpC.seq ?_
        refine WpC.seq ?_
        refine WpC.regionL ?_
        refine L.move hF rfl rfl rfl ?_
        refine L.move hF rfl rfl rfl ?_
        refine L.binS hF rfl rfl rfl rfl rfl ?_
        refine L.nil ?_
        refine WpC.cond rfl (fun hc => ?_) (fun hc => ?_)
        · replace H := condT hc H
          refine WpC.seq ?_
          refine WpC.regionL ?_
          refine L.assign hF rfl rfl rfl ?_
          refine L.nil ?_
          refine WpC.ret ?_
          cases H
          exact Leaves.ret rfl rfl rfl ⟨rfl, rfl⟩
        · replace H := condF hc H
          refine WpC.skip ?_
          refine WpC.seq ?_
          refine WpC.regionL ?_
          refine L.assign hF rfl rfl rfl ?_
          refine L.nil ?_
          refine WpC.ret ?_
          cases H
          exact Leaves.ret rfl rfl rfl ⟨rfl, rfl⟩
/-! ### Fslices_Compare_string -/
def Fslices_Compare_string.l2 : Nat → (List (List UInt8)) → (List (List UInt8)) → Int → Int → Option Int
  | 0, _, _, _, _ => none
  | k2 + 1, v49, v50, v51, v52 => cond (decide (v52 < v51)) ((at? v49 v52).bind fun b56 => cond (decide (v52 ≥ (v50.length : Int))) (some (1 : Int)) ((at? v50 v52).bind fun b57 => (Fcmp_Compare_string k2 b56 b57).bind fun r58 => cond (r58 != (0 : Int)) (some r58) ((Fslices_Compare_string.l2 k2) v49 v50 v51 (IntKind.i64.wrap (v52 + (1 : Int)))))) (cond (decide ((v49.length : Int) < (v50.length : Int))) (some (-1 : Int)) (some (0 : Int)))
def Fslices_Compare_string (k : Nat) (a0 : List (List UInt8)) (a1 : List (List UInt8)) : Option Int := Fslices_Compare_string.l2 k a0 a1 (a0.length : Int) (0 : Int)
theorem ent117 : Enters Try.prog 117 := ⟨Try.f117, Try.func117, rfl, by decide⟩
set_option maxHeartbeats 8000000 in
set_option maxRecDepth 100000 in
theorem Fslices_Compare_string_gives (k : Nat) (g0 : Bool) (g1 : Bool) (a0 : List (List UInt8)) (a1 : List (List UInt8)) (r : Int) (H : Fslices_Compare_string k a0 a1 = some r) : Gives Try.prog 117 [V.one (Cell.sl g0 (List.map eS a0)), V.one (Cell.sl g1 (List.map eS a1))] [] [V.one (cI r)] [] := by
  refine Gives.intro Try.func117 rfl rfl rfl rfl ?_
  intro F hF hm
  unfold Fslices_Compare_string at H
  obtain ⟨K, hK⟩ : ∃ K, k ≤ K := ⟨k, Nat.le_refl k⟩
  refine WpC.seq ?_
  refine WpC.regionL ?_
  refine L.assign hF rfl rfl rfl ?_
  refine L.nil ?_
  refine WpC.seq ?_
  refine WpC.seq ?_
  refine WpC.regionL ?_
  refine L.move hF rfl rfl rfl ?_
  refine L.lenR (xs := a0) (e := eS) Try.underlying51 hF rfl rfl rfl rfl ?_
  refine L.move hF rfl rfl rfl ?_
  refine L.nil ?_
  refine WpC.block ?_
  refine WpC.loopL (P := Try.prog) (fun n σ => ∃ v49 : List (List UInt8), ∃ v50 : List (List UInt8), ∃ v51 : Int, ∃ v52 : Int, n ≤ K ∧ Fslices_Compare_string.l2 n v49 v50 v51 v52 = some r ∧ σ = mkSt [(0, one (Cell.sl g0 (List.map eS v49))), (1, one (Cell.sl g1 (List.map eS v50))), (9, one (Cell.sl g0 (List.map eS v49))), (10, one (cI v51)), (11, one (cI v52))] [] [] 0) k ⟨_, ⟨a0, a1, (a0.length : Int), (0 : Int), by omega, H, rfl⟩, Le.mk [] hm rfl ⟨⟨_, rfl, rfl⟩, ⟨_, rfl, rfl⟩, ⟨_, rfl, rfl⟩, ⟨_, rfl, rfl⟩, ⟨_, rfl, rfl⟩, trivial⟩ trivial trivial⟩ ?_
  clear H
  rintro k2 _ ⟨v49, v50, v51, v52, hk2, H, rfl⟩
  cases k2 with
  | zero => cases H
  | succ k2 =>
    rw [Fslices_Compare_string.l2] at H
    refine WpC.seq ?_
    refine WpC.regionL ?_
    refine L.bin hF rfl rfl rfl rfl rfl rfl ?_
    refine L.nil ?_
    refine WpC.seq ?_
    refine WpC.cond rfl (fun hc => ?_) (fun hc => ?_)
    · replace H := condT hc H
      refine WpC.skip ?_
      refine WpC.seq ?_
      refine WpC.block ?_
      refine WpC.seq ?_
      refine WpC.regionL ?_
      refine L.move hF rfl rfl rfl ?_
      obtain ⟨b56, hb56, H⟩ := bindS H
      refine L.idxR (xs := v49) (e := eS) Try.underlying51 info9 hF rfl rfl rfl rfl rfl hb56 rfl rfl ?_
      refine L.loadPe shape9 hF rfl rfl rfl rfl rfl ?_
      refine L.assign hF rfl rfl rfl ?_
      refine L.assign hF rfl rfl rfl ?_
      refine L.nil ?_
      refine WpC.seq ?_
      refine WpC.seq ?_
      refine WpC.regionL ?_
      refine L.move hF rfl rfl rfl ?_
      refine L.move hF rfl rfl rfl ?_
      refine L.lenR (xs := v50) (e := eS) Try.underlying51 hF rfl rfl rfl rfl ?_
      refine L.bin hF rfl rfl rfl rfl rfl rfl ?_
      refine L.nil ?_
      refine WpC.cond rfl (fun hc => ?_) (fun hc => ?_)
      · replace H := condT hc H
        refine WpC.seq ?_
        refine WpC.regionL ?_
        refine L.assign hF rfl rfl rfl ?_
        refine L.nil ?_
        refine WpC.ret ?_
        cases H
        exact Leaves.ret rfl rfl rfl ⟨rfl, rfl⟩
      · replace H := condF hc H
        refine WpC.skip ?_
        refine WpC.seq ?_
        refine WpC.regionL ?_
        refine L.move hF rfl rfl rfl ?_
        refine L.move hF rfl rfl rfl ?_
        obtain ⟨b57, hb57, H⟩ := bindS H
        refine L.idxR (xs := v50) (e := eS) Try.underlying51 info9 hF rfl rfl rfl rfl rfl hb57 rfl rfl ?_
        refine L.loadPe shape9 hF rfl rfl rfl rfl rfl ?_
        refine L.assign hF rfl rfl rfl ?_
        refine L.nil ?_
        refine WpC.seq ?_
        refine WpC.regionL ?_
        refine L.move hF rfl rfl rfl ?_
        refine L.move hF rfl rfl rfl ?_
        obtain ⟨r58, hr58, H⟩ := bindS H
        refine L.call [false, false] [] [] 0 hF rfl rfl rfl ent153 rfl rfl rfl rfl rfl (Fcmp_Compare_string_gives k2  b56 b57 r58 hr58) rfl ?_
        refine L.assign hF rfl rfl rfl ?_
        refine L.nil ?_
        refine WpC.seq ?_
        refine WpC.regionL ?_
        refine L.move hF rfl rfl rfl ?_
        refine L.bin hF rfl rfl rfl rfl rfl rfl ?_
        refine L.nil ?_
        refine WpC.cond rfl (fun hc => ?_) (fun hc => ?_)
        · replace H := condT hc H
          refine WpC.seq ?_
          refine WpC.regionL ?_
          refine L.move hF rfl rfl rfl ?_
          refine L.assign hF rfl rfl rfl ?_
          refine L.nil ?_
          refine WpC.ret ?_
          cases H
          exact Leaves.ret rfl rfl rfl ⟨rfl, rfl⟩
        · replace H := condF hc H
          refine WpC.skip ?_
          refine WpC.regionL ?_
          refine L.bin hF rfl rfl rfl rfl rfl rfl ?_
          refine L.move hF rfl rfl rfl ?_
          refine L.nil ?_
          exact ⟨k2, _, by omega, ⟨v49, v50, v51, (IntKind.i64.wrap (v52 + (1 : Int))), by omega, H, rfl⟩, Le.mk [] hm rfl ⟨⟨_, rfl, rfl⟩, ⟨_, rfl, rfl⟩, ⟨_, rfl, rfl⟩, ⟨_, rfl, rfl⟩, ⟨_, rfl, rfl⟩, trivial⟩ trivial trivial⟩
    · replace H := condF hc H
      refine WpC.exit ?_
      refine WpC.seq ?_
      refine WpC.seq ?_
      refine WpC.regionL ?_
      refine L.move hF rfl rfl rfl ?_
      refine L.lenR (xs := v49) (e := eS) Try.underlying51 hF rfl rfl rfl rfl ?_
      refine L.move hF rfl rfl rfl ?_
      refine L.lenR (xs := v50) (e := eS) Try.underlying51 hF rfl rfl rfl rfl ?_
      refine L.bin hF rfl rfl rfl rfl rfl rfl ?_
      refine L.nil ?_
      refine WpC.cond rfl (fun hc => ?_) (fun hc => ?_)
      · replace H := condT hc H
        refine WpC.seq ?_
        refine WpC.regionL ?_
        refine L.assign hF rfl rfl rfl ?_
        refine L.nil ?_
        refine WpC.ret ?_
        cases H
        exact Leaves.ret rfl rfl rfl ⟨rfl, rfl⟩
      · replace H := condF hc H
        refine WpC.skip ?_
        refine WpC.seq ?_
        refine WpC.regionL ?_
        refine L.assign hF rfl rfl rfl ?_
        refine L.nil ?_
        refine WpC.ret ?_
        cases H
        exact Leaves.ret rfl rfl rfl ⟨rfl, rfl⟩
/-! ### Fimpl_NameLess -/
def Fimpl_NameLess (k : Nat) (a0 : Timpl_Name) (a1 : Timpl_Name) : Option Bool := cond (a0.Realm != a1.Realm) (some (Op.bytesLess a0.Realm a1.Realm)) ((Fslices_Compare_string k a0.Parts a1.Parts).bind fun r1 => some (decide (r1 < (0 : Int))))
theorem ent58 : Enters Try.prog 58 := ⟨Try.f58, Try.func58, rfl, by decide⟩
set_option maxHeartbeats 8000000 in
set_option maxRecDepth 100000 in
theorem Fimpl_NameLess_gives (k : Nat) (g0 : Bool) (g1 : Bool) (a0 : Timpl_Name) (a1 : Timpl_Name) (r : Bool) (H : Fimpl_NameLess k a0 a1 = some r) : Gives Try.prog 58 [V.agg [Cell.sl g0 (List.map eS a0.Parts), cS a0.Realm], V.agg [Cell.sl g1 (List.map eS a1.Parts), cS a1.Realm]] [] [V.one (cL r)] [] := by
  refine Gives.intro Try.func58 rfl rfl rfl rfl ?_
  intro F hF hm
  unfold Fimpl_NameLess at H
  obtain ⟨K, hK⟩ : ∃ K, k ≤ K := ⟨k, Nat.le_refl k⟩
  refine WpC.seq ?_
  refine WpC.regionL ?_
  refine L.box 4 hF rfl rfl rfl rfl ?_
  refine L.box 5 hF rfl rfl rfl rfl ?_
  refine L.assign hF rfl rfl rfl ?_
  refine L.nil ?_
  refine WpC.seq ?_
  refine WpC.seq ?_
  refine WpC.regionL ?_
  refine L.fieldAddr Try.underlying56 rfl info9 rfl hF rfl rfl rfl rfl rfl ?_
  refine L.loadPtr shape9 hF rfl rfl rfl rfl rfl rfl ?_
  refine L.fieldAddr Try.underlying56 rfl info9 rfl hF rfl rfl rfl rfl rfl ?_
  refine L.loadPtr shape9 hF rfl rfl rfl rfl rfl rfl ?_
  refine L.binS hF rfl rfl rfl rfl rfl ?_
  refine L.nil ?_
  refine WpC.cond rfl (fun hc => ?_) (fun hc => ?_)
  · replace H := condT hc H
    refine WpC.seq ?_
    refine WpC.regionL ?_
    refine L.fieldAddr Try.underlying56 rfl info9 rfl hF rfl rfl rfl rfl rfl ?_
    refine L.loadPtr shape9 hF rfl rfl rfl rfl rfl rfl ?_
    refine L.fieldAddr Try.underlying56 rfl info9 rfl hF rfl rfl rfl rfl rfl ?_
    refine L.loadPtr shape9 hF rfl rfl rfl rfl rfl rfl ?_
    refine L.binS hF rfl rfl rfl rfl rfl ?_
    refine L.assign hF rfl rfl rfl ?_
    refine L.nil ?_
    refine WpC.ret ?_
    cases H
    exact Leaves.ret rfl rfl rfl ⟨rfl, rfl⟩
  · replace H := condF hc H
    refine WpC.skip ?_
    refine WpC.seq ?_
    refine WpC.regionL ?_
    refine L.fieldAddr Try.underlying56 rfl info51 rfl hF rfl rfl rfl rfl rfl ?_
    refine L.loadPtr shape51 hF rfl rfl rfl rfl rfl rfl ?_
    refine L.fieldAddr Try.underlying56 rfl info51 rfl hF rfl rfl rfl rfl rfl ?_
    refine L.loadPtr shape51 hF rfl rfl rfl rfl rfl rfl ?_
    obtain ⟨r1, hr1, H⟩ := bindS H
    refine L.call [false, false] [] [] 6 hF rfl rfl rfl ent117 rfl rfl rfl rfl rfl (Fslices_Compare_string_gives k g0 g1 a0.Parts a1.Parts r1 hr1) rfl ?_
    refine L.bin hF rfl rfl rfl rfl rfl rfl ?_
    refine L.assign hF rfl rfl rfl ?_
    refine L.nil ?_
    refine WpC.ret ?_
    cases H
    exact Leaves.ret rfl rfl rfl ⟨rfl, rfl⟩
/-! ### Flaws_eqStringS -/
def Flaws_eqStringS.l2 : Nat → (List (List UInt8)) → (List (List UInt8)) → Int → Option Bool
  | 0, _, _, _ => none
  | k2 + 1, v34, v35, v36 => cond (decide (v36 < (v34.length : Int))) ((at? v34 v36).bind fun b39 => (at? v35 v36).bind fun b40 => cond (b39 != b40) (some false) ((Flaws_eqStringS.l2 k2) v34 v35 (IntKind.i64.wrap (v36 + (1 : Int))))) (some true)
def Flaws_eqStringS (k : Nat) (a0 : List (List UInt8)) (a1 : List (List UInt8)) : Option Bool := cond ((a0.length : Int) != (a1.length : Int)) (some false) (Flaws_eqStringS.l2 k a0 a1 (0 : Int))
theorem ent112 : Enters Try.prog 112 := ⟨Try.f112, Try.func112, rfl, by decide⟩
set_option maxHeartbeats 8000000 in
set_option maxRecDepth 100000 in
theorem Flaws_eqStringS_gives (k : Nat) (g0 : Bool) (g1 : Bool) (a0 : List (List UInt8)) (a1 : List (List UInt8)) (r : Bool) (H : Flaws_eqStringS k a0 a1 = some r) : Gives Try.prog 112 [V.one (Cell.sl g0 (List.map eS a0)), V.one (Cell.sl g1 (List.map eS a1))] [] [V.one (cL r)] [] := by
  refine Gives.intro Try.func112 rfl rfl rfl rfl ?_
  intro F hF hm
  unfold Flaws_eqStringS at H
  obtain ⟨K, hK⟩ : ∃ K, k ≤ K := ⟨k, Nat.le_refl k⟩
  refine WpC.seq ?_
  refine WpC.regionL ?_
  refine L.assign hF rfl rfl rfl ?_
  refine L.nil ?_
  refine WpC.seq ?_
  refine WpC.seq ?_
  refine WpC.regionL ?_
  refine L.move hF rfl rfl rfl ?_
  refine L.lenR (xs := a0) (e := eS) Try.underlying51 hF rfl rfl rfl rfl ?_
  refine L.move hF rfl rfl rfl ?_
  refine L.lenR (xs := a1) (e := eS) Try.underlying51 hF rfl rfl rfl rfl ?_
  refine L.bin hF rfl rfl rfl rfl rfl rfl ?_
  refine L.nil ?_
  refine WpC.cond rfl (fun hc => ?_) (fun hc => ?_)
  · replace H := condT hc H
    refine WpC.seq ?_
    refine WpC.regionL ?_
    refine L.assign hF rfl rfl rfl ?_
    refine L.nil ?_
    refine WpC.ret ?_
    cases H
    exact Leaves.ret rfl rfl rfl ⟨rfl, rfl⟩
  · replace H := condF hc H
    refine WpC.skip ?_
    refine WpC.seq ?_
    refine WpC.seq ?_
    refine WpC.regionL ?_
    refine L.assign hF rfl rfl rfl ?_
    refine L.nil ?_
    refine WpC.block ?_
    refine WpC.loopL (P := Try.prog) (fun n σ => ∃ v34 : List (List UInt8), ∃ v35 : List (List UInt8), ∃ v36 : Int, n ≤ K ∧ Flaws_eqStringS.l2 n v34 v35 v36 = some r ∧ σ = mkSt [(0, one (Cell.sl g0 (List.map eS v34))), (1, one (Cell.sl g1 (List.map eS v35))), (5, one (cI v36))] [] [] 0) k ⟨_, ⟨a0, a1, (0 : Int), by omega, H, rfl⟩, Le.mk [] hm rfl ⟨⟨_, rfl, rfl⟩, ⟨_, rfl, rfl⟩, ⟨_, rfl, rfl⟩, trivial⟩ trivial trivial⟩ ?_
    clear H
    rintro k2 _ ⟨v34, v35, v36, hk2, H, rfl⟩
    cases k2 with
    | zero => cases H
    | succ k2 =>
      rw [Flaws_eqStringS.l2] at H
      refine WpC.seq ?_
      refine WpC.seq ?_
      refine WpC.regionL ?_
      refine L.move hF rfl rfl rfl ?_
      refine L.move hF rfl rfl rfl ?_
      refine L.lenR (xs := v34) (e := eS) Try.underlying51 hF rfl rfl rfl rfl ?_
      refine L.bin hF rfl rfl rfl rfl rfl rfl ?_
      refine L.nil ?_
      refine WpC.cond rfl (fun hc => ?_) (fun hc => ?_)
      · replace H := condT hc H
        refine WpC.skip ?_
        refine WpC.seq ?_
        refine WpC.block ?_
        refine WpC.seq ?_
        refine S.begin mixed (by kernel_rfl) ?_
        refine S.st 0 rfl rfl ((Ca.move).quiet) (fun Q0 k0 => L.move hF rfl rfl rfl (L.nil k0)) ?_
        refine S.st 1 rfl rfl ((Ca.move).quiet) (fun Q0 k0 => L.move hF rfl rfl rfl (L.nil k0)) ?_
        obtain ⟨b39, hb39, H⟩ := bindS H
        refine S.st 2 rfl rfl ((Ca.indexAddr).quiet) (fun Q0 k0 => L.idxR (xs := v34) (e := eS) Try.underlying51 info9 hF rfl rfl rfl rfl rfl hb39 rfl rfl (L.nil k0)) ?_
        refine S.st 3 rfl rfl (Qu.load) (fun Q0 k0 => L.loadPe shape9 hF rfl rfl rfl rfl rfl (L.nil k0)) ?_
        refine S.st 4 rfl rfl ((Ca.move).quiet) (fun Q0 k0 => L.move hF rfl rfl rfl (L.nil k0)) ?_
        refine S.st 5 rfl rfl ((Ca.move).quiet) (fun Q0 k0 => L.move hF rfl rfl rfl (L.nil k0)) ?_
        obtain ⟨b40, hb40, H⟩ := bindS H
        refine S.st 6 rfl rfl ((Ca.indexAddr).quiet) (fun Q0 k0 => L.idxR (xs := v35) (e := eS) Try.underlying51 info9 hF rfl rfl rfl rfl rfl hb40 rfl rfl (L.nil k0)) ?_
        refine S.st 7 rfl rfl (Qu.load) (fun Q0 k0 => L.loadPe shape9 hF rfl rfl rfl rfl rfl (L.nil k0)) ?_
        refine S.st 8 rfl rfl ((Ca.bin rfl rfl (calm_str _ _ _ _ _ _)).quiet) (fun Q0 k0 => L.binS hF rfl rfl rfl rfl rfl (L.nil k0)) ?_
        refine S.nil ?_
        refine WpC.cond rfl (fun hc => ?_) (fun hc => ?_)
        · replace H := condT hc H
          refine WpC.seq ?_
          refine WpC.regionL ?_
          refine L.assign hF rfl rfl rfl ?_
          refine L.nil ?_
          refine WpC.ret ?_
          cases H
          exact Leaves.ret rfl rfl rfl ⟨rfl, rfl⟩
        · replace H := condF hc H
          refine WpC.skip ?_
          refine WpC.regionL ?_
          refine L.move hF rfl rfl rfl ?_
          refine L.bin hF rfl rfl rfl rfl rfl rfl ?_
          refine L.assign hF rfl rfl rfl ?_
          refine L.nil ?_
          exact ⟨k2, _, by omega, ⟨v34, v35, (IntKind.i64.wrap (v36 + (1 : Int))), by omega, H, rfl⟩, Le.mk [] hm rfl ⟨⟨_, rfl, rfl⟩, ⟨_, rfl, rfl⟩, ⟨_, rfl, rfl⟩, trivial⟩ trivial trivial⟩
      · replace H := condF hc H
        refine WpC.exit ?_
        refine WpC.seq ?_
        refine WpC.regionL ?_
        refine L.assign hF rfl rfl rfl ?_
        refine L.nil ?_
        refine WpC.ret ?_
        cases H
        exact Leaves.ret rfl rfl rfl ⟨rfl, rfl⟩
/-! ### Flaws_eqName -/
def Flaws_eqName (k : Nat) (a0 : Timpl_Name) (a1 : Timpl_Name) : Option Bool := (Flaws_eqStringS k a0.Parts a1.Parts).bind fun r2 => cond (!r2) (some false) (cond (a0.Realm != a1.Realm) (some false) (some true))
theorem ent51 : Enters Try.prog 51 := ⟨Try.f51, Try.func51, rfl, by decide⟩
set_option maxHeartbeats 8000000 in
set_option maxRecDepth 100000 in
theorem Flaws_eqName_gives (k : Nat) (g0 : Bool) (g1 : Bool) (a0 : Timpl_Name) (a1 : Timpl_Name) (r : Bool) (H : Flaws_eqName k a0 a1 = some r) : Gives Try.prog 51 [V.agg [Cell.sl g0 (List.map eS a0.Parts), cS a0.Realm], V.agg [Cell.sl g1 (List.map eS a1.Parts), cS a1.Realm]] [] [V.one (cL r)] [] := by
  refine Gives.intro Try.func51 rfl rfl rfl rfl ?_
  intro F hF hm
  unfold Flaws_eqName at H
  obtain ⟨K, hK⟩ : ∃ K, k ≤ K := ⟨k, Nat.le_refl k⟩
  refine WpC.seq ?_
  refine WpC.regionL ?_
  refine L.box 4 hF rfl rfl rfl rfl ?_
  refine L.box 5 hF rfl rfl rfl rfl ?_
  refine L.assign hF rfl rfl rfl ?_
  refine L.nil ?_
  refine WpC.seq ?_
  refine WpC.seq ?_
  refine WpC.regionL ?_
  refine L.fieldAddr Try.underlying56 rfl info51 rfl hF rfl rfl rfl rfl rfl ?_
  refine L.loadPtr shape51 hF rfl rfl rfl rfl rfl rfl ?_
  refine L.fieldAddr Try.underlying56 rfl info51 rfl hF rfl rfl rfl rfl rfl ?_
  refine L.loadPtr shape51 hF rfl rfl rfl rfl rfl rfl ?_
  obtain ⟨r2, hr2, H⟩ := bindS H
  refine L.call [false, false] [] [] 6 hF rfl rfl rfl ent112 rfl rfl rfl rfl rfl (Flaws_eqStringS_gives k g0 g1 a0.Parts a1.Parts r2 hr2) rfl ?_
  refine L.not hF rfl rfl rfl ?_
  refine L.nil ?_
  refine WpC.cond rfl (fun hc => ?_) (fun hc => ?_)
  · replace H := condT hc H
    refine WpC.seq ?_
    refine WpC.regionL ?_
    refine L.assign hF rfl rfl rfl ?_
    refine L.nil ?_
    refine WpC.ret ?_
    cases H
    exact Leaves.ret rfl rfl rfl ⟨rfl, rfl⟩
  · replace H := condF hc H
    refine WpC.skip ?_
    refine WpC.seq ?_
    refine WpC.seq ?_
    refine WpC.regionL ?_
    refine L.fieldAddr Try.underlying56 rfl info9 rfl hF rfl rfl rfl rfl rfl ?_
    refine L.loadPtr shape9 hF rfl rfl rfl rfl rfl rfl ?_
    refine L.fieldAddr Try.underlying56 rfl info9 rfl hF rfl rfl rfl rfl rfl ?_
    refine L.loadPtr shape9 hF rfl rfl rfl rfl rfl rfl ?_
    refine L.binS hF rfl rfl rfl rfl rfl ?_
    refine L.nil ?_
    refine WpC.cond rfl (fun hc => ?_) (fun hc => ?_)
    · replace H := condT hc H
      refine WpC.seq ?_
      refine WpC.regionL ?_
      refine L.assign hF rfl rfl rfl ?_
      refine L.nil ?_
      refine WpC.ret ?_
      cases H
      exact Leaves.ret rfl rfl rfl ⟨rfl, rfl⟩
    · replace H := condF hc H
      refine WpC.skip ?_
      refine WpC.seq ?_
      refine WpC.regionL ?_
      refine L.assign hF rfl rfl rfl ?_
      refine L.nil ?_
      refine WpC.ret ?_
      cases H
      exact Leaves.ret rfl rfl rfl ⟨rfl, rfl⟩
/-! ### Flaws_FnExactNameLess -/
def Flaws_FnExactNameLess (k : Nat) (a0 : Tlaws_Name) (a1 : Tlaws_Name) : Option Bool := (Flaws_szName k a0 (1048576 : Int)).bind fun r1 => cond (decide (r1 < (0 : Int))) (some true) ((Flaws_szName k a1 r1).bind fun r2 => cond (decide (r2 < (0 : Int))) (some true) ((Flaws_toName k a0).bind fun r3 => (Flaws_toName k a1).bind fun r4 => (Fspec_NameLess k r3 r4).bind fun r5 => (Flaws_toName k a0).bind fun r6 => (Flaws_toName k a1).bind fun r7 => (Fimpl_NameLess k r6 r7).bind fun r8 => cond (r8 != r5) (some false) ((Flaws_toName k a0).bind fun r11 => (Flaws_eqName k r6 r11).bind fun r12 => cond (!r12) (some false) ((Flaws_toName k a1).bind fun r15 => (Flaws_eqName k r7 r15).bind fun r16 => cond (!r16) (some false) (some true)))))
theorem ent12 : Enters Try.prog 12 := ⟨Try.f12, Try.func12, rfl, by decide⟩
set_option maxHeartbeats 8000000 in
set_option maxRecDepth 100000 in
theorem Flaws_FnExactNameLess_gives (k : Nat) (g0 : Bool) (g1 : Bool) (a0 : Tlaws_Name) (a1 : Tlaws_Name) (r : Bool) (H : Flaws_FnExactNameLess k a0 a1 = some r) : Gives Try.prog 12 [V.agg [Cell.sl g0 (List.map eS a0.Parts), cS a0.Realm], V.agg [Cell.sl g1 (List.map eS a1.Parts), cS a1.Realm]] [] [V.one (cL r)] [] := by
  refine Gives.intro Try.func12 rfl rfl rfl rfl ?_
  intro F hF hm
  unfold Flaws_FnExactNameLess at H
  obtain ⟨K, hK⟩ : ∃ K, k ≤ K := ⟨k, Nat.le_refl k⟩
  refine WpC.seq ?_
  refine WpC.regionL ?_
  refine L.box 4 hF rfl rfl rfl rfl ?_
  refine L.box 5 hF rfl rfl rfl rfl ?_
  refine L.assign hF rfl rfl rfl ?_
  refine L.nil ?_
  refine WpC.seq ?_
  refine WpC.regionL ?_
  refine L.assign hF rfl rfl rfl ?_
  refine L.nil ?_
  refine WpC.seq ?_
  refine WpC.regionL ?_
  refine L.loadPtr shape53 hF rfl rfl rfl rfl rfl rfl ?_
  refine L.move hF rfl rfl rfl ?_
  obtain ⟨r1, hr1, H⟩ := bindS H
  refine L.call [false, false] [] [] 6 hF rfl rfl rfl ent47 rfl rfl rfl rfl rfl (Flaws_szName_gives k g0 a0 (1048576 : Int) r1 hr1) rfl ?_
  refine L.assign hF rfl rfl rfl ?_
  refine L.nil ?_
  refine WpC.seq ?_
  refine WpC.seq ?_
  refine WpC.regionL ?_
  refine L.move hF rfl rfl rfl ?_
  refine L.bin hF rfl rfl rfl rfl rfl rfl ?_
  refine L.nil ?_
  refine WpC.cond rfl (fun hc => ?_) (fun hc => ?_)
  · replace H := condT hc H
    refine WpC.seq ?_
    refine WpC.regionL ?_
    refine L.assign hF rfl rfl rfl ?_
    refine L.nil ?_
    refine WpC.ret ?_
    cases H
    exact Leaves.ret rfl rfl rfl ⟨rfl, rfl⟩
  · replace H := condF hc H
    refine WpC.skip ?_
    refine WpC.seq ?_
    refine WpC.regionL ?_
    refine L.loadPtr shape53 hF rfl rfl rfl rfl rfl rfl ?_
    refine L.move hF rfl rfl rfl ?_
    obtain ⟨r2, hr2, H⟩ := bindS H
    refine L.call [false, false] [] [] 7 hF rfl rfl rfl ent47 rfl rfl rfl rfl rfl (Flaws_szName_gives k g1 a1 r1 r2 hr2) rfl ?_
    refine L.assign hF rfl rfl rfl ?_
    refine L.nil ?_
    refine WpC.seq ?_
    refine WpC.seq ?_
    refine WpC.regionL ?_
    refine L.move hF rfl rfl rfl ?_
    refine L.bin hF rfl rfl rfl rfl rfl rfl ?_
    refine L.nil ?_
    refine WpC.cond rfl (fun hc => ?_) (fun hc => ?_)
    · replace H := condT hc H
      refine WpC.seq ?_
      refine WpC.regionL ?_
      refine L.assign hF rfl rfl rfl ?_
      refine L.nil ?_
      refine WpC.ret ?_
      cases H
      exact Leaves.ret rfl rfl rfl ⟨rfl, rfl⟩
    · replace H := condF hc H
      refine WpC.skip ?_
      refine WpC.seq ?_
      obtain ⟨r3, hr3, H⟩ := bindS H
      obtain ⟨r4, hr4, H⟩ := bindS H
      obtain ⟨r5, hr5, H⟩ := bindS H
      refine A.begin mixed rfl rfl ?_
      intro W hI hO
      have n63 : W 0 #[true, true, true, true, true, true] (mkSt [(2, one (Cell.ptr 0 0)), (3, one (Cell.ptr 1 0)), (6, one (cL r5))] [] [(0, [Cell.sl g0 (List.map eS a0.Parts), cS a0.Realm]), (1, [Cell.sl g1 (List.map eS a1.Parts), cS a1.Realm])] 2) := by
        refine hI _ _ _ (A.done (by kernel_rfl) ?_)
        refine WpC.seq ?_
        refine WpC.regionL ?_
        refine L.loadPtr shape53 hF rfl rfl rfl rfl rfl rfl ?_
        obtain ⟨r6, hr6, H⟩ := bindS H
        refine L.call [false] [] [] 2 hF rfl rfl rfl ent49 rfl rfl rfl rfl rfl (Flaws_toName_gives k g0 a0 r6 hr6) rfl ?_
        refine L.alloc 4 info56 rfl hF rfl rfl rfl rfl ?_
        refine L.storePtr shape56 hF rfl rfl rfl rfl rfl rfl rfl ?_
        refine L.nil ?_
        refine WpC.seq ?_
        refine WpC.regionL ?_
        refine L.loadPtr shape53 hF rfl rfl rfl rfl rfl rfl ?_
        obtain ⟨r7, hr7, H⟩ := bindS H
        refine L.call [false] [] [] 5 hF rfl rfl rfl ent49 rfl rfl rfl rfl rfl (Flaws_toName_gives k g1 a1 r7 hr7) rfl ?_
        refine L.alloc 7 info56 rfl hF rfl rfl rfl rfl ?_
        refine L.storePtr shape56 hF rfl rfl rfl rfl rfl rfl rfl ?_
        refine L.nil ?_
        refine WpC.seq ?_
        refine WpC.regionL ?_
        refine L.loadPtr shape56 hF rfl rfl rfl rfl rfl rfl ?_
        refine L.loadPtr shape56 hF rfl rfl rfl rfl rfl rfl ?_
        obtain ⟨r8, hr8, H⟩ := bindS H
        refine L.call [false, false] [2, 5] [] 8 hF rfl rfl rfl ent58 rfl rfl rfl rfl rfl (Fimpl_NameLess_gives k false false r6 r7 r8 hr8) rfl ?_
        refine L.assign hF rfl rfl rfl ?_
        refine L.nil ?_
        refine WpC.seq ?_
        refine WpC.seq ?_
        refine WpC.regionL ?_
        refine L.move hF rfl rfl rfl ?_
        refine L.move hF rfl rfl rfl ?_
        refine L.neL Try.underlying4 hF rfl rfl rfl rfl ?_
        refine L.nil ?_
        refine WpC.cond rfl (fun hc => ?_) (fun hc => ?_)
        · replace H := condT hc H
          refine WpC.seq ?_
          refine WpC.regionL ?_
          refine L.assign hF rfl rfl rfl ?_
          refine L.nil ?_
          refine WpC.ret ?_
          cases H
          exact Leaves.ret rfl rfl rfl ⟨rfl, rfl⟩
        · replace H := condF hc H
          refine WpC.skip ?_
          refine WpC.seq ?_
          refine WpC.seq ?_
          obtain ⟨r11, hr11, H⟩ := bindS H
          obtain ⟨r12, hr12, H⟩ := bindS H
          refine A.begin mixed rfl rfl ?_
          intro W hI hO
          have n31 : W 0 #[true, true, true, true, true] (mkSt [(3, one (Cell.ptr 0 0)), (8, one (Cell.ptr 1 0)), (39, one (cL (!r12)))] [(2, ⟨1, List.map eS r7.Parts⟩)] [(0, [Cell.sl g1 (List.map eS a1.Parts), cS a1.Realm]), (1, [Cell.own 2, cS r7.Realm])] 3) := by
            refine hI _ _ _ (A.done (by kernel_rfl) ?_)
            refine WpC.cond rfl (fun hc => ?_) (fun hc => ?_)
            · replace H := condT hc H
              refine WpC.seq ?_
              refine WpC.regionL ?_
              refine L.assign hF rfl rfl rfl ?_
              refine L.nil ?_
              refine WpC.ret ?_
              cases H
              exact Leaves.ret rfl rfl rfl ⟨rfl, rfl⟩
            · replace H := condF hc H
              refine WpC.skip ?_
              refine WpC.seq ?_
              refine WpC.seq ?_
              obtain ⟨r15, hr15, H⟩ := bindS H
              obtain ⟨r16, hr16, H⟩ := bindS H
              refine A.begin mixed rfl rfl ?_
              intro W hI hO
              have n31 : W 0 #[true, true, true, true, true] (mkSt [(44, one (cL (!r16)))] [] [] 0) := by
                refine hI _ _ _ (A.done (by kernel_rfl) ?_)
                refine WpC.cond rfl (fun hc => ?_) (fun hc => ?_)
                · replace H := condT hc H
                  refine WpC.seq ?_
                  refine WpC.regionL ?_
                  refine L.assign hF rfl rfl rfl ?_
                  refine L.nil ?_
                  refine WpC.ret ?_
                  cases H
                  exact Leaves.ret rfl rfl rfl ⟨rfl, rfl⟩
                · replace H := condF hc H
                  refine WpC.skip ?_
                  refine WpC.seq ?_
                  refine WpC.regionL ?_
                  refine L.assign hF rfl rfl rfl ?_
                  refine L.nil ?_
                  refine WpC.ret ?_
                  cases H
                  exact Leaves.ret rfl rfl rfl ⟨rfl, rfl⟩
              have n15 : W 1 #[true, true, true, true, false] (mkSt [(43, one (cL r16))] [] [] 0) := by
                refine hI _ _ _ ?_
                refine A.take 4 rfl (by kernel_rfl) (by kernel_rfl) (by kernel_rfl) rfl (Ca.un rfl rfl) (fun Q0 k0 => L.not hF rfl rfl rfl (L.nil k0)) ?_
                exact A.on (hO _ _ _ n31) (Le.mk [] hm rfl ⟨⟨_, rfl, rfl⟩, trivial⟩ trivial trivial)
              have n7 : W 2 #[true, true, true, false, false] (mkSt [(40, agg [Cell.own 0, cS r7.Realm]), (42, agg [Cell.own 1, cS r15.Realm])] [(0, ⟨1, List.map eS r7.Parts⟩), (1, ⟨1, List.map eS r15.Parts⟩)] [] 2) := by
                refine hI _ _ _ ?_
                refine A.all [3] (by kernel_rfl) rfl ⟨⟨_, rfl, ?_⟩, trivial⟩
                · refine L.call [false, false] [0, 1] [] 2 hF rfl rfl rfl ent51 rfl rfl rfl rfl rfl (Flaws_eqName_gives k false false r7 r15 r16 hr16) rfl ?_
                  refine L.nil ?_
                  exact A.on (hO _ _ _ n15) (Le.mk [] hm rfl ⟨⟨_, rfl, rfl⟩, trivial⟩ trivial trivial)
              have n3 : W 3 #[true, true, false, false, false] (mkSt [(40, agg [Cell.own 0, cS r7.Realm]), (41, agg [Cell.sl g1 (List.map eS a1.Parts), cS a1.Realm])] [(0, ⟨1, List.map eS r7.Parts⟩)] [] 1) := by
                refine hI _ _ _ ?_
                refine A.all [2] (by kernel_rfl) rfl ⟨⟨_, rfl, ?_⟩, trivial⟩
                · refine L.call [false] [] [] 1 hF rfl rfl rfl ent49 rfl rfl rfl rfl rfl (Flaws_toName_gives k g1 a1 r15 hr15) rfl ?_
                  refine L.nil ?_
                  exact A.on (hO _ _ _ n7) (Le.mk [(0, 0), (1, 1)] hm rfl ⟨⟨_, rfl, rfl⟩, ⟨_, rfl, rfl⟩, trivial⟩ ⟨⟨_, rfl, rfl⟩, ⟨_, rfl, rfl⟩, trivial⟩ trivial)
              have n6 : W 3 #[false, true, true, false, false] (mkSt [(8, one (Cell.ptr 0 0)), (42, agg [Cell.own 1, cS r15.Realm])] [(1, ⟨1, List.map eS r15.Parts⟩), (2, ⟨1, List.map eS r7.Parts⟩)] [(0, [Cell.own 2, cS r7.Realm])] 3) := by
                refine hI _ _ _ ?_
                refine A.all [0] (by kernel_rfl) rfl ⟨⟨_, rfl, ?_⟩, trivial⟩
                · refine L.loadPtr shape56 hF rfl rfl rfl rfl rfl rfl ?_
                  refine L.nil ?_
                  exact A.on (hO _ _ _ n7) (Le.mk [(0, 2), (1, 1)] hm rfl ⟨⟨_, rfl, rfl⟩, ⟨_, rfl, rfl⟩, trivial⟩ ⟨⟨_, rfl, rfl⟩, ⟨_, rfl, rfl⟩, trivial⟩ trivial)
              have n1 : W 4 #[true, false, false, false, false] (mkSt [(3, one (Cell.ptr 0 0)), (40, agg [Cell.own 1, cS r7.Realm])] [(1, ⟨1, List.map eS r7.Parts⟩)] [(0, [Cell.sl g1 (List.map eS a1.Parts), cS a1.Realm])] 2) := by
                refine hI _ _ _ ?_
                refine A.all [1] (by kernel_rfl) rfl ⟨⟨_, rfl, ?_⟩, trivial⟩
                · refine L.loadPtr shape53 hF rfl rfl rfl rfl rfl rfl ?_
                  refine L.nil ?_
                  exact A.on (hO _ _ _ n3) (Le.mk [(0, 1)] hm rfl ⟨⟨_, rfl, rfl⟩, ⟨_, rfl, rfl⟩, trivial⟩ ⟨⟨_, rfl, rfl⟩, trivial⟩ trivial)
              have n2 : W 4 #[false, true, false, false, false] (mkSt [(8, one (Cell.ptr 0 0)), (41, agg [Cell.sl g1 (List.map eS a1.Parts), cS a1.Realm])] [(1, ⟨1, List.map eS r7.Parts⟩)] [(0, [Cell.own 1, cS r7.Realm])] 2) := by
                refine hI _ _ _ ?_
                refine A.all [0, 2] (by kernel_rfl) rfl ⟨⟨_, rfl, ?_⟩, ⟨_, rfl, ?_⟩, trivial⟩
                · refine L.loadPtr shape56 hF rfl rfl rfl rfl rfl rfl ?_
                  refine L.nil ?_
                  exact A.on (hO _ _ _ n3) (Le.mk [(0, 1)] hm rfl ⟨⟨_, rfl, rfl⟩, ⟨_, rfl, rfl⟩, trivial⟩ ⟨⟨_, rfl, rfl⟩, trivial⟩ trivial)
                · refine L.call [false] [] [] 2 hF rfl rfl rfl ent49 rfl rfl rfl rfl rfl (Flaws_toName_gives k g1 a1 r15 hr15) rfl ?_
                  refine L.nil ?_
                  exact A.on (hO _ _ _ n6) (Le.mk [(0, 0), (1, 2), (2, 1)] hm rfl ⟨⟨_, rfl, rfl⟩, ⟨_, rfl, rfl⟩, trivial⟩ ⟨⟨_, rfl, rfl⟩, ⟨_, rfl, rfl⟩, trivial⟩ ⟨⟨_, _, rfl, rfl, rfl⟩, trivial⟩)
              have n0 : W 5 #[false, false, false, false, false] (mkSt [(3, one (Cell.ptr 0 0)), (8, one (Cell.ptr 1 0))] [(2, ⟨1, List.map eS r7.Parts⟩)] [(0, [Cell.sl g1 (List.map eS a1.Parts), cS a1.Realm]), (1, [Cell.own 2, cS r7.Realm])] 3) := by
                refine hI _ _ _ ?_
                refine A.all [0, 1] (by kernel_rfl) rfl ⟨⟨_, rfl, ?_⟩, ⟨_, rfl, ?_⟩, trivial⟩
                · refine L.loadPtr shape56 hF rfl rfl rfl rfl rfl rfl ?_
                  refine L.nil ?_
                  exact A.on (hO _ _ _ n1) (Le.mk [(0, 0), (1, 2)] hm rfl ⟨⟨_, rfl, rfl⟩, ⟨_, rfl, rfl⟩, trivial⟩ ⟨⟨_, rfl, rfl⟩, trivial⟩ ⟨⟨_, _, rfl, rfl, rfl⟩, trivial⟩)
                · refine L.loadPtr shape53 hF rfl rfl rfl rfl rfl rfl ?_
                  refine L.nil ?_
                  exact A.on (hO _ _ _ n2) (Le.mk [(0, 1), (1, 2)] hm rfl ⟨⟨_, rfl, rfl⟩, ⟨_, rfl, rfl⟩, trivial⟩ ⟨⟨_, rfl, rfl⟩, trivial⟩ ⟨⟨_, _, rfl, rfl, rfl⟩, trivial⟩)
              exact hI _ _ _ (A.on (hO _ _ _ n0) (Le.mk [(0, 0), (1, 1), (2, 2)] hm rfl ⟨⟨_, rfl, rfl⟩, ⟨_, rfl, rfl⟩, trivial⟩ ⟨⟨_, rfl, rfl⟩, trivial⟩ ⟨⟨_, _, rfl, rfl, rfl⟩, ⟨_, _, rfl, rfl, rfl⟩, trivial⟩))
          have n15 : W 1 #[true, true, true, true, false] (mkSt [(3, one (Cell.ptr 0 0)), (8, one (Cell.ptr 1 0)), (38, one (cL r12))] [(2, ⟨1, List.map eS r7.Parts⟩)] [(0, [Cell.sl g1 (List.map eS a1.Parts), cS a1.Realm]), (1, [Cell.own 2, cS r7.Realm])] 3) := by
            refine hI _ _ _ ?_
            refine A.take 4 rfl (by kernel_rfl) (by kernel_rfl) (by kernel_rfl) rfl (Ca.un rfl rfl) (fun Q0 k0 => L.not hF rfl rfl rfl (L.nil k0)) ?_
            exact A.on (hO _ _ _ n31) (Le.mk [(0, 0), (1, 1), (2, 2)] hm rfl ⟨⟨_, rfl, rfl⟩, ⟨_, rfl, rfl⟩, ⟨_, rfl, rfl⟩, trivial⟩ ⟨⟨_, rfl, rfl⟩, trivial⟩ ⟨⟨_, _, rfl, rfl, rfl⟩, ⟨_, _, rfl, rfl, rfl⟩, trivial⟩)
          have n7 : W 2 #[true, true, true, false, false] (mkSt [(3, one (Cell.ptr 0 0)), (8, one (Cell.ptr 1 0)), (35, agg [Cell.own 2, cS r6.Realm]), (37, agg [Cell.own 3, cS r11.Realm])] [(2, ⟨1, List.map eS r6.Parts⟩), (3, ⟨1, List.map eS r11.Parts⟩), (4, ⟨1, List.map eS r7.Parts⟩)] [(0, [Cell.sl g1 (List.map eS a1.Parts), cS a1.Realm]), (1, [Cell.own 4, cS r7.Realm])] 5) := by
            refine hI _ _ _ ?_
            refine A.all [3] (by kernel_rfl) rfl ⟨⟨_, rfl, ?_⟩, trivial⟩
            · refine L.call [false, false] [2, 3] [] 5 hF rfl rfl rfl ent51 rfl rfl rfl rfl rfl (Flaws_eqName_gives k false false r6 r11 r12 hr12) rfl ?_
              refine L.nil ?_
              exact A.on (hO _ _ _ n15) (Le.mk [(0, 0), (1, 1), (2, 4)] hm rfl ⟨⟨_, rfl, rfl⟩, ⟨_, rfl, rfl⟩, ⟨_, rfl, rfl⟩, trivial⟩ ⟨⟨_, rfl, rfl⟩, trivial⟩ ⟨⟨_, _, rfl, rfl, rfl⟩, ⟨_, _, rfl, rfl, rfl⟩, trivial⟩)
          have n3 : W 3 #[true, true, false, false, false] (mkSt [(3, one (Cell.ptr 0 0)), (8, one (Cell.ptr 1 0)), (35, agg [Cell.own 2, cS r6.Realm]), (36, agg [Cell.sl g0 (List.map eS a0.Parts), cS a0.Realm])] [(2, ⟨1, List.map eS r6.Parts⟩), (3, ⟨1, List.map eS r7.Parts⟩)] [(0, [Cell.sl g1 (List.map eS a1.Parts), cS a1.Realm]), (1, [Cell.own 3, cS r7.Realm])] 4) := by
            refine hI _ _ _ ?_
            refine A.all [2] (by kernel_rfl) rfl ⟨⟨_, rfl, ?_⟩, trivial⟩
            · refine L.call [false] [] [] 4 hF rfl rfl rfl ent49 rfl rfl rfl rfl rfl (Flaws_toName_gives k g0 a0 r11 hr11) rfl ?_
              refine L.nil ?_
              exact A.on (hO _ _ _ n7) (Le.mk [(0, 0), (1, 1), (2, 2), (3, 4), (4, 3)] hm rfl ⟨⟨_, rfl, rfl⟩, ⟨_, rfl, rfl⟩, ⟨_, rfl, rfl⟩, ⟨_, rfl, rfl⟩, trivial⟩ ⟨⟨_, rfl, rfl⟩, ⟨_, rfl, rfl⟩, ⟨_, rfl, rfl⟩, trivial⟩ ⟨⟨_, _, rfl, rfl, rfl⟩, ⟨_, _, rfl, rfl, rfl⟩, trivial⟩)
          have n6 : W 3 #[false, true, true, false, false] (mkSt [(3, one (Cell.ptr 0 0)), (7, one (Cell.ptr 1 0)), (8, one (Cell.ptr 2 0)), (37, agg [Cell.own 3, cS r11.Realm])] [(3, ⟨1, List.map eS r11.Parts⟩), (4, ⟨1, List.map eS r6.Parts⟩), (5, ⟨1, List.map eS r7.Parts⟩)] [(0, [Cell.sl g1 (List.map eS a1.Parts), cS a1.Realm]), (1, [Cell.own 4, cS r6.Realm]), (2, [Cell.own 5, cS r7.Realm])] 6) := by
            refine hI _ _ _ ?_
            refine A.all [0] (by kernel_rfl) rfl ⟨⟨_, rfl, ?_⟩, trivial⟩
            · refine L.loadPtr shape56 hF rfl rfl rfl rfl rfl rfl ?_
              refine L.nil ?_
              exact A.on (hO _ _ _ n7) (Le.mk [(0, 0), (1, 2), (2, 4), (3, 3), (4, 5)] hm rfl ⟨⟨_, rfl, rfl⟩, ⟨_, rfl, rfl⟩, ⟨_, rfl, rfl⟩, ⟨_, rfl, rfl⟩, trivial⟩ ⟨⟨_, rfl, rfl⟩, ⟨_, rfl, rfl⟩, ⟨_, rfl, rfl⟩, trivial⟩ ⟨⟨_, _, rfl, rfl, rfl⟩, ⟨_, _, rfl, rfl, rfl⟩, trivial⟩)
          have n1 : W 4 #[true, false, false, false, false] (mkSt [(2, one (Cell.ptr 0 0)), (3, one (Cell.ptr 1 0)), (8, one (Cell.ptr 2 0)), (35, agg [Cell.own 3, cS r6.Realm])] [(3, ⟨1, List.map eS r6.Parts⟩), (4, ⟨1, List.map eS r7.Parts⟩)] [(0, [Cell.sl g0 (List.map eS a0.Parts), cS a0.Realm]), (1, [Cell.sl g1 (List.map eS a1.Parts), cS a1.Realm]), (2, [Cell.own 4, cS r7.Realm])] 5) := by
            refine hI _ _ _ ?_
            refine A.all [1] (by kernel_rfl) rfl ⟨⟨_, rfl, ?_⟩, trivial⟩
            · refine L.loadPtr shape53 hF rfl rfl rfl rfl rfl rfl ?_
              refine L.nil ?_
              exact A.on (hO _ _ _ n3) (Le.mk [(0, 1), (1, 2), (2, 3), (3, 4)] hm rfl ⟨⟨_, rfl, rfl⟩, ⟨_, rfl, rfl⟩, ⟨_, rfl, rfl⟩, ⟨_, rfl, rfl⟩, trivial⟩ ⟨⟨_, rfl, rfl⟩, ⟨_, rfl, rfl⟩, trivial⟩ ⟨⟨_, _, rfl, rfl, rfl⟩, ⟨_, _, rfl, rfl, rfl⟩, trivial⟩)
          have n2 : W 4 #[false, true, false, false, false] (mkSt [(3, one (Cell.ptr 0 0)), (7, one (Cell.ptr 1 0)), (8, one (Cell.ptr 2 0)), (36, agg [Cell.sl g0 (List.map eS a0.Parts), cS a0.Realm])] [(3, ⟨1, List.map eS r6.Parts⟩), (4, ⟨1, List.map eS r7.Parts⟩)] [(0, [Cell.sl g1 (List.map eS a1.Parts), cS a1.Realm]), (1, [Cell.own 3, cS r6.Realm]), (2, [Cell.own 4, cS r7.Realm])] 5) := by
            refine hI _ _ _ ?_
            refine A.all [0, 2] (by kernel_rfl) rfl ⟨⟨_, rfl, ?_⟩, ⟨_, rfl, ?_⟩, trivial⟩
            · refine L.loadPtr shape56 hF rfl rfl rfl rfl rfl rfl ?_
              refine L.nil ?_
              exact A.on (hO _ _ _ n3) (Le.mk [(0, 0), (1, 2), (2, 3), (3, 4)] hm rfl ⟨⟨_, rfl, rfl⟩, ⟨_, rfl, rfl⟩, ⟨_, rfl, rfl⟩, ⟨_, rfl, rfl⟩, trivial⟩ ⟨⟨_, rfl, rfl⟩, ⟨_, rfl, rfl⟩, trivial⟩ ⟨⟨_, _, rfl, rfl, rfl⟩, ⟨_, _, rfl, rfl, rfl⟩, trivial⟩)
            · refine L.call [false] [] [] 5 hF rfl rfl rfl ent49 rfl rfl rfl rfl rfl (Flaws_toName_gives k g0 a0 r11 hr11) rfl ?_
              refine L.nil ?_
              exact A.on (hO _ _ _ n6) (Le.mk [(0, 0), (1, 1), (2, 2), (3, 5), (4, 3), (5, 4)] hm rfl ⟨⟨_, rfl, rfl⟩, ⟨_, rfl, rfl⟩, ⟨_, rfl, rfl⟩, ⟨_, rfl, rfl⟩, trivial⟩ ⟨⟨_, rfl, rfl⟩, ⟨_, rfl, rfl⟩, ⟨_, rfl, rfl⟩, trivial⟩ ⟨⟨_, _, rfl, rfl, rfl⟩, ⟨_, _, rfl, rfl, rfl⟩, ⟨_, _, rfl, rfl, rfl⟩, trivial⟩)
          have n0 : W 5 #[false, false, false, false, false] (mkSt [(2, one (Cell.ptr 0 0)), (3, one (Cell.ptr 1 0)), (7, one (Cell.ptr 2 0)), (8, one (Cell.ptr 3 0))] [(4, ⟨1, List.map eS r6.Parts⟩), (5, ⟨1, List.map eS r7.Parts⟩)] [(0, [Cell.sl g0 (List.map eS a0.Parts), cS a0.Realm]), (1, [Cell.sl g1 (List.map eS a1.Parts), cS a1.Realm]), (2, [Cell.own 4, cS r6.Realm]), (3, [Cell.own 5, cS r7.Realm])] 6) := by
            refine hI _ _ _ ?_
            refine A.all [0, 1] (by kernel_rfl) rfl ⟨⟨_, rfl, ?_⟩, ⟨_, rfl, ?_⟩, trivial⟩
            · refine L.loadPtr shape56 hF rfl rfl rfl rfl rfl rfl ?_
              refine L.nil ?_
              exact A.on (hO _ _ _ n1) (Le.mk [(0, 0), (1, 1), (2, 3), (3, 4), (4, 5)] hm rfl ⟨⟨_, rfl, rfl⟩, ⟨_, rfl, rfl⟩, ⟨_, rfl, rfl⟩, ⟨_, rfl, rfl⟩, trivial⟩ ⟨⟨_, rfl, rfl⟩, ⟨_, rfl, rfl⟩, trivial⟩ ⟨⟨_, _, rfl, rfl, rfl⟩, ⟨_, _, rfl, rfl, rfl⟩, ⟨_, _, rfl, rfl, rfl⟩, trivial⟩)
            · refine L.loadPtr shape53 hF rfl rfl rfl rfl rfl rfl ?_
              refine L.nil ?_
              exact A.on (hO _ _ _ n2) (Le.mk [(0, 1), (1, 2), (2, 3), (3, 4), (4, 5)] hm rfl ⟨⟨_, rfl, rfl⟩, ⟨_, rfl, rfl⟩, ⟨_, rfl, rfl⟩, ⟨_, rfl, rfl⟩, trivial⟩ ⟨⟨_, rfl, rfl⟩, ⟨_, rfl, rfl⟩, trivial⟩ ⟨⟨_, _, rfl, rfl, rfl⟩, ⟨_, _, rfl, rfl, rfl⟩, ⟨_, _, rfl, rfl, rfl⟩, trivial⟩)
          exact hI _ _ _ (A.on (hO _ _ _ n0) (Le.mk [(0, 0), (1, 1), (2, 4), (3, 7), (4, 2), (5, 5)] hm rfl ⟨⟨_, rfl, rfl⟩, ⟨_, rfl, rfl⟩, ⟨_, rfl, rfl⟩, ⟨_, rfl, rfl⟩, trivial⟩ ⟨⟨_, rfl, rfl⟩, ⟨_, rfl, rfl⟩, trivial⟩ ⟨⟨_, _, rfl, rfl, rfl⟩, ⟨_, _, rfl, rfl, rfl⟩, ⟨_, _, rfl, rfl, rfl⟩, ⟨_, _, rfl, rfl, rfl⟩, trivial⟩))
      have n31 : W 1 #[true, true, true, true, true, false] (mkSt [(2, one (Cell.ptr 0 0)), (3, one (Cell.ptr 1 0)), (24, one (cL r5))] [] [(0, [Cell.sl g0 (List.map eS a0.Parts), cS a0.Realm]), (1, [Cell.sl g1 (List.map eS a1.Parts), cS a1.Realm])] 2) := by
        refine hI _ _ _ ?_
        refine A.take 5 rfl (by kernel_rfl) (by kernel_rfl) (by kernel_rfl) rfl (Ca.assign) (fun Q0 k0 => L.assign hF rfl rfl rfl (L.nil k0)) ?_
        exact A.on (hO _ _ _ n63) (Le.mk [(0, 0), (1, 1)] hm rfl ⟨⟨_, rfl, rfl⟩, ⟨_, rfl, rfl⟩, ⟨_, rfl, rfl⟩, trivial⟩ trivial ⟨⟨_, _, rfl, rfl, rfl⟩, ⟨_, _, rfl, rfl, rfl⟩, trivial⟩)
      have n15 : W 2 #[true, true, true, true, false, false] (mkSt [(2, one (Cell.ptr 0 0)), (3, one (Cell.ptr 1 0)), (21, agg [Cell.own 2, cS r3.Realm]), (23, agg [Cell.own 3, cS r4.Realm])] [(2, ⟨1, List.map eS r3.Parts⟩), (3, ⟨1, List.map eS r4.Parts⟩)] [(0, [Cell.sl g0 (List.map eS a0.Parts), cS a0.Realm]), (1, [Cell.sl g1 (List.map eS a1.Parts), cS a1.Realm])] 4) := by
        refine hI _ _ _ ?_
        refine A.all [4] (by kernel_rfl) rfl ⟨⟨_, rfl, ?_⟩, trivial⟩
        · refine L.call [false, false] [2, 3] [] 4 hF rfl rfl rfl ent57 rfl rfl rfl rfl rfl (Fspec_NameLess_gives k false false r3 r4 r5 hr5) rfl ?_
          refine L.nil ?_
          exact A.on (hO _ _ _ n31) (Le.mk [(0, 0), (1, 1)] hm rfl ⟨⟨_, rfl, rfl⟩, ⟨_, rfl, rfl⟩, ⟨_, rfl, rfl⟩, trivial⟩ trivial ⟨⟨_, _, rfl, rfl, rfl⟩, ⟨_, _, rfl, rfl, rfl⟩, trivial⟩)
      have n7 : W 3 #[true, true, true, false, false, false] (mkSt [(2, one (Cell.ptr 0 0)), (3, one (Cell.ptr 1 0)), (21, agg [Cell.own 2, cS r3.Realm]), (22, agg [Cell.sl g1 (List.map eS a1.Parts), cS a1.Realm])] [(2, ⟨1, List.map eS r3.Parts⟩)] [(0, [Cell.sl g0 (List.map eS a0.Parts), cS a0.Realm]), (1, [Cell.sl g1 (List.map eS a1.Parts), cS a1.Realm])] 3) := by
        refine hI _ _ _ ?_
        refine A.all [3] (by kernel_rfl) rfl ⟨⟨_, rfl, ?_⟩, trivial⟩
        · refine L.call [false] [] [] 3 hF rfl rfl rfl ent49 rfl rfl rfl rfl rfl (Flaws_toName_gives k g1 a1 r4 hr4) rfl ?_
          refine L.nil ?_
          exact A.on (hO _ _ _ n15) (Le.mk [(0, 0), (1, 1), (2, 2), (3, 3)] hm rfl ⟨⟨_, rfl, rfl⟩, ⟨_, rfl, rfl⟩, ⟨_, rfl, rfl⟩, ⟨_, rfl, rfl⟩, trivial⟩ ⟨⟨_, rfl, rfl⟩, ⟨_, rfl, rfl⟩, trivial⟩ ⟨⟨_, _, rfl, rfl, rfl⟩, ⟨_, _, rfl, rfl, rfl⟩, trivial⟩)
      have n3 : W 4 #[true, true, false, false, false, false] (mkSt [(2, one (Cell.ptr 0 0)), (3, one (Cell.ptr 1 0)), (21, agg [Cell.own 2, cS r3.Realm])] [(2, ⟨1, List.map eS r3.Parts⟩)] [(0, [Cell.sl g0 (List.map eS a0.Parts), cS a0.Realm]), (1, [Cell.sl g1 (List.map eS a1.Parts), cS a1.Realm])] 3) := by
        refine hI _ _ _ ?_
        refine A.all [2] (by kernel_rfl) rfl ⟨⟨_, rfl, ?_⟩, trivial⟩
        · refine L.loadPtr shape53 hF rfl rfl rfl rfl rfl rfl ?_
          refine L.nil ?_
          exact A.on (hO _ _ _ n7) (Le.mk [(0, 0), (1, 1), (2, 2)] hm rfl ⟨⟨_, rfl, rfl⟩, ⟨_, rfl, rfl⟩, ⟨_, rfl, rfl⟩, ⟨_, rfl, rfl⟩, trivial⟩ ⟨⟨_, rfl, rfl⟩, trivial⟩ ⟨⟨_, _, rfl, rfl, rfl⟩, ⟨_, _, rfl, rfl, rfl⟩, trivial⟩)
      have n5 : W 4 #[true, false, true, false, false, false] (mkSt [(2, one (Cell.ptr 0 0)), (3, one (Cell.ptr 1 0)), (20, agg [Cell.sl g0 (List.map eS a0.Parts), cS a0.Realm]), (22, agg [Cell.sl g1 (List.map eS a1.Parts), cS a1.Realm])] [] [(0, [Cell.sl g0 (List.map eS a0.Parts), cS a0.Realm]), (1, [Cell.sl g1 (List.map eS a1.Parts), cS a1.Realm])] 2) := by
        refine hI _ _ _ ?_
        refine A.all [1] (by kernel_rfl) rfl ⟨⟨_, rfl, ?_⟩, trivial⟩
        · refine L.call [false] [] [] 2 hF rfl rfl rfl ent49 rfl rfl rfl rfl rfl (Flaws_toName_gives k g0 a0 r3 hr3) rfl ?_
          refine L.nil ?_
          exact A.on (hO _ _ _ n7) (Le.mk [(0, 0), (1, 1), (2, 2)] hm rfl ⟨⟨_, rfl, rfl⟩, ⟨_, rfl, rfl⟩, ⟨_, rfl, rfl⟩, ⟨_, rfl, rfl⟩, trivial⟩ ⟨⟨_, rfl, rfl⟩, trivial⟩ ⟨⟨_, _, rfl, rfl, rfl⟩, ⟨_, _, rfl, rfl, rfl⟩, trivial⟩)
      have n1 : W 5 #[true, false, false, false, false, false] (mkSt [(2, one (Cell.ptr 0 0)), (3, one (Cell.ptr 1 0)), (20, agg [Cell.sl g0 (List.map eS a0.Parts), cS a0.Realm])] [] [(0, [Cell.sl g0 (List.map eS a0.Parts), cS a0.Realm]), (1, [Cell.sl g1 (List.map eS a1.Parts), cS a1.Realm])] 2) := by
        refine hI _ _ _ ?_
        refine A.all [1, 2] (by kernel_rfl) rfl ⟨⟨_, rfl, ?_⟩, ⟨_, rfl, ?_⟩, trivial⟩
        · refine L.call [false] [] [] 2 hF rfl rfl rfl ent49 rfl rfl rfl rfl rfl (Flaws_toName_gives k g0 a0 r3 hr3) rfl ?_
          refine L.nil ?_
          exact A.on (hO _ _ _ n3) (Le.mk [(0, 0), (1, 1), (2, 2)] hm rfl ⟨⟨_, rfl, rfl⟩, ⟨_, rfl, rfl⟩, ⟨_, rfl, rfl⟩, trivial⟩ ⟨⟨_, rfl, rfl⟩, trivial⟩ ⟨⟨_, _, rfl, rfl, rfl⟩, ⟨_, _, rfl, rfl, rfl⟩, trivial⟩)
        · refine L.loadPtr shape53 hF rfl rfl rfl rfl rfl rfl ?_
          refine L.nil ?_
          exact A.on (hO _ _ _ n5) (Le.mk [(0, 0), (1, 1)] hm rfl ⟨⟨_, rfl, rfl⟩, ⟨_, rfl, rfl⟩, ⟨_, rfl, rfl⟩, ⟨_, rfl, rfl⟩, trivial⟩ trivial ⟨⟨_, _, rfl, rfl, rfl⟩, ⟨_, _, rfl, rfl, rfl⟩, trivial⟩)
      have n4 : W 5 #[false, false, true, false, false, false] (mkSt [(2, one (Cell.ptr 0 0)), (3, one (Cell.ptr 1 0)), (22, agg [Cell.sl g1 (List.map eS a1.Parts), cS a1.Realm])] [] [(0, [Cell.sl g0 (List.map eS a0.Parts), cS a0.Realm]), (1, [Cell.sl g1 (List.map eS a1.Parts), cS a1.Realm])] 2) := by
        refine hI _ _ _ ?_
        refine A.all [0] (by kernel_rfl) rfl ⟨⟨_, rfl, ?_⟩, trivial⟩
        · refine L.loadPtr shape53 hF rfl rfl rfl rfl rfl rfl ?_
          refine L.nil ?_
          exact A.on (hO _ _ _ n5) (Le.mk [(0, 0), (1, 1)] hm rfl ⟨⟨_, rfl, rfl⟩, ⟨_, rfl, rfl⟩, ⟨_, rfl, rfl⟩, ⟨_, rfl, rfl⟩, trivial⟩ trivial ⟨⟨_, _, rfl, rfl, rfl⟩, ⟨_, _, rfl, rfl, rfl⟩, trivial⟩)
      have n0 : W 6 #[false, false, false, false, false, false] (mkSt [(2, one (Cell.ptr 0 0)), (3, one (Cell.ptr 1 0))] [] [(0, [Cell.sl g0 (List.map eS a0.Parts), cS a0.Realm]), (1, [Cell.sl g1 (List.map eS a1.Parts), cS a1.Realm])] 2) := by
        refine hI _ _ _ ?_
        refine A.all [0, 2] (by kernel_rfl) rfl ⟨⟨_, rfl, ?_⟩, ⟨_, rfl, ?_⟩, trivial⟩
        · refine L.loadPtr shape53 hF rfl rfl rfl rfl rfl rfl ?_
          refine L.nil ?_
          exact A.on (hO _ _ _ n1) (Le.mk [(0, 0), (1, 1)] hm rfl ⟨⟨_, rfl, rfl⟩, ⟨_, rfl, rfl⟩, ⟨_, rfl, rfl⟩, trivial⟩ trivial ⟨⟨_, _, rfl, rfl, rfl⟩, ⟨_, _, rfl, rfl, rfl⟩, trivial⟩)
        · refine L.loadPtr shape53 hF rfl rfl rfl rfl rfl rfl ?_
          refine L.nil ?_
          exact A.on (hO _ _ _ n4) (Le.mk [(0, 0), (1, 1)] hm rfl ⟨⟨_, rfl, rfl⟩, ⟨_, rfl, rfl⟩, ⟨_, rfl, rfl⟩, trivial⟩ trivial ⟨⟨_, _, rfl, rfl, rfl⟩, ⟨_, _, rfl, rfl, rfl⟩, trivial⟩)
      exact hI _ _ _ (A.on (hO _ _ _ n0) (Le.mk [(0, 4), (1, 5)] hm rfl ⟨⟨_, rfl, rfl⟩, ⟨_, rfl, rfl⟩, trivial⟩ trivial ⟨⟨_, _, rfl, rfl, rfl⟩, ⟨_, _, rfl, rfl, rfl⟩, trivial⟩))
theorem open51 : Go.MG.Opens Try.prog 51 (Go.MG.eR Go.MG.eS) (Go.MG.wfR Go.MG.wfS) := Go.MG.Opens.slice Try.underlying51 (Go.MG.Opens.str Try.underlying9) (fun _ => (by kernel_rfl : Try.prog.cellsOf 9 = 1).symm) (fun _ => rfl) (fun _ => rfl) (by kernel_rfl)
def wfTlaws_Name (x : Tlaws_Name) : Prop := (Go.MG.wfR Go.MG.wfS) x.Parts ∧ Go.MG.wfS x.Realm
theorem open53 : Go.MG.Opens Try.prog 53 eTlaws_Name wfTlaws_Name := by
  intro H enc W fuel cs x h
  obtain ⟨n, hp⟩ := Go.MG.struct_parts Try.underlying53 (by kernel_rfl : Try.prog.cellsOf 53 = 2) (by kernel_rfl) h
  obtain ⟨c0, k0, y0, rfl, h0, hp⟩ := hp
  obtain ⟨c1, k1, y1, rfl, h1, hp⟩ := hp
  obtain rfl := hp
  obtain ⟨a0, r0, w0⟩ := open51 _ _ _ _ _ _ h0
  obtain ⟨a1, r1, w1⟩ := (Go.MG.Opens.str Try.underlying9) _ _ _ _ _ _ h1
  exact ⟨⟨a0, a1⟩, (r0.append (r1.append (rfl : Go.MG.RCs _ [] []))), w0, w1⟩
end Go.Proofs.Ytflcaebmammlfaa.M
