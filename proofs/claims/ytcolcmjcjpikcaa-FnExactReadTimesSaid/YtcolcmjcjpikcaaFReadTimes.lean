import Derived.Test.YtcolcmjcjpikcaaFReadTimesx0
import Derived.Test.YtcolcmjcjpikcaaProg
namespace Go.Proofs.Ytcolcmjcjpikcaa.M
open Go Go.MG
set_option linter.unusedVariables false
set_option linter.unusedSimpArgs false
/-! ### Fimpl_ReadNum -/
def Fimpl_ReadNum (k : Nat) (a0 : List UInt8) : Option (Int × Bool) := (Fimpl_ReadAtom k a0).bind fun r1 => (Fimpl_ReadVar k r1.1).bind fun r2 => cond (!r1.2) (some ((0 : Int), false)) (cond (r2.2 == (0 : Int)) (some ((0 : Int), false)) (cond (r2.2 != (r1.1.length : Int)) (some ((0 : Int), false)) (some (r2.1, true))))
theorem ent226 : Enters Try.prog 226 := ⟨Try.f226, Try.func226, rfl, by decide⟩
set_option maxHeartbeats 8000000 in
set_option maxRecDepth 100000 in
theorem Fimpl_ReadNum_gives (k : Nat) (a0 : List UInt8) (r : Int × Bool) (H : Fimpl_ReadNum k a0 = some r) : Gives Try.prog 226 [V.one (cS a0)] [] [V.one (cI r.1), V.one (cL r.2)] [] := by
  refine Gives.intro Try.func226 rfl rfl rfl rfl ?_
  intro F hF hm
  unfold Fimpl_ReadNum at H
  obtain ⟨K, hK⟩ : ∃ K, k ≤ K := ⟨k, Nat.le_refl k⟩
  refine WpC.seq ?_
  refine WpC.regionL ?_
  refine L.assign hF rfl rfl rfl ?_
  refine L.assign hF rfl rfl rfl ?_
  refine L.nil ?_
  refine WpC.seq ?_
  refine WpC.regionL ?_
  refine L.move hF rfl rfl rfl ?_
  obtain ⟨r1, hr1, H⟩ := bindS H
  refine L.call [false] [] [] 1 hF rfl rfl rfl ent272 rfl rfl rfl rfl rfl (Fimpl_ReadAtom_gives k  a0 r1 hr1) rfl ?_
  refine L.move hF rfl rfl rfl ?_
  refine L.extract hF rfl rfl rfl rfl ?_
  refine L.extract hF rfl rfl rfl rfl ?_
  refine L.assign hF rfl rfl rfl ?_
  refine L.assign hF rfl rfl rfl ?_
  refine L.nil ?_
  refine WpC.seq ?_
  refine WpC.regionL ?_
  refine L.move hF rfl rfl rfl ?_
  obtain ⟨r2, hr2, H⟩ := bindS H
  refine L.call [false] [] [] 3 hF rfl rfl rfl ent217 rfl rfl rfl rfl rfl (Fimpl_ReadVar_gives k  r1.1 r2 hr2) rfl ?_
  refine L.move hF rfl rfl rfl ?_
  refine L.extract hF rfl rfl rfl rfl ?_
  refine L.extract hF rfl rfl rfl rfl ?_
  refine L.assign hF rfl rfl rfl ?_
  refine L.assign hF rfl rfl rfl ?_
  refine L.nil ?_
  refine WpC.seq ?_
  refine WpC.seq ?_
  refine WpC.regionL ?_
  refine L.move hF rfl rfl rfl ?_
  refine L.not hF rfl rfl rfl ?_
  refine L.move hF rfl rfl rfl ?_
  refine L.split (fun hc => ?_) (fun hc => ?_)
  · replace H := condT hc H
    refine L.off hF rfl rfl ?_
    refine L.off hF rfl rfl ?_
    refine L.pick hF rfl rfl rfl rfl ?_
    refine L.move hF rfl rfl rfl ?_
    refine L.off hF rfl rfl ?_
    refine L.off hF rfl rfl ?_
    refine L.off hF rfl rfl ?_
    refine L.off hF rfl rfl ?_
    refine L.pick hF rfl rfl rfl rfl ?_
    refine L.nil ?_
    refine WpC.cond rfl (fun _ => ?_) (fun hc => by cases hc)
    refine WpC.seq ?_
    refine WpC.regionL ?_
    refine L.assign hF rfl rfl rfl ?_
    refine L.assign hF rfl rfl rfl ?_
    refine L.nil ?_
    refine WpC.ret ?_
    cases H
    exact Leaves.ret rfl rfl rfl ⟨rfl, rfl⟩
  · replace H := condF hc H
    refine L.move hF rfl rfl rfl ?_
    refine L.bin hF rfl rfl rfl rfl rfl rfl ?_
    refine L.pick hF rfl rfl rfl rfl ?_
    refine L.move hF rfl rfl rfl ?_
    refine L.split (fun hc => ?_) (fun hc => ?_)
    · replace H := condT hc H
      refine L.off hF rfl rfl ?_
      refine L.off hF rfl rfl ?_
      refine L.off hF rfl rfl ?_
      refine L.off hF rfl rfl ?_
      refine L.pick hF rfl rfl rfl rfl ?_
      refine L.nil ?_
      refine WpC.cond rfl (fun _ => ?_) (fun hc => by cases hc)
      refine WpC.seq ?_
      refine WpC.regionL ?_
      refine L.assign hF rfl rfl rfl ?_
      refine L.assign hF rfl rfl rfl ?_
      refine L.nil ?_
      refine WpC.ret ?_
      cases H
      exact Leaves.ret rfl rfl rfl ⟨rfl, rfl⟩
    · replace H := condF hc H
      refine L.move hF rfl rfl rfl ?_
      refine L.move hF rfl rfl rfl ?_
      refine L.lenS Try.underlying9 hF rfl rfl rfl ?_
      refine L.bin hF rfl rfl rfl rfl rfl rfl ?_
      refine L.pick hF rfl rfl rfl rfl ?_
      refine L.nil ?_
      refine WpC.cond rfl (fun hc => ?_) (fun hc => ?_)
      · replace H := condT hc H
        refine WpC.seq ?_
        refine WpC.regionL ?_
        refine L.assign hF rfl rfl rfl ?_
        refine L.assign hF rfl rfl rfl ?_
        refine L.nil ?_
        refine WpC.ret ?_
        cases H
        exact Leaves.ret rfl rfl rfl ⟨rfl, rfl⟩
      · replace H := condF hc H
        refine WpC.skip ?_
        refine WpC.seq ?_
        refine WpC.regionL ?_
        refine L.move hF rfl rfl rfl ?_
        refine L.assign hF rfl rfl rfl ?_
        refine L.assign hF rfl rfl rfl ?_
        refine L.nil ?_
        refine WpC.ret ?_
        cases H
        exact Leaves.ret rfl rfl rfl ⟨rfl, rfl⟩
/-! ### Fimpl_ReadNums -/
def Fimpl_ReadNums.l2 : Nat → (List Int) → (List (List UInt8)) → Int → Int → Option (List Int × Bool)
  | 0, _, _, _, _ => none
  | k2 + 1, v48, v49, v50, v51 => cond (decide (v51 < v50)) ((at? v49 v51).bind fun b55 => (Fimpl_ReadNum k2 b55).bind fun r56 => cond (!r56.2) (some ([], false)) (cond (decide ((2 * (v48.length + ([r56.1] : List Int).length) + 192) * 8 ≤ 281474976710656)) ((Fimpl_ReadNums.l2 k2) (v48 ++ ([r56.1] : List Int)) v49 v50 (IntKind.i64.wrap (v51 + (1 : Int)))) none)) (some (v48, true))
def Fimpl_ReadNums (k : Nat) (a0 : List UInt8) : Option (List Int × Bool) := (Fimpl_Parts k a0).bind fun r1 => cond (!r1.2) (some ([], false)) (Fimpl_ReadNums.l2 k ([] : List Int) r1.1 (r1.1.length : Int) (0 : Int))
theorem ent136 : Enters Try.prog 136 := ⟨Try.f136, Try.func136, rfl, by decide⟩
set_option maxHeartbeats 8000000 in
set_option maxRecDepth 100000 in
theorem Fimpl_ReadNums_gives (k : Nat) (a0 : List UInt8) (r : List Int × Bool) (H : Fimpl_ReadNums k a0 = some r) : Gives Try.prog 136 [V.one (cS a0)] [] [V.one (Cell.ow 1 (List.map eI r.1)), V.one (cL r.2)] [] := by
  refine Gives.intro Try.func136 rfl rfl rfl rfl ?_
  intro F hF hm
  unfold Fimpl_ReadNums at H
  obtain ⟨K, hK⟩ : ∃ K, k ≤ K := ⟨k, Nat.le_refl k⟩
  refine WpC.seq ?_
  refine WpC.regionL ?_
  refine L.assign hF rfl rfl rfl ?_
  refine L.assign hF rfl rfl rfl ?_
  refine L.nil ?_
  refine WpC.seq ?_
  refine WpC.regionL ?_
  refine L.move hF rfl rfl rfl ?_
  obtain ⟨r1, hr1, H⟩ := bindS H
  refine L.call [false] [] [] 1 hF rfl rfl rfl ent144 rfl rfl rfl rfl rfl (Fimpl_Parts_gives k  a0 r1 hr1) rfl ?_
  refine L.move hF rfl rfl rfl ?_
  refine L.extract hF rfl rfl rfl rfl ?_
  refine L.extract hF rfl rfl rfl rfl ?_
  refine L.assign hF rfl rfl rfl ?_
  refine L.assign hF rfl rfl rfl ?_
  refine L.nil ?_
  refine WpC.seq ?_
  refine WpC.seq ?_
  refine WpC.regionL ?_
  refine L.move hF rfl rfl rfl ?_
  refine L.not hF rfl rfl rfl ?_
  refine L.nil ?_
  refine WpC.cond rfl (fun hc => ?_) (fun hc => ?_)
  · replace H := condT hc H
    refine WpC.seq ?_
    refine WpC.regionL ?_
    refine L.assign hF rfl rfl rfl ?_
    refine L.assign hF rfl rfl rfl ?_
    refine L.nil ?_
    refine WpC.le (Le.own 2 0 3 1 rfl rfl rfl) ?_
    refine WpC.ret ?_
    cases H
    exact Leaves.ret rfl rfl rfl ⟨rfl, rfl⟩
  · replace H := condF hc H
    refine WpC.skip ?_
    refine WpC.seq ?_
    refine WpC.regionL ?_
    refine L.buildSlice (e := eI) 3 ([] : List Int) Try.underlying24 info3 rfl rfl rfl hF rfl rfl rfl rfl rfl rfl rfl rfl ?_
    refine L.assign hF rfl rfl rfl ?_
    refine L.nil ?_
    refine WpC.seq ?_
    refine WpC.seq ?_
    refine WpC.regionL ?_
    refine L.move hF rfl rfl rfl ?_
    refine L.lenR (xs := r1.1) (e := eS) Try.underlying120 hF rfl rfl rfl rfl ?_
    refine L.move hF rfl rfl rfl ?_
    refine L.nil ?_
    refine WpC.block ?_
    refine WpC.loopL (P := Try.prog) (fun n σ => ∃ v48 : List Int, ∃ v49 : List (List UInt8), ∃ v50 : Int, ∃ v51 : Int, n ≤ K ∧ Fimpl_ReadNums.l2 n v48 v49 v50 v51 = some r ∧ σ = mkSt [(6, one (Cell.own 0)), (19, one (Cell.own 1)), (20, one (cI v50)), (21, one (cI v51))] [(0, ⟨1, List.map eI v48⟩), (1, ⟨1, List.map eS v49⟩)] [] 2) k ⟨_, ⟨([] : List Int), r1.1, (r1.1.length : Int), (0 : Int), by omega, H, rfl⟩, Le.mk [(0, 3), (1, 1)] hm rfl ⟨⟨_, rfl, rfl⟩, ⟨_, rfl, rfl⟩, ⟨_, rfl, rfl⟩, ⟨_, rfl, rfl⟩, trivial⟩ ⟨⟨_, rfl, rfl⟩, ⟨_, rfl, rfl⟩, trivial⟩ trivial⟩ ?_
    clear H
    rintro k2 _ ⟨v48, v49, v50, v51, hk2, H, rfl⟩
    cases k2 with
    | zero => cases H
    | succ k2 =>
      rw [Fimpl_ReadNums.l2] at H
      refine WpC.seq ?_
      refine WpC.regionL ?_
      refine L.bin hF rfl rfl rfl rfl rfl rfl ?_
      refine L.nil ?_
      refine WpC.seq ?_
      refine WpC.cond rfl (fun hc => ?_) (fun hc => ?_)
      · replace H := condT hc H
        refine WpC.skip ?_
        refine WpC.seq ?_
        refine WpC.block ?_
        refine WpC.seq ?_
        refine WpC.regionL ?_
        obtain ⟨b55, hb55, H⟩ := bindS H
        refine L.idxR (xs := v49) (e := eS) Try.underlying120 info9 hF rfl rfl rfl rfl rfl hb55 rfl rfl ?_
        refine L.loadEp (xs := v49) (e := eS) shape9 hF rfl rfl rfl rfl (at?_get hb55).2 rfl rfl ?_
        refine L.assign hF rfl rfl rfl ?_
        refine L.nil ?_
        refine WpC.seq ?_
        refine WpC.regionL ?_
        refine L.move hF rfl rfl rfl ?_
        obtain ⟨r56, hr56, H⟩ := bindS H
        refine L.call [false] [] [] 2 hF rfl rfl rfl ent226 rfl rfl rfl rfl rfl (Fimpl_ReadNum_gives k2  b55 r56 hr56) rfl ?_
        refine L.move hF rfl rfl rfl ?_
        refine L.extract hF rfl rfl rfl rfl ?_
        refine L.extract hF rfl rfl rfl rfl ?_
        refine L.assign hF rfl rfl rfl ?_
        refine L.assign hF rfl rfl rfl ?_
        refine L.nil ?_
        refine WpC.seq ?_
        refine WpC.seq ?_
        refine WpC.regionL ?_
        refine L.move hF rfl rfl rfl ?_
        refine L.not hF rfl rfl rfl ?_
        refine L.nil ?_
        refine WpC.cond rfl (fun hc => ?_) (fun hc => ?_)
        · replace H := condT hc H
          refine WpC.seq ?_
          refine WpC.regionL ?_
          refine L.assign hF rfl rfl rfl ?_
          refine L.assign hF rfl rfl rfl ?_
          refine L.nil ?_
          refine WpC.le (Le.own 2 0 4 1 rfl rfl rfl) ?_
          refine WpC.ret ?_
          cases H
          exact Leaves.ret rfl rfl rfl ⟨rfl, rfl⟩
        · replace H := condF hc H
          refine WpC.skip ?_
          refine WpC.regionL ?_
          refine L.move hF rfl rfl rfl ?_
          refine L.move hF rfl rfl rfl ?_
          refine L.buildSlice (e := eI) 4 ([r56.1] : List Int) Try.underlying24 info3 rfl rfl rfl hF rfl rfl rfl rfl rfl rfl rfl rfl ?_
          obtain ⟨h57, H⟩ := condG H
          refine L.append (xs := v48) (ys := ([r56.1] : List Int)) (e := eI) 5 Try.underlying24 info3 rfl rfl hF rfl rfl rfl rfl rfl rfl rfl rfl (fun _ => rfl) (fun _ _ h1 h2 => by cases h1; cases h2; rfl) ⟨_, Try.underlying24⟩ (of_decide_eq_true h57) rfl rfl ?_
          refine L.assign hF rfl rfl rfl ?_
          refine L.nil ?_
          refine WpC.regionL ?_
          refine L.bin hF rfl rfl rfl rfl rfl rfl ?_
          refine L.move hF rfl rfl rfl ?_
          refine L.nil ?_
          exact ⟨k2, _, by omega, ⟨(v48 ++ ([r56.1] : List Int)), v49, v50, (IntKind.i64.wrap (v51 + (1 : Int))), by omega, H, rfl⟩, Le.mk [(0, 5), (1, 1)] hm rfl ⟨⟨_, rfl, rfl⟩, ⟨_, rfl, rfl⟩, ⟨_, rfl, rfl⟩, ⟨_, rfl, rfl⟩, trivial⟩ ⟨⟨_, rfl, rfl⟩, ⟨_, rfl, rfl⟩, trivial⟩ trivial⟩
      · replace H := condF hc H
        refine WpC.exit ?_
        refine WpC.seq ?_
        refine WpC.regionL ?_
        refine L.move hF rfl rfl rfl ?_
        refine L.assign hF rfl rfl rfl ?_
        refine L.assign hF rfl rfl rfl ?_
        refine L.nil ?_
        refine WpC.ret ?_
        cases H
        exact Leaves.ret rfl rfl rfl ⟨rfl, rfl⟩
/-! ### Fimpl_TimesOk -/
def Fimpl_TimesOk (k : Nat) (a0 : Timpl_Times) : Option Bool := cond (decide (a0.Auth ≥ (0 : Int))) (cond (decide (a0.Start ≥ a0.Auth)) (cond (decide (a0.End ≥ a0.Start)) (cond (decide (a0.Renew ≥ a0.End)) (some (decide (a0.Renew ≤ (100000 : Int)))) (some false)) (some false)) (some false)) (some false)
theorem ent139 : Enters Try.prog 139 := ⟨Try.f139, Try.func139, rfl, by decide⟩
set_option maxHeartbeats 8000000 in
set_option maxRecDepth 100000 in
theorem Fimpl_TimesOk_gives (k : Nat) (a0 : Timpl_Times) (r : Bool) (H : Fimpl_TimesOk k a0 = some r) : Gives Try.prog 139 [V.agg [cI a0.Auth, cI a0.Start, cI a0.End, cI a0.Renew]] [] [V.one (cL r)] [] := by
  refine Gives.intro Try.func139 rfl rfl rfl rfl ?_
  intro F hF hm
  unfold Fimpl_TimesOk at H
  obtain ⟨K, hK⟩ : ∃ K, k ≤ K := ⟨k, Nat.le_refl k⟩
  refine WpC.seq ?_
  refine WpC.regionL ?_
  refine L.box 4 hF rfl rfl rfl rfl ?_
  refine L.assign hF rfl rfl rfl ?_
  refine L.nil ?_
  refine WpC.seq ?_
  refine WpC.regionL ?_
  refine L.fieldAddr Try.underlying65 rfl info3 rfl hF rfl rfl rfl rfl rfl ?_
  refine L.loadPtr shape3 hF rfl rfl rfl rfl rfl rfl ?_
  refine L.bin hF rfl rfl rfl rfl rfl rfl ?_
  refine L.move hF rfl rfl rfl ?_
  refine L.split (fun hc => ?_) (fun hc => ?_)
  · replace H := condT hc H
    refine L.fieldAddr Try.underlying65 rfl info3 rfl hF rfl rfl rfl rfl rfl ?_
    refine L.loadPtr shape3 hF rfl rfl rfl rfl rfl rfl ?_
    refine L.fieldAddr Try.underlying65 rfl info3 rfl hF rfl rfl rfl rfl rfl ?_
    refine L.loadPtr shape3 hF rfl rfl rfl rfl rfl rfl ?_
    refine L.bin hF rfl rfl rfl rfl rfl rfl ?_
    refine L.pick hF rfl rfl rfl rfl ?_
    refine L.move hF rfl rfl rfl ?_
    refine L.split (fun hc => ?_) (fun hc => ?_)
    · replace H := condT hc H
      refine L.fieldAddr Try.underlying65 rfl info3 rfl hF rfl rfl rfl rfl rfl ?_
      refine L.loadPtr shape3 hF rfl rfl rfl rfl rfl rfl ?_
      refine L.fieldAddr Try.underlying65 rfl info3 rfl hF rfl rfl rfl rfl rfl ?_
      refine L.loadPtr shape3 hF rfl rfl rfl rfl rfl rfl ?_
      refine L.bin hF rfl rfl rfl rfl rfl rfl ?_
      refine L.pick hF rfl rfl rfl rfl ?_
      refine L.move hF rfl rfl rfl ?_
      refine L.split (fun hc => ?_) (fun hc => ?_)
      · replace H := condT hc H
        refine L.fieldAddr Try.underlying65 rfl info3 rfl hF rfl rfl rfl rfl rfl ?_
        refine L.loadPtr shape3 hF rfl rfl rfl rfl rfl rfl ?_
        refine L.fieldAddr Try.underlying65 rfl info3 rfl hF rfl rfl rfl rfl rfl ?_
        refine L.loadPtr shape3 hF rfl rfl rfl rfl rfl rfl ?_
        refine L.bin hF rfl rfl rfl rfl rfl rfl ?_
        refine L.pick hF rfl rfl rfl rfl ?_
        refine L.move hF rfl rfl rfl ?_
        refine L.split (fun hc => ?_) (fun hc => ?_)
        · replace H := condT hc H
          refine L.fieldAddr Try.underlying65 rfl info3 rfl hF rfl rfl rfl rfl rfl ?_
          refine L.loadPtr shape3 hF rfl rfl rfl rfl rfl rfl ?_
          refine L.bin hF rfl rfl rfl rfl rfl rfl ?_
          refine L.pick hF rfl rfl rfl rfl ?_
          refine L.assign hF rfl rfl rfl ?_
          refine L.nil ?_
          refine WpC.ret ?_
          cases H
          exact Leaves.ret rfl rfl rfl ⟨rfl, rfl⟩
        · replace H := condF hc H
          refine L.off hF rfl rfl ?_
          refine L.off hF rfl rfl ?_
          refine L.off hF rfl rfl ?_
          refine L.pick hF rfl rfl rfl rfl ?_
          refine L.assign hF rfl rfl rfl ?_
          refine L.nil ?_
          refine WpC.ret ?_
          cases H
          exact Leaves.ret rfl rfl rfl ⟨rfl, rfl⟩
      · replace H := condF hc H
        refine L.off hF rfl rfl ?_
        refine L.off hF rfl rfl ?_
        refine L.off hF rfl rfl ?_
        refine L.off hF rfl rfl ?_
        refine L.off hF rfl rfl ?_
        refine L.pick hF rfl rfl rfl rfl ?_
        refine L.move hF rfl rfl rfl ?_
        refine L.off hF rfl rfl ?_
        refine L.off hF rfl rfl ?_
        refine L.off hF rfl rfl ?_
        refine L.pick hF rfl rfl rfl rfl ?_
        refine L.assign hF rfl rfl rfl ?_
        refine L.nil ?_
        refine WpC.ret ?_
        cases H
        exact Leaves.ret rfl rfl rfl ⟨rfl, rfl⟩
    · replace H := condF hc H
      refine L.off hF rfl rfl ?_
      refine L.off hF rfl rfl ?_
      refine L.off hF rfl rfl ?_
      refine L.off hF rfl rfl ?_
      refine L.off hF rfl rfl ?_
      refine L.pick hF rfl rfl rfl rfl ?_
      refine L.move hF rfl rfl rfl ?_
      refine L.off hF rfl rfl ?_
      refine L.off hF rfl rfl ?_
      refine L.off hF rfl rfl ?_
      refine L.off hF rfl rfl ?_
      refine L.off hF rfl rfl ?_
      refine L.pick hF rfl rfl rfl rfl ?_
      refine L.move hF rfl rfl rfl ?_
      refine L.off hF rfl rfl ?_
      refine L.off hF rfl rfl ?_
      refine L.off hF rfl rfl ?_
      refine L.pick hF rfl rfl rfl rfl ?_
      refine L.assign hF rfl rfl rfl ?_
      refine L.nil ?_
      refine WpC.ret ?_
      cases H
      exact Leaves.ret rfl rfl rfl ⟨rfl, rfl⟩
  · replace H := condF hc H
    refine L.off hF rfl rfl ?_
    refine L.off hF rfl rfl ?_
    refine L.off hF rfl rfl ?_
    refine L.off hF rfl rfl ?_
    refine L.off hF rfl rfl ?_
    refine L.pick hF rfl rfl rfl rfl ?_
    refine L.move hF rfl rfl rfl ?_
    refine L.off hF rfl rfl ?_
    refine L.off hF rfl rfl ?_
    refine L.off hF rfl rfl ?_
    refine L.off hF rfl rfl ?_
    refine L.off hF rfl rfl ?_
    refine L.pick hF rfl rfl rfl rfl ?_
    refine L.move hF rfl rfl rfl ?_
    refine L.off hF rfl rfl ?_
    refine L.off hF rfl rfl ?_
    refine L.off hF rfl rfl ?_
    refine L.off hF rfl rfl ?_
    refine L.off hF rfl rfl ?_
    refine L.pick hF rfl rfl rfl rfl ?_
    refine L.move hF rfl rfl rfl ?_
    refine L.off hF rfl rfl ?_
    refine L.off hF rfl rfl ?_
    refine L.off hF rfl rfl ?_
    refine L.pick hF rfl rfl rfl rfl ?_
    refine L.assign hF rfl rfl rfl ?_
    refine L.nil ?_
    refine WpC.ret ?_
    cases H
    exact Leaves.ret rfl rfl rfl ⟨rfl, rfl⟩
/-! ### Fimpl_term -/
def Fimpl_term (k : Nat) (a0 : List UInt8) : Option (List UInt8) := (Fimpl_TermOk k a0).bind fun r2 => cond (!r2) (some ([] : List UInt8)) (some a0)
theorem ent275 : Enters Try.prog 275 := ⟨Try.f275, Try.func275, rfl, by decide⟩
set_option maxHeartbeats 8000000 in
set_option maxRecDepth 100000 in
theorem Fimpl_term_gives (k : Nat) (a0 : List UInt8) (r : List UInt8) (H : Fimpl_term k a0 = some r) : Gives Try.prog 275 [V.one (cS a0)] [] [V.one (cS r)] [] := by
  refine Gives.intro Try.func275 rfl rfl rfl rfl ?_
  intro F hF hm
  unfold Fimpl_term at H
  obtain ⟨K, hK⟩ : ∃ K, k ≤ K := ⟨k, Nat.le_refl k⟩
  refine WpC.seq ?_
  refine WpC.regionL ?_
  refine L.assign hF rfl rfl rfl ?_
  refine L.nil ?_
  refine WpC.seq ?_
  refine WpC.seq ?_
  refine WpC.regionL ?_
  refine L.move hF rfl rfl rfl ?_
  obtain ⟨r2, hr2, H⟩ := bindS H
  refine L.call [false] [] [] 1 hF rfl rfl rfl ent274 rfl rfl rfl rfl rfl (Fimpl_TermOk_gives k  a0 r2 hr2) rfl ?_
  refine L.not hF rfl rfl rfl ?_
  refine L.nil ?_
  refine WpC.cond rfl (fun hc => ?_) (fun hc => ?_)
  · replace H := condT hc H
    refine WpC.seq ?_
    refine WpC.regionL ?_
    refine L.assign hF rfl rfl rfl ?_
    refine L.nil ?_
    refine WpC.ret ?_
    cases H
    exact Leaves.ret rfl rfl rfl ⟨rfl, rfl⟩
  · replace H := condF hc H
    refine WpC.skip ?_
    refine WpC.seq ?_
    refine WpC.regionL ?_
    refine L.move hF rfl rfl rfl ?_
    refine L.assign hF rfl rfl rfl ?_
    refine L.nil ?_
    refine WpC.ret ?_
    cases H
    exact Leaves.ret rfl rfl rfl ⟨rfl, rfl⟩
/-! ### Fimpl_Atom -/
def Fimpl_Atom (k : Nat) (a0 : List UInt8) : Option (List UInt8) := (Fimpl_Var k (a0.length : Int)).bind fun r1 => cond (decide (([97] : List UInt8).length + r1.length ≤ 9223372036854775807)) (cond (decide ((([97] : List UInt8) ++ r1).length + a0.length ≤ 9223372036854775807)) ((Fimpl_term k ((([97] : List UInt8) ++ r1) ++ a0)).bind fun r4 => some r4) none) none
theorem ent273 : Enters Try.prog 273 := ⟨Try.f273, Try.func273, rfl, by decide⟩
set_option maxHeartbeats 8000000 in
set_option maxRecDepth 100000 in
theorem Fimpl_Atom_gives (k : Nat) (a0 : List UInt8) (r : List UInt8) (H : Fimpl_Atom k a0 = some r) : Gives Try.prog 273 [V.one (cS a0)] [] [V.one (cS r)] [] := by
  refine Gives.intro Try.func273 rfl rfl rfl rfl ?_
  intro F hF hm
  unfold Fimpl_Atom at H
  obtain ⟨K, hK⟩ : ∃ K, k ≤ K := ⟨k, Nat.le_refl k⟩
  refine WpC.seq ?_
  refine WpC.regionL ?_
  refine L.assign hF rfl rfl rfl ?_
  refine L.nil ?_
  refine WpC.seq ?_
  refine WpC.regionL ?_
  refine L.move hF rfl rfl rfl ?_
  refine L.lenS Try.underlying9 hF rfl rfl rfl ?_
  obtain ⟨r1, hr1, H⟩ := bindS H
  refine L.call [false] [] [] 1 hF rfl rfl rfl ent124 rfl rfl rfl rfl rfl (Fimpl_Var_gives k  (a0.length : Int) r1 hr1) rfl ?_
  obtain ⟨h2, H⟩ := condG H
  refine L.catS hF rfl rfl rfl rfl (of_decide_eq_true h2) ?_
  refine L.move hF rfl rfl rfl ?_
  obtain ⟨h3, H⟩ := condG H
  refine L.catS hF rfl rfl rfl rfl (of_decide_eq_true h3) ?_
  obtain ⟨r4, hr4, H⟩ := bindS H
  refine L.call [false] [] [] 2 hF rfl rfl rfl ent275 rfl rfl rfl rfl rfl (Fimpl_term_gives k  ((([97] : List UInt8) ++ r1) ++ a0) r4 hr4) rfl ?_
  refine L.assign hF rfl rfl rfl ?_
  refine L.nil ?_
  refine WpC.ret ?_
  cases H
  exact Leaves.ret rfl rfl rfl ⟨rfl, rfl⟩
/-! ### Fimpl_Num -/
def Fimpl_Num (k : Nat) (a0 : Int) : Option (List UInt8) := (Fimpl_Var k a0).bind fun r1 => cond (r1 == ([] : List UInt8)) (some ([] : List UInt8)) ((Fimpl_Atom k r1).bind fun r2 => some r2)
theorem ent227 : Enters Try.prog 227 := ⟨Try.f227, Try.func227, rfl, by decide⟩
set_option maxHeartbeats 8000000 in
set_option maxRecDepth 100000 in
theorem Fimpl_Num_gives (k : Nat) (a0 : Int) (r : List UInt8) (H : Fimpl_Num k a0 = some r) : Gives Try.prog 227 [V.one (cI a0)] [] [V.one (cS r)] [] := by
  refine Gives.intro Try.func227 rfl rfl rfl rfl ?_
  intro F hF hm
  unfold Fimpl_Num at H
  obtain ⟨K, hK⟩ : ∃ K, k ≤ K := ⟨k, Nat.le_refl k⟩
  refine WpC.seq ?_
  refine WpC.regionL ?_
  refine L.assign hF rfl rfl rfl ?_
  refine L.nil ?_
  refine WpC.seq ?_
  refine WpC.regionL ?_
  refine L.move hF rfl rfl rfl ?_
  obtain ⟨r1, hr1, H⟩ := bindS H
  refine L.call [false] [] [] 1 hF rfl rfl rfl ent124 rfl rfl rfl rfl rfl (Fimpl_Var_gives k  a0 r1 hr1) rfl ?_
  refine L.assign hF rfl rfl rfl ?_
  refine L.nil ?_
  refine WpC.seq ?_
  refine WpC.seq ?_
  refine WpC.regionL ?_
  refine L.move hF rfl rfl rfl ?_
  refine L.binS hF rfl rfl rfl rfl rfl ?_
  refine L.nil ?_
  refine WpC.cond rfl (fun hc => ?_) (fun hc => ?_)
  · replace H := condT hc H
    refine WpC.seq ?_
    refine WpC.regionL ?_
    refine L.assign hF rfl rfl rfl ?_
    refine L.nil ?_
    refine WpC.ret ?_
    cases H
    exact Leaves.ret rfl rfl rfl ⟨rfl, rfl⟩
  · replace H := condF hc H
    refine WpC.skip ?_
    refine WpC.seq ?_
    refine WpC.regionL ?_
    refine L.move hF rfl rfl rfl ?_
    obtain ⟨r2, hr2, H⟩ := bindS H
    refine L.call [false] [] [] 2 hF rfl rfl rfl ent273 rfl rfl rfl rfl rfl (Fimpl_Atom_gives k  r1 r2 hr2) rfl ?_
    refine L.assign hF rfl rfl rfl ?_
    refine L.nil ?_
    refine WpC.ret ?_
    cases H
    exact Leaves.ret rfl rfl rfl ⟨rfl, rfl⟩
/-! ### Fimpl_List -/
def Fimpl_List.l2 : Nat → (List UInt8) → (List (List UInt8)) → Int → Int → Option (List UInt8)
  | 0, _, _, _, _ => none
  | k2 + 1, v61, v62, v63, v64 => cond (decide (v64 < v63)) ((at? v62 v64).bind fun b69 => (Fimpl_TermOk k2 b69).bind fun r71 => cond (!r71) (some ([] : List UInt8)) (cond (decide (v61.length + b69.length ≤ 9223372036854775807)) ((Fimpl_List.l2 k2) (v61 ++ b69) v62 v63 (IntKind.i64.wrap (v64 + (1 : Int)))) none)) ((Fimpl_term k2 v61).bind fun r73 => some r73)
def Fimpl_List (k : Nat) (a0 : List (List UInt8)) : Option (List UInt8) := (Fimpl_Var k (a0.length : Int)).bind fun r1 => cond (decide (([108] : List UInt8).length + r1.length ≤ 9223372036854775807)) (Fimpl_List.l2 k (([108] : List UInt8) ++ r1) a0 (a0.length : Int) (0 : Int)) none
theorem ent228 : Enters Try.prog 228 := ⟨Try.f228, Try.func228, rfl, by decide⟩
set_option maxHeartbeats 8000000 in
set_option maxRecDepth 100000 in
theorem Fimpl_List_gives (k : Nat) (g0 : Bool) (a0 : List (List UInt8)) (r : List UInt8) (H : Fimpl_List k a0 = some r) : Gives Try.prog 228 [V.one (Cell.sl g0 (List.map eS a0))] [] [V.one (cS r)] [] := by
  refine Gives.intro Try.func228 rfl rfl rfl rfl ?_
  intro F hF hm
  unfold Fimpl_List at H
  obtain ⟨K, hK⟩ : ∃ K, k ≤ K := ⟨k, Nat.le_refl k⟩
  refine WpC.seq ?_
  refine WpC.regionL ?_
  refine L.assign hF rfl rfl rfl ?_
  refine L.nil ?_
  refine WpC.seq ?_
  refine WpC.regionL ?_
  refine L.move hF rfl rfl rfl ?_
  refine L.lenR (xs := a0) (e := eS) Try.underlying120 hF rfl rfl rfl rfl ?_
  obtain ⟨r1, hr1, H⟩ := bindS H
  refine L.call [false] [] [] 1 hF rfl rfl rfl ent124 rfl rfl rfl rfl rfl (Fimpl_Var_gives k  (a0.length : Int) r1 hr1) rfl ?_
  obtain ⟨h2, H⟩ := condG H
  refine L.catS hF rfl rfl rfl rfl (of_decide_eq_true h2) ?_
  refine L.assign hF rfl rfl rfl ?_
  refine L.nil ?_
  refine WpC.seq ?_
  refine WpC.seq ?_
  refine WpC.regionL ?_
  refine L.move hF rfl rfl rfl ?_
  refine L.lenR (xs := a0) (e := eS) Try.underlying120 hF rfl rfl rfl rfl ?_
  refine L.move hF rfl rfl rfl ?_
  refine L.nil ?_
  refine WpC.block ?_
  refine WpC.loopL (P := Try.prog) (fun n σ => ∃ v61 : List UInt8, ∃ v62 : List (List UInt8), ∃ v63 : Int, ∃ v64 : Int, n ≤ K ∧ Fimpl_List.l2 n v61 v62 v63 v64 = some r ∧ σ = mkSt [(3, one (cS v61)), (10, one (Cell.sl g0 (List.map eS v62))), (11, one (cI v63)), (12, one (cI v64))] [] [] 0) k ⟨_, ⟨(([108] : List UInt8) ++ r1), a0, (a0.length : Int), (0 : Int), by omega, H, rfl⟩, Le.mk [] hm rfl ⟨⟨_, rfl, rfl⟩, ⟨_, rfl, rfl⟩, ⟨_, rfl, rfl⟩, ⟨_, rfl, rfl⟩, trivial⟩ trivial trivial⟩ ?_
  clear H
  rintro k2 _ ⟨v61, v62, v63, v64, hk2, H, rfl⟩
  cases k2 with
  | zero => cases H
  | succ k2 =>
    rw [Fimpl_List.l2] at H
    refine WpC.seq ?_
    refine WpC.regionL ?_
    refine L.bin hF rfl rfl rfl rfl rfl rfl ?_
    refine L.nil ?_
    refine WpC.seq ?_
    refine WpC.cond rfl (fun hc => ?_) (fun hc => ?_)
    · replace H := condT hc H
      refine WpC.skip ?_
      refine WpC.seq ?_
      refine WpC.block ?_
      refine WpC.seq ?_
      refine WpC.regionL ?_
      obtain ⟨b69, hb69, H⟩ := bindS H
      refine L.idxR (xs := v62) (e := eS) Try.underlying120 info9 hF rfl rfl rfl rfl rfl hb69 rfl rfl ?_
      refine L.loadPe shape9 hF rfl rfl rfl rfl rfl ?_
      refine L.assign hF rfl rfl rfl ?_
      refine L.nil ?_
      refine WpC.seq ?_
      refine WpC.seq ?_
      refine WpC.regionL ?_
      refine L.move hF rfl rfl rfl ?_
      obtain ⟨r71, hr71, H⟩ := bindS H
      refine L.call [false] [] [] 0 hF rfl rfl rfl ent274 rfl rfl rfl rfl rfl (Fimpl_TermOk_gives k2  b69 r71 hr71) rfl ?_
      refine L.not hF rfl rfl rfl ?_
      refine L.nil ?_
      refine WpC.cond rfl (fun hc => ?_) (fun hc => ?_)
      · replace H := condT hc H
        refine WpC.seq ?_
        refine WpC.regionL ?_
        refine L.assign hF rfl rfl rfl ?_
        refine L.nil ?_
        refine WpC.ret ?_
        cases H
        exact Leaves.ret rfl rfl rfl ⟨rfl, rfl⟩
      · replace H := condF hc H
        refine WpC.skip ?_
        refine WpC.regionL ?_
        refine L.move hF rfl rfl rfl ?_
        refine L.move hF rfl rfl rfl ?_
        obtain ⟨h72, H⟩ := condG H
        refine L.catS hF rfl rfl rfl rfl (of_decide_eq_true h72) ?_
        refine L.assign hF rfl rfl rfl ?_
        refine L.nil ?_
        refine WpC.regionL ?_
        refine L.bin hF rfl rfl rfl rfl rfl rfl ?_
        refine L.move hF rfl rfl rfl ?_
        refine L.nil ?_
        exact ⟨k2, _, by omega, ⟨(v61 ++ b69), v62, v63, (IntKind.i64.wrap (v64 + (1 : Int))), by omega, H, rfl⟩, Le.mk [] hm rfl ⟨⟨_, rfl, rfl⟩, ⟨_, rfl, rfl⟩, ⟨_, rfl, rfl⟩, ⟨_, rfl, rfl⟩, trivial⟩ trivial trivial⟩
    · replace H := condF hc H
      refine WpC.exit ?_
      refine WpC.seq ?_
      refine WpC.regionL ?_
      refine L.move hF rfl rfl rfl ?_
      obtain ⟨r73, hr73, H⟩ := bindS H
      refine L.call [false] [] [] 0 hF rfl rfl rfl ent275 rfl rfl rfl rfl rfl (Fimpl_term_gives k2  v61 r73 hr73) rfl ?_
      refine L.assign hF rfl rfl rfl ?_
      refine L.nil ?_
      refine WpC.ret ?_
      cases H
      exact Leaves.ret rfl rfl rfl ⟨rfl, rfl⟩
/-! ### Fimpl_Nums -/
def Fimpl_Nums.l2 : Nat → (List (List UInt8)) → (List Int) → Int → Int → Option (List UInt8)
  | 0, _, _, _, _ => none
  | k2 + 1, v49, v50, v51, v52 => cond (decide (v52 < v51)) ((at? v50 v52).bind fun b56 => (Fimpl_Num k2 b56).bind fun r57 => cond (r57 == ([] : List UInt8)) (some ([] : List UInt8)) (cond (decide ((2 * (v49.length + ([r57] : List (List UInt8)).length) + 192) * 16 ≤ 281474976710656)) ((Fimpl_Nums.l2 k2) (v49 ++ ([r57] : List (List UInt8))) v50 v51 (IntKind.i64.wrap (v52 + (1 : Int)))) none)) ((Fimpl_List k2 v49).bind fun r59 => some r59)
def Fimpl_Nums (k : Nat) (a0 : List Int) : Option (List UInt8) := Fimpl_Nums.l2 k ([] : List (List UInt8)) a0 (a0.length : Int) (0 : Int)
theorem ent140 : Enters Try.prog 140 := ⟨Try.f140, Try.func140, rfl, by decide⟩
set_option maxHeartbeats 8000000 in
set_option maxRecDepth 100000 in
theorem Fimpl_Nums_gives (k : Nat) (g0 : Bool) (a0 : List Int) (r : List UInt8) (H : Fimpl_Nums k a0 = some r) : Gives Try.prog 140 [V.one (Cell.sl g0 (List.map eI a0))] [] [V.one (cS r)] [] := by
  refine Gives.intro Try.func140 rfl rfl rfl rfl ?_
  intro F hF hm
  unfold Fimpl_Nums at H
  obtain ⟨K, hK⟩ : ∃ K, k ≤ K := ⟨k, Nat.le_refl k⟩
  refine WpC.seq ?_
  refine WpC.regionL ?_
  refine L.assign hF rfl rfl rfl ?_
  refine L.nil ?_
  refine WpC.seq ?_
  refine WpC.regionL ?_
  refine L.buildSlice (e := eS) 1 ([] : List (List UInt8)) Try.underlying120 info9 rfl rfl rfl hF rfl rfl rfl rfl rfl rfl rfl rfl ?_
  refine L.assign hF rfl rfl rfl ?_
  refine L.nil ?_
  refine WpC.seq ?_
  refine WpC.seq ?_
  refine WpC.regionL ?_
  refine L.move hF rfl rfl rfl ?_
  refine L.lenR (xs := a0) (e := eI) Try.underlying24 hF rfl rfl rfl rfl ?_
  refine L.move hF rfl rfl rfl ?_
  refine L.nil ?_
  refine WpC.block ?_
  refine WpC.loopL (P := Try.prog) (fun n σ => ∃ v49 : List (List UInt8), ∃ v50 : List Int, ∃ v51 : Int, ∃ v52 : Int, n ≤ K ∧ Fimpl_Nums.l2 n v49 v50 v51 v52 = some r ∧ σ = mkSt [(3, one (Cell.own 0)), (8, one (Cell.sl g0 (List.map eI v50))), (9, one (cI v51)), (10, one (cI v52))] [(0, ⟨1, List.map eS v49⟩)] [] 1) k ⟨_, ⟨([] : List (List UInt8)), a0, (a0.length : Int), (0 : Int), by omega, H, rfl⟩, Le.mk [(0, 1)] hm rfl ⟨⟨_, rfl, rfl⟩, ⟨_, rfl, rfl⟩, ⟨_, rfl, rfl⟩, ⟨_, rfl, rfl⟩, trivial⟩ ⟨⟨_, rfl, rfl⟩, trivial⟩ trivial⟩ ?_
  clear H
  rintro k2 _ ⟨v49, v50, v51, v52, hk2, H, rfl⟩
  cases k2 with
  | zero => cases H
  | succ k2 =>
    rw [Fimpl_Nums.l2] at H
    refine WpC.seq ?_
    refine WpC.regionL ?_
    refine L.bin hF rfl rfl rfl rfl rfl rfl ?_
    refine L.nil ?_
    refine WpC.seq ?_
    refine WpC.cond rfl (fun hc => ?_) (fun hc => ?_)
    · replace H := condT hc H
      refine WpC.skip ?_
      refine WpC.seq ?_
      refine WpC.block ?_
      refine WpC.seq ?_
      refine WpC.regionL ?_
      obtain ⟨b56, hb56, H⟩ := bindS H
      refine L.idxR (xs := v50) (e := eI) Try.underlying24 info3 hF rfl rfl rfl rfl rfl hb56 rfl rfl ?_
      refine L.loadPe shape3 hF rfl rfl rfl rfl rfl ?_
      refine L.assign hF rfl rfl rfl ?_
      refine L.nil ?_
      refine WpC.seq ?_
      refine WpC.regionL ?_
      refine L.move hF rfl rfl rfl ?_
      obtain ⟨r57, hr57, H⟩ := bindS H
      refine L.call [false] [] [] 1 hF rfl rfl rfl ent227 rfl rfl rfl rfl rfl (Fimpl_Num_gives k2  b56 r57 hr57) rfl ?_
      refine L.assign hF rfl rfl rfl ?_
      refine L.nil ?_
      refine WpC.seq ?_
      refine WpC.seq ?_
      refine WpC.regionL ?_
      refine L.move hF rfl rfl rfl ?_
      refine L.binS hF rfl rfl rfl rfl rfl ?_
      refine L.nil ?_
      refine WpC.cond rfl (fun hc => ?_) (fun hc => ?_)
      · replace H := condT hc H
        refine WpC.seq ?_
        refine WpC.regionL ?_
        refine L.assign hF rfl rfl rfl ?_
        refine L.nil ?_
        refine WpC.ret ?_
        cases H
        exact Leaves.ret rfl rfl rfl ⟨rfl, rfl⟩
      · replace H := condF hc H
        refine WpC.skip ?_
        refine WpC.regionL ?_
        refine L.move hF rfl rfl rfl ?_
        refine L.move hF rfl rfl rfl ?_
        refine L.buildSlice (e := eS) 2 ([r57] : List (List UInt8)) Try.underlying120 info9 rfl rfl rfl hF rfl rfl rfl rfl rfl rfl rfl rfl ?_
        obtain ⟨h58, H⟩ := condG H
        refine L.append (xs := v49) (ys := ([r57] : List (List UInt8))) (e := eS) 3 Try.underlying120 info9 rfl rfl hF rfl rfl rfl rfl rfl rfl rfl rfl (fun _ => rfl) (fun _ _ h1 h2 => by cases h1; cases h2; rfl) ⟨_, Try.underlying120⟩ (of_decide_eq_true h58) rfl rfl ?_
        refine L.assign hF rfl rfl rfl ?_
        refine L.nil ?_
        refine WpC.regionL ?_
        refine L.bin hF rfl rfl rfl rfl rfl rfl ?_
        refine L.move hF rfl rfl rfl ?_
        refine L.nil ?_
        exact ⟨k2, _, by omega, ⟨(v49 ++ ([r57] : List (List UInt8))), v50, v51, (IntKind.i64.wrap (v52 + (1 : Int))), by omega, H, rfl⟩, Le.mk [(0, 3)] hm rfl ⟨⟨_, rfl, rfl⟩, ⟨_, rfl, rfl⟩, ⟨_, rfl, rfl⟩, ⟨_, rfl, rfl⟩, trivial⟩ ⟨⟨_, rfl, rfl⟩, trivial⟩ trivial⟩
    · replace H := condF hc H
      refine WpC.exit ?_
      refine WpC.seq ?_
      refine WpC.regionL ?_
      refine L.move hF rfl rfl rfl ?_
      obtain ⟨r59, hr59, H⟩ := bindS H
      refine L.call [false] [0] [] 1 hF rfl rfl rfl ent228 rfl rfl rfl rfl rfl (Fimpl_List_gives k2 false v49 r59 hr59) rfl ?_
      refine L.assign hF rfl rfl rfl ?_
      refine L.nil ?_
      refine WpC.ret ?_
      cases H
      exact Leaves.ret rfl rfl rfl ⟨rfl, rfl⟩
/-! ### Fimpl_ShowTimes -/
def Fimpl_ShowTimes (k : Nat) (a0 : Timpl_Times) : Option (List UInt8) := (Fimpl_TimesOk k a0).bind fun r2 => cond (!r2) (some ([] : List UInt8)) ((Fimpl_Nums k ([a0.Auth, a0.Start, a0.End, a0.Renew] : List Int)).bind fun r3 => some r3)
theorem ent63 : Enters Try.prog 63 := ⟨Try.f63, Try.func63, rfl, by decide⟩
set_option maxHeartbeats 8000000 in
set_option maxRecDepth 100000 in
theorem Fimpl_ShowTimes_gives (k : Nat) (a0 : Timpl_Times) (r : List UInt8) (H : Fimpl_ShowTimes k a0 = some r) : Gives Try.prog 63 [V.agg [cI a0.Auth, cI a0.Start, cI a0.End, cI a0.Renew]] [] [V.one (cS r)] [] := by
  refine Gives.intro Try.func63 rfl rfl rfl rfl ?_
  intro F hF hm
  unfold Fimpl_ShowTimes at H
  obtain ⟨K, hK⟩ : ∃ K, k ≤ K := ⟨k, Nat.le_refl k⟩
  refine WpC.seq ?_
  refine WpC.regionL ?_
  refine L.box 4 hF rfl rfl rfl rfl ?_
  refine L.assign hF rfl rfl rfl ?_
  refine L.nil ?_
  refine WpC.seq ?_
  refine WpC.seq ?_
  refine WpC.regionL ?_
  refine L.loadPtr shape65 hF rfl rfl rfl rfl rfl rfl ?_
  obtain ⟨r2, hr2, H⟩ := bindS H
  refine L.call [false] [] [] 5 hF rfl rfl rfl ent139 rfl rfl rfl rfl rfl (Fimpl_TimesOk_gives k  a0 r2 hr2) rfl ?_
  refine L.not hF rfl rfl rfl ?_
  refine L.nil ?_
  refine WpC.cond rfl (fun hc => ?_) (fun hc => ?_)
  · replace H := condT hc H
    refine WpC.seq ?_
    refine WpC.regionL ?_
    refine L.assign hF rfl rfl rfl ?_
    refine L.nil ?_
    refine WpC.ret ?_
    cases H
    exact Leaves.ret rfl rfl rfl ⟨rfl, rfl⟩
  · replace H := condF hc H
    refine WpC.skip ?_
    refine WpC.seq ?_
    refine WpC.regionL ?_
    refine L.fieldAddr Try.underlying65 rfl info3 rfl hF rfl rfl rfl rfl rfl ?_
    refine L.loadPtr shape3 hF rfl rfl rfl rfl rfl rfl ?_
    refine L.fieldAddr Try.underlying65 rfl info3 rfl hF rfl rfl rfl rfl rfl ?_
    refine L.loadPtr shape3 hF rfl rfl rfl rfl rfl rfl ?_
    refine L.fieldAddr Try.underlying65 rfl info3 rfl hF rfl rfl rfl rfl rfl ?_
    refine L.loadPtr shape3 hF rfl rfl rfl rfl rfl rfl ?_
    refine L.fieldAddr Try.underlying65 rfl info3 rfl hF rfl rfl rfl rfl rfl ?_
    refine L.loadPtr shape3 hF rfl rfl rfl rfl rfl rfl ?_
    refine L.buildSlice (e := eI) 6 ([a0.Auth, a0.Start, a0.End, a0.Renew] : List Int) Try.underlying24 info3 rfl rfl rfl hF rfl rfl rfl rfl rfl rfl rfl rfl ?_
    obtain ⟨r3, hr3, H⟩ := bindS H
    refine L.call [false] [6] [] 7 hF rfl rfl rfl ent140 rfl rfl rfl rfl rfl (Fimpl_Nums_gives k false ([a0.Auth, a0.Start, a0.End, a0.Renew] : List Int) r3 hr3) rfl ?_
    refine L.assign hF rfl rfl rfl ?_
    refine L.nil ?_
    refine WpC.ret ?_
    cases H
    exact Leaves.ret rfl rfl rfl ⟨rfl, rfl⟩
/-! ### Fimpl_ReadTimes -/
def Fimpl_ReadTimes (k : Nat) (a0 : List UInt8) : Option (Timpl_Times × Bool) := (Fimpl_ReadNums k a0).bind fun r1 => cond ((r1.1.length : Int) != (4 : Int)) (some ((⟨(0 : Int), (0 : Int), (0 : Int), (0 : Int)⟩ : Timpl_Times), false)) ((at? r1.1 (0 : Int)).bind fun b2 => (at? r1.1 (1 : Int)).bind fun b3 => (at? r1.1 (2 : Int)).bind fun b4 => (at? r1.1 (3 : Int)).bind fun b5 => (Fimpl_ShowTimes k (⟨b2, b3, b4, b5⟩ : Timpl_Times)).bind fun r7 => cond (r7 != a0) (some ((⟨(0 : Int), (0 : Int), (0 : Int), (0 : Int)⟩ : Timpl_Times), false)) (some ((⟨b2, b3, b4, b5⟩ : Timpl_Times), true)))
theorem ent58 : Enters Try.prog 58 := ⟨Try.f58, Try.func58, rfl, by decide⟩
set_option maxHeartbeats 8000000 in
set_option maxRecDepth 100000 in
theorem Fimpl_ReadTimes_gives (k : Nat) (a0 : List UInt8) (r : Timpl_Times × Bool) (H : Fimpl_ReadTimes k a0 = some r) : Gives Try.prog 58 [V.one (cS a0)] [] [V.agg [cI r.1.Auth, cI r.1.Start, cI r.1.End, cI r.1.Renew], V.one (cL r.2)] [] := by
  refine Gives.intro Try.func58 rfl rfl rfl rfl ?_
  intro F hF hm
  unfold Fimpl_ReadTimes at H
  obtain ⟨K, hK⟩ : ∃ K, k ≤ K := ⟨k, Nat.le_refl k⟩
  refine WpC.seq ?_
  refine WpC.regionL ?_
  refine L.alloc 1 info65 rfl hF rfl rfl rfl rfl ?_
  refine L.assign hF rfl rfl rfl ?_
  refine L.nil ?_
  refine WpC.seq ?_
  refine WpC.regionL ?_
  refine L.move hF rfl rfl rfl ?_
  obtain ⟨r1, hr1, H⟩ := bindS H
  refine L.call [false] [] [] 2 hF rfl rfl rfl ent136 rfl rfl rfl rfl rfl (Fimpl_ReadNums_gives k  a0 r1 hr1) rfl ?_
  refine L.move hF rfl rfl rfl ?_
  refine L.extract hF rfl rfl rfl rfl ?_
  refine L.extract hF rfl rfl rfl rfl ?_
  refine L.assign hF rfl rfl rfl ?_
  refine L.assign hF rfl rfl rfl ?_
  refine L.nil ?_
  refine WpC.seq ?_
  refine WpC.seq ?_
  refine WpC.regionL ?_
  refine L.move hF rfl rfl rfl ?_
  refine L.lenR (xs := r1.1) (e := eI) Try.underlying24 hF rfl rfl rfl rfl ?_
  refine L.bin hF rfl rfl rfl rfl rfl rfl ?_
  refine L.nil ?_
  refine WpC.cond rfl (fun hc => ?_) (fun hc => ?_)
  · replace H := condT hc H
    refine WpC.seq ?_
    refine WpC.regionL ?_
    refine L.buildF built65 hF rfl rfl rfl rfl ?_
    refine L.storePtr shape65 hF rfl rfl rfl rfl rfl rfl rfl ?_
    refine L.assign hF rfl rfl rfl ?_
    refine L.nil ?_
    refine WpC.ret ?_
    cases H
    exact Leaves.ret rfl rfl rfl ⟨rfl, rfl⟩
  · replace H := condF hc H
    refine WpC.skip ?_
    refine WpC.seq ?_
    obtain ⟨b2, hb2, H⟩ := bindS H
    obtain ⟨b3, hb3, H⟩ := bindS H
    obtain ⟨b4, hb4, H⟩ := bindS H
    obtain ⟨b5, hb5, H⟩ := bindS H
    refine A.begin mixed rfl rfl ?_
    intro W hI hO
    have n32767 : W 0 #[true, true, true, true, true, true, true, true, true, true, true, true, true, true, true] (mkSt [(0, one (cS a0)), (2, one (Cell.ptr 0 0)), (6, one (Cell.ptr 1 0))] [] [(0, [cI (0 : Int), cI (0 : Int), cI (0 : Int), cI (0 : Int)]), (1, [cI b2, cI b3, cI b4, cI b5])] 2) := by
      refine hI _ _ _ (A.done (by kernel_rfl) ?_)
      refine WpC.seq ?_
      refine WpC.seq ?_
      refine WpC.regionL ?_
      refine L.loadPtr shape65 hF rfl rfl rfl rfl rfl rfl ?_
      obtain ⟨r7, hr7, H⟩ := bindS H
      refine L.call [false] [] [] 2 hF rfl rfl rfl ent63 rfl rfl rfl rfl rfl (Fimpl_ShowTimes_gives k  (⟨b2, b3, b4, b5⟩ : Timpl_Times) r7 hr7) rfl ?_
      refine L.move hF rfl rfl rfl ?_
      refine L.binS hF rfl rfl rfl rfl rfl ?_
      refine L.nil ?_
      refine WpC.cond rfl (fun hc => ?_) (fun hc => ?_)
      · replace H := condT hc H
        refine WpC.seq ?_
        refine WpC.regionL ?_
        refine L.buildF built65 hF rfl rfl rfl rfl ?_
        refine L.storePtr shape65 hF rfl rfl rfl rfl rfl rfl rfl ?_
        refine L.assign hF rfl rfl rfl ?_
        refine L.nil ?_
        refine WpC.ret ?_
        cases H
        exact Leaves.ret rfl rfl rfl ⟨rfl, rfl⟩
      · replace H := condF hc H
        refine WpC.skip ?_
        refine WpC.seq ?_
        refine WpC.regionL ?_
        refine L.loadPtr shape65 hF rfl rfl rfl rfl rfl rfl ?_
        refine L.storePtr shape65 hF rfl rfl rfl rfl rfl rfl rfl ?_
        refine L.assign hF rfl rfl rfl ?_
        refine L.nil ?_
        refine WpC.ret ?_
        cases H
        exact Leaves.ret rfl rfl rfl ⟨rfl, rfl⟩
    have n16383 : W 1 #[true, true, true, true, true, true, true, true, true, true, true, true, true, true, false] (mkSt [(0, one (cS a0)), (2, one (Cell.ptr 0 0)), (6, one (Cell.ptr 1 0)), (28, agg [cI b2, cI b3, cI b4, cI b5])] [] [(0, [cI (0 : Int), cI (0 : Int), cI (0 : Int), cI (0 : Int)]), (1, [cI (0 : Int), cI (0 : Int), cI (0 : Int), cI (0 : Int)])] 2) := by
      refine hI _ _ _ ?_
      refine A.all [14] (by kernel_rfl) rfl ⟨⟨_, rfl, ?_⟩, trivial⟩
      · refine L.storePtr shape65 hF rfl rfl rfl rfl rfl rfl rfl ?_
        refine L.nil ?_
        exact A.on (hO _ _ _ n32767) (Le.mk [(0, 0), (1, 1)] hm rfl ⟨⟨_, rfl, rfl⟩, ⟨_, rfl, rfl⟩, ⟨_, rfl, rfl⟩, trivial⟩ trivial ⟨⟨_, _, rfl, rfl, rfl⟩, ⟨_, _, rfl, rfl, rfl⟩, trivial⟩)
    have n8191 : W 2 #[true, true, true, true, true, true, true, true, true, true, true, true, true, false, false] (mkSt [(0, one (cS a0)), (2, one (Cell.ptr 0 0)), (28, agg [cI b2, cI b3, cI b4, cI b5])] [] [(0, [cI (0 : Int), cI (0 : Int), cI (0 : Int), cI (0 : Int)])] 1) := by
      refine hI _ _ _ ?_
      refine A.all [13] (by kernel_rfl) rfl ⟨⟨_, rfl, ?_⟩, trivial⟩
      · refine L.alloc 1 info65 rfl hF rfl rfl rfl rfl ?_
        refine L.nil ?_
        exact A.on (hO _ _ _ n16383) (Le.mk [(0, 0), (1, 1)] hm rfl ⟨⟨_, rfl, rfl⟩, ⟨_, rfl, rfl⟩, ⟨_, rfl, rfl⟩, ⟨_, rfl, rfl⟩, trivial⟩ trivial ⟨⟨_, _, rfl, rfl, rfl⟩, ⟨_, _, rfl, rfl, rfl⟩, trivial⟩)
    have n12287 : W 2 #[true, true, true, true, true, true, true, true, true, true, true, true, false, true, false] (mkSt [(0, one (cS a0)), (2, one (Cell.ptr 0 0)), (6, one (Cell.ptr 1 0)), (18, one (cI b2)), (21, one (cI b3)), (24, one (cI b4)), (27, one (cI b5))] [] [(0, [cI (0 : Int), cI (0 : Int), cI (0 : Int), cI (0 : Int)]), (1, [cI (0 : Int), cI (0 : Int), cI (0 : Int), cI (0 : Int)])] 2) := by
      refine hI _ _ _ ?_
      refine A.take 12 rfl (by kernel_rfl) (by kernel_rfl) (by kernel_rfl) rfl (Ca.build rfl (by rw [built65]; rfl)) (fun Q0 k0 => L.buildF built65 hF rfl rfl rfl rfl (L.nil k0)) ?_
      exact A.on (hO _ _ _ n16383) (Le.mk [(0, 0), (1, 1)] hm rfl ⟨⟨_, rfl, rfl⟩, ⟨_, rfl, rfl⟩, ⟨_, rfl, rfl⟩, ⟨_, rfl, rfl⟩, trivial⟩ trivial ⟨⟨_, _, rfl, rfl, rfl⟩, ⟨_, _, rfl, rfl, rfl⟩, trivial⟩)
    have n10239 : W 3 #[true, true, true, true, true, true, true, true, true, true, true, false, false, true, false] (mkSt [(0, one (cS a0)), (2, one (Cell.ptr 0 0)), (6, one (Cell.ptr 1 0)), (18, one (cI b2)), (21, one (cI b3)), (24, one (cI b4)), (26, one (Cell.ep 2 ((3 : Int).toNat) 0))] [(2, ⟨1, List.map eI r1.1⟩)] [(0, [cI (0 : Int), cI (0 : Int), cI (0 : Int), cI (0 : Int)]), (1, [cI (0 : Int), cI (0 : Int), cI (0 : Int), cI (0 : Int)])] 3) := by
      refine hI _ _ _ ?_
      refine A.all [11] (by kernel_rfl) rfl ⟨⟨_, rfl, ?_⟩, trivial⟩
      · refine L.loadEp (xs := r1.1) (e := eI) shape3 hF rfl rfl rfl rfl (at?_get hb5).2 rfl rfl ?_
        refine L.nil ?_
        exact A.on (hO _ _ _ n12287) (Le.mk [(0, 0), (1, 1)] hm rfl ⟨⟨_, rfl, rfl⟩, ⟨_, rfl, rfl⟩, ⟨_, rfl, rfl⟩, ⟨_, rfl, rfl⟩, ⟨_, rfl, rfl⟩, ⟨_, rfl, rfl⟩, ⟨_, rfl, rfl⟩, trivial⟩ trivial ⟨⟨_, _, rfl, rfl, rfl⟩, ⟨_, _, rfl, rfl, rfl⟩, trivial⟩)
    have n12255 : W 3 #[true, true, true, true, true, false, true, true, true, true, true, true, false, true, false] (mkSt [(0, one (cS a0)), (2, one (Cell.ptr 0 0)), (6, one (Cell.ptr 1 0)), (18, one (cI b2)), (20, one (Cell.ep 2 ((1 : Int).toNat) 0)), (24, one (cI b4)), (27, one (cI b5))] [(2, ⟨1, List.map eI r1.1⟩)] [(0, [cI (0 : Int), cI (0 : Int), cI (0 : Int), cI (0 : Int)]), (1, [cI (0 : Int), cI (0 : Int), cI (0 : Int), cI (0 : Int)])] 3) := by
      refine hI _ _ _ ?_
      refine A.all [5] (by kernel_rfl) rfl ⟨⟨_, rfl, ?_⟩, trivial⟩
      · refine L.loadEp (xs := r1.1) (e := eI) shape3 hF rfl rfl rfl rfl (at?_get hb3).2 rfl rfl ?_
        refine L.nil ?_
        exact A.on (hO _ _ _ n12287) (Le.mk [(0, 0), (1, 1)] hm rfl ⟨⟨_, rfl, rfl⟩, ⟨_, rfl, rfl⟩, ⟨_, rfl, rfl⟩, ⟨_, rfl, rfl⟩, ⟨_, rfl, rfl⟩, ⟨_, rfl, rfl⟩, ⟨_, rfl, rfl⟩, trivial⟩ trivial ⟨⟨_, _, rfl, rfl, rfl⟩, ⟨_, _, rfl, rfl, rfl⟩, trivial⟩)
    have n12283 : W 3 #[true, true, false, true, true, true, true, true, true, true, true, true, false, true, false] (mkSt [(0, one (cS a0)), (2, one (Cell.ptr 0 0)), (6, one (Cell.ptr 1 0)), (17, one (Cell.ep 2 ((0 : Int).toNat) 0)), (21, one (cI b3)), (24, one (cI b4)), (27, one (cI b5))] [(2, ⟨1, List.map eI r1.1⟩)] [(0, [cI (0 : Int), cI (0 : Int), cI (0 : Int), cI (0 : Int)]), (1, [cI (0 : Int), cI (0 : Int), cI (0 : Int), cI (0 : Int)])] 3) := by
      refine hI _ _ _ ?_
      refine A.all [2] (by kernel_rfl) rfl ⟨⟨_, rfl, ?_⟩, trivial⟩
      · refine L.loadEp (xs := r1.1) (e := eI) shape3 hF rfl rfl rfl rfl (at?_get hb2).2 rfl rfl ?_
        refine L.nil ?_
        exact A.on (hO _ _ _ n12287) (Le.mk [(0, 0), (1, 1)] hm rfl ⟨⟨_, rfl, rfl⟩, ⟨_, rfl, rfl⟩, ⟨_, rfl, rfl⟩, ⟨_, rfl, rfl⟩, ⟨_, rfl, rfl⟩, ⟨_, rfl, rfl⟩, ⟨_, rfl, rfl⟩, trivial⟩ trivial ⟨⟨_, _, rfl, rfl, rfl⟩, ⟨_, _, rfl, rfl, rfl⟩, trivial⟩)
    have n4095 : W 3 #[true, true, true, true, true, true, true, true, true, true, true, true, false, false, false] (mkSt [(0, one (cS a0)), (2, one (Cell.ptr 0 0)), (18, one (cI b2)), (21, one (cI b3)), (24, one (cI b4)), (27, one (cI b5))] [] [(0, [cI (0 : Int), cI (0 : Int), cI (0 : Int), cI (0 : Int)])] 1) := by
      refine hI _ _ _ ?_
      refine A.take 12 rfl (by kernel_rfl) (by kernel_rfl) (by kernel_rfl) rfl (Ca.build rfl (by rw [built65]; rfl)) (fun Q0 k0 => L.buildF built65 hF rfl rfl rfl rfl (L.nil k0)) ?_
      exact A.on (hO _ _ _ n8191) (Le.mk [(0, 0)] hm rfl ⟨⟨_, rfl, rfl⟩, ⟨_, rfl, rfl⟩, ⟨_, rfl, rfl⟩, trivial⟩ trivial ⟨⟨_, _, rfl, rfl, rfl⟩, trivial⟩)
    have n12031 : W 3 #[true, true, true, true, true, true, true, true, false, true, true, true, false, true, false] (mkSt [(0, one (cS a0)), (2, one (Cell.ptr 0 0)), (6, one (Cell.ptr 1 0)), (18, one (cI b2)), (21, one (cI b3)), (23, one (Cell.ep 2 ((2 : Int).toNat) 0)), (27, one (cI b5))] [(2, ⟨1, List.map eI r1.1⟩)] [(0, [cI (0 : Int), cI (0 : Int), cI (0 : Int), cI (0 : Int)]), (1, [cI (0 : Int), cI (0 : Int), cI (0 : Int), cI (0 : Int)])] 3) := by
      refine hI _ _ _ ?_
      refine A.all [8] (by kernel_rfl) rfl ⟨⟨_, rfl, ?_⟩, trivial⟩
      · refine L.loadEp (xs := r1.1) (e := eI) shape3 hF rfl rfl rfl rfl (at?_get hb4).2 rfl rfl ?_
        refine L.nil ?_
        exact A.on (hO _ _ _ n12287) (Le.mk [(0, 0), (1, 1)] hm rfl ⟨⟨_, rfl, rfl⟩, ⟨_, rfl, rfl⟩, ⟨_, rfl, rfl⟩, ⟨_, rfl, rfl⟩, ⟨_, rfl, rfl⟩, ⟨_, rfl, rfl⟩, ⟨_, rfl, rfl⟩, trivial⟩ trivial ⟨⟨_, _, rfl, rfl, rfl⟩, ⟨_, _, rfl, rfl, rfl⟩, trivial⟩)
    have n10207 : W 4 #[true, true, true, true, true, false, true, true, true, true, true, false, false, true, false] (mkSt [(0, one (cS a0)), (2, one (Cell.ptr 0 0)), (6, one (Cell.ptr 1 0)), (18, one (cI b2)), (20, one (Cell.ep 2 ((1 : Int).toNat) 0)), (24, one (cI b4)), (26, one (Cell.ep 2 ((3 : Int).toNat) 0))] [(2, ⟨1, List.map eI r1.1⟩)] [(0, [cI (0 : Int), cI (0 : Int), cI (0 : Int), cI (0 : Int)]), (1, [cI (0 : Int), cI (0 : Int), cI (0 : Int), cI (0 : Int)])] 3) := by
      refine hI _ _ _ ?_
      refine A.all [5, 11] (by kernel_rfl) rfl ⟨⟨_, rfl, ?_⟩, ⟨_, rfl, ?_⟩, trivial⟩
      · refine L.loadEp (xs := r1.1) (e := eI) shape3 hF rfl rfl rfl rfl (at?_get hb3).2 rfl rfl ?_
        refine L.nil ?_
        exact A.on (hO _ _ _ n10239) (Le.mk [(0, 0), (1, 1), (2, 2)] hm rfl ⟨⟨_, rfl, rfl⟩, ⟨_, rfl, rfl⟩, ⟨_, rfl, rfl⟩, ⟨_, rfl, rfl⟩, ⟨_, rfl, rfl⟩, ⟨_, rfl, rfl⟩, ⟨_, rfl, rfl⟩, trivial⟩ ⟨⟨_, rfl, rfl⟩, trivial⟩ ⟨⟨_, _, rfl, rfl, rfl⟩, ⟨_, _, rfl, rfl, rfl⟩, trivial⟩)
      · refine L.loadEp (xs := r1.1) (e := eI) shape3 hF rfl rfl rfl rfl (at?_get hb5).2 rfl rfl ?_
        refine L.nil ?_
        exact A.on (hO _ _ _ n12255) (Le.mk [(0, 0), (1, 1), (2, 2)] hm rfl ⟨⟨_, rfl, rfl⟩, ⟨_, rfl, rfl⟩, ⟨_, rfl, rfl⟩, ⟨_, rfl, rfl⟩, ⟨_, rfl, rfl⟩, ⟨_, rfl, rfl⟩, ⟨_, rfl, rfl⟩, trivial⟩ ⟨⟨_, rfl, rfl⟩, trivial⟩ ⟨⟨_, _, rfl, rfl, rfl⟩, ⟨_, _, rfl, rfl, rfl⟩, trivial⟩)
    have n10235 : W 4 #[true, true, false, true, true, true, true, true, true, true, true, false, false, true, false] (mkSt [(0, one (cS a0)), (2, one (Cell.ptr 0 0)), (6, one (Cell.ptr 1 0)), (17, one (Cell.ep 2 ((0 : Int).toNat) 0)), (21, one (cI b3)), (24, one (cI b4)), (26, one (Cell.ep 2 ((3 : Int).toNat) 0))] [(2, ⟨1, List.map eI r1.1⟩)] [(0, [cI (0 : Int), cI (0 : Int), cI (0 : Int), cI (0 : Int)]), (1, [cI (0 : Int), cI (0 : Int), cI (0 : Int), cI (0 : Int)])] 3) := by
      refine hI _ _ _ ?_
      refine A.all [2, 11] (by kernel_rfl) rfl ⟨⟨_, rfl, ?_⟩, ⟨_, rfl, ?_⟩, trivial⟩
      · refine L.loadEp (xs := r1.1) (e := eI) shape3 hF rfl rfl rfl rfl (at?_get hb2).2 rfl rfl ?_
        refine L.nil ?_
        exact A.on (hO _ _ _ n10239) (Le.mk [(0, 0), (1, 1), (2, 2)] hm rfl ⟨⟨_, rfl, rfl⟩, ⟨_, rfl, rfl⟩, ⟨_, rfl, rfl⟩, ⟨_, rfl, rfl⟩, ⟨_, rfl, rfl⟩, ⟨_, rfl, rfl⟩, ⟨_, rfl, rfl⟩, trivial⟩ ⟨⟨_, rfl, rfl⟩, trivial⟩ ⟨⟨_, _, rfl, rfl, rfl⟩, ⟨_, _, rfl, rfl, rfl⟩, trivial⟩)
      · refine L.loadEp (xs := r1.1) (e := eI) shape3 hF rfl rfl rfl rfl (at?_get hb5).2 rfl rfl ?_
        refine L.nil ?_
        exact A.on (hO _ _ _ n12283) (Le.mk [(0, 0), (1, 1), (2, 2)] hm rfl ⟨⟨_, rfl, rfl⟩, ⟨_, rfl, rfl⟩, ⟨_, rfl, rfl⟩, ⟨_, rfl, rfl⟩, ⟨_, rfl, rfl⟩, ⟨_, rfl, rfl⟩, ⟨_, rfl, rfl⟩, trivial⟩ ⟨⟨_, rfl, rfl⟩, trivial⟩ ⟨⟨_, _, rfl, rfl, rfl⟩, ⟨_, _, rfl, rfl, rfl⟩, trivial⟩)
    have n9983 : W 4 #[true, true, true, true, true, true, true, true, false, true, true, false, false, true, false] (mkSt [(0, one (cS a0)), (2, one (Cell.ptr 0 0)), (6, one (Cell.ptr 1 0)), (18, one (cI b2)), (21, one (cI b3)), (23, one (Cell.ep 2 ((2 : Int).toNat) 0)), (26, one (Cell.ep 2 ((3 : Int).toNat) 0))] [(2, ⟨1, List.map eI r1.1⟩)] [(0, [cI (0 : Int), cI (0 : Int), cI (0 : Int), cI (0 : Int)]), (1, [cI (0 : Int), cI (0 : Int), cI (0 : Int), cI (0 : Int)])] 3) := by
      refine hI _ _ _ ?_
      refine A.all [8, 11] (by kernel_rfl) rfl ⟨⟨_, rfl, ?_⟩, ⟨_, rfl, ?_⟩, trivial⟩
      · refine L.loadEp (xs := r1.1) (e := eI) shape3 hF rfl rfl rfl rfl (at?_get hb4).2 rfl rfl ?_
        refine L.nil ?_
        exact A.on (hO _ _ _ n10239) (Le.mk [(0, 0), (1, 1), (2, 2)] hm rfl ⟨⟨_, rfl, rfl⟩, ⟨_, rfl, rfl⟩, ⟨_, rfl, rfl⟩, ⟨_, rfl, rfl⟩, ⟨_, rfl, rfl⟩, ⟨_, rfl, rfl⟩, ⟨_, rfl, rfl⟩, trivial⟩ ⟨⟨_, rfl, rfl⟩, trivial⟩ ⟨⟨_, _, rfl, rfl, rfl⟩, ⟨_, _, rfl, rfl, rfl⟩, trivial⟩)
      · refine L.loadEp (xs := r1.1) (e := eI) shape3 hF rfl rfl rfl rfl (at?_get hb5).2 rfl rfl ?_
        refine L.nil ?_
        exact A.on (hO _ _ _ n12031) (Le.mk [(0, 0), (1, 1), (2, 2)] hm rfl ⟨⟨_, rfl, rfl⟩, ⟨_, rfl, rfl⟩, ⟨_, rfl, rfl⟩, ⟨_, rfl, rfl⟩, ⟨_, rfl, rfl⟩, ⟨_, rfl, rfl⟩, ⟨_, rfl, rfl⟩, trivial⟩ ⟨⟨_, rfl, rfl⟩, trivial⟩ ⟨⟨_, _, rfl, rfl, rfl⟩, ⟨_, _, rfl, rfl, rfl⟩, trivial⟩)
    have n2047 : W 4 #[true, true, true, true, true, true, true, true, true, true, true, false, false, false, false] (mkSt [(0, one (cS a0)), (2, one (Cell.ptr 0 0)), (18, one (cI b2)), (21, one (cI b3)), (24, one (cI b4)), (26, one (Cell.ep 1 ((3 : Int).toNat) 0))] [(1, ⟨1, List.map eI r1.1⟩)] [(0, [cI (0 : Int), cI (0 : Int), cI (0 : Int), cI (0 : Int)])] 2) := by
      refine hI _ _ _ ?_
      refine A.all [11, 13] (by kernel_rfl) rfl ⟨⟨_, rfl, ?_⟩, ⟨_, rfl, ?_⟩, trivial⟩
      · refine L.loadEp (xs := r1.1) (e := eI) shape3 hF rfl rfl rfl rfl (at?_get hb5).2 rfl rfl ?_
        refine L.nil ?_
        exact A.on (hO _ _ _ n4095) (Le.mk [(0, 0)] hm rfl ⟨⟨_, rfl, rfl⟩, ⟨_, rfl, rfl⟩, ⟨_, rfl, rfl⟩, ⟨_, rfl, rfl⟩, ⟨_, rfl, rfl⟩, ⟨_, rfl, rfl⟩, trivial⟩ trivial ⟨⟨_, _, rfl, rfl, rfl⟩, trivial⟩)
      · refine L.alloc 2 info65 rfl hF rfl rfl rfl rfl ?_
        refine L.nil ?_
        exact A.on (hO _ _ _ n10239) (Le.mk [(0, 0), (1, 2), (2, 1)] hm rfl ⟨⟨_, rfl, rfl⟩, ⟨_, rfl, rfl⟩, ⟨_, rfl, rfl⟩, ⟨_, rfl, rfl⟩, ⟨_, rfl, rfl⟩, ⟨_, rfl, rfl⟩, ⟨_, rfl, rfl⟩, trivial⟩ ⟨⟨_, rfl, rfl⟩, trivial⟩ ⟨⟨_, _, rfl, rfl, rfl⟩, ⟨_, _, rfl, rfl, rfl⟩, trivial⟩)
    have n12251 : W 4 #[true, true, false, true, true, false, true, true, true, true, true, true, false, true, false] (mkSt [(0, one (cS a0)), (2, one (Cell.ptr 0 0)), (6, one (Cell.ptr 1 0)), (17, one (Cell.ep 2 ((0 : Int).toNat) 0)), (20, one (Cell.ep 2 ((1 : Int).toNat) 0)), (24, one (cI b4)), (27, one (cI b5))] [(2, ⟨1, List.map eI r1.1⟩)] [(0, [cI (0 : Int), cI (0 : Int), cI (0 : Int), cI (0 : Int)]), (1, [cI (0 : Int), cI (0 : Int), cI (0 : Int), cI (0 : Int)])] 3) := by
      refine hI _ _ _ ?_
      refine A.all [2, 5] (by kernel_rfl) rfl ⟨⟨_, rfl, ?_⟩, ⟨_, rfl, ?_⟩, trivial⟩
      · refine L.loadEp (xs := r1.1) (e := eI) shape3 hF rfl rfl rfl rfl (at?_get hb2).2 rfl rfl ?_
        refine L.nil ?_
        exact A.on (hO _ _ _ n12255) (Le.mk [(0, 0), (1, 1), (2, 2)] hm rfl ⟨⟨_, rfl, rfl⟩, ⟨_, rfl, rfl⟩, ⟨_, rfl, rfl⟩, ⟨_, rfl, rfl⟩, ⟨_, rfl, rfl⟩, ⟨_, rfl, rfl⟩, ⟨_, rfl, rfl⟩, trivial⟩ ⟨⟨_, rfl, rfl⟩, trivial⟩ ⟨⟨_, _, rfl, rfl, rfl⟩, ⟨_, _, rfl, rfl, rfl⟩, trivial⟩)
      · refine L.loadEp (xs := r1.1) (e := eI) shape3 hF rfl rfl rfl rfl (at?_get hb3).2 rfl rfl ?_
        refine L.nil ?_
        exact A.on (hO _ _ _ n12283) (Le.mk [(0, 0), (1, 1), (2, 2)] hm rfl ⟨⟨_, rfl, rfl⟩, ⟨_, rfl, rfl⟩, ⟨_, rfl, rfl⟩, ⟨_, rfl, rfl⟩, ⟨_, rfl, rfl⟩, ⟨_, rfl, rfl⟩, ⟨_, rfl, rfl⟩, trivial⟩ ⟨⟨_, rfl, rfl⟩, trivial⟩ ⟨⟨_, _, rfl, rfl, rfl⟩, ⟨_, _, rfl, rfl, rfl⟩, trivial⟩)
    have n4063 : W 4 #[true, true, true, true, true, false, true, true, true, true, true, true, false, false, false] (mkSt [(0, one (cS a0)), (2, one (Cell.ptr 0 0)), (18, one (cI b2)), (20, one (Cell.ep 1 ((1 : Int).toNat) 0)), (24, one (cI b4)), (27, one (cI b5))] [(1, ⟨1, List.map eI r1.1⟩)] [(0, [cI (0 : Int), cI (0 : Int), cI (0 : Int), cI (0 : Int)])] 2) := by
      refine hI _ _ _ ?_
      refine A.all [5, 13] (by kernel_rfl) rfl ⟨⟨_, rfl, ?_⟩, ⟨_, rfl, ?_⟩, trivial⟩
      · refine L.loadEp (xs := r1.1) (e := eI) shape3 hF rfl rfl rfl rfl (at?_get hb3).2 rfl rfl ?_
        refine L.nil ?_
        exact A.on (hO _ _ _ n4095) (Le.mk [(0, 0)] hm rfl ⟨⟨_, rfl, rfl⟩, ⟨_, rfl, rfl⟩, ⟨_, rfl, rfl⟩, ⟨_, rfl, rfl⟩, ⟨_, rfl, rfl⟩, ⟨_, rfl, rfl⟩, trivial⟩ trivial ⟨⟨_, _, rfl, rfl, rfl⟩, trivial⟩)
      · refine L.alloc 2 info65 rfl hF rfl rfl rfl rfl ?_
        refine L.nil ?_
        exact A.on (hO _ _ _ n12255) (Le.mk [(0, 0), (1, 2), (2, 1)] hm rfl ⟨⟨_, rfl, rfl⟩, ⟨_, rfl, rfl⟩, ⟨_, rfl, rfl⟩, ⟨_, rfl, rfl⟩, ⟨_, rfl, rfl⟩, ⟨_, rfl, rfl⟩, ⟨_, rfl, rfl⟩, trivial⟩ ⟨⟨_, rfl, rfl⟩, trivial⟩ ⟨⟨_, _, rfl, rfl, rfl⟩, ⟨_, _, rfl, rfl, rfl⟩, trivial⟩)
    have n11999 : W 4 #[true, true, true, true, true, false, true, true, false, true, true, true, false, true, false] (mkSt [(0, one (cS a0)), (2, one (Cell.ptr 0 0)), (6, one (Cell.ptr 1 0)), (18, one (cI b2)), (20, one (Cell.ep 2 ((1 : Int).toNat) 0)), (23, one (Cell.ep 2 ((2 : Int).toNat) 0)), (27, one (cI b5))] [(2, ⟨1, List.map eI r1.1⟩)] [(0, [cI (0 : Int), cI (0 : Int), cI (0 : Int), cI (0 : Int)]), (1, [cI (0 : Int), cI (0 : Int), cI (0 : Int), cI (0 : Int)])] 3) := by
      refine hI _ _ _ ?_
      refine A.all [5, 8] (by kernel_rfl) rfl ⟨⟨_, rfl, ?_⟩, ⟨_, rfl, ?_⟩, trivial⟩
      · refine L.loadEp (xs := r1.1) (e := eI) shape3 hF rfl rfl rfl rfl (at?_get hb3).2 rfl rfl ?_
        refine L.nil ?_
        exact A.on (hO _ _ _ n12031) (Le.mk [(0, 0), (1, 1), (2, 2)] hm rfl ⟨⟨_, rfl, rfl⟩, ⟨_, rfl, rfl⟩, ⟨_, rfl, rfl⟩, ⟨_, rfl, rfl⟩, ⟨_, rfl, rfl⟩, ⟨_, rfl, rfl⟩, ⟨_, rfl, rfl⟩, trivial⟩ ⟨⟨_, rfl, rfl⟩, trivial⟩ ⟨⟨_, _, rfl, rfl, rfl⟩, ⟨_, _, rfl, rfl, rfl⟩, trivial⟩)
      · refine L.loadEp (xs := r1.1) (e := eI) shape3 hF rfl rfl rfl rfl (at?_get hb4).2 rfl rfl ?_
        refine L.nil ?_
        exact A.on (hO _ _ _ n12255) (Le.mk [(0, 0), (1, 1), (2, 2)] hm rfl ⟨⟨_, rfl, rfl⟩, ⟨_, rfl, rfl⟩, ⟨_, rfl, rfl⟩, ⟨_, rfl, rfl⟩, ⟨_, rfl, rfl⟩, ⟨_, rfl, rfl⟩, ⟨_, rfl, rfl⟩, trivial⟩ ⟨⟨_, rfl, rfl⟩, trivial⟩ ⟨⟨_, _, rfl, rfl, rfl⟩, ⟨_, _, rfl, rfl, rfl⟩, trivial⟩)
    have n12027 : W 4 #[true, true, false, true, true, true, true, true, false, true, true, true, false, true, false] (mkSt [(0, one (cS a0)), (2, one (Cell.ptr 0 0)), (6, one (Cell.ptr 1 0)), (17, one (Cell.ep 2 ((0 : Int).toNat) 0)), (21, one (cI b3)), (23, one (Cell.ep 2 ((2 : Int).toNat) 0)), (27, one (cI b5))] [(2, ⟨1, List.map eI r1.1⟩)] [(0, [cI (0 : Int), cI (0 : Int), cI (0 : Int), cI (0 : Int)]), (1, [cI (0 : Int), cI (0 : Int), cI (0 : Int), cI (0 : Int)])] 3) := by
      refine hI _ _ _ ?_
      refine A.all [2, 8] (by kernel_rfl) rfl ⟨⟨_, rfl, ?_⟩, ⟨_, rfl, ?_⟩, trivial⟩
      · refine L.loadEp (xs := r1.1) (e := eI) shape3 hF rfl rfl rfl rfl (at?_get hb2).2 rfl rfl ?_
        refine L.nil ?_
        exact A.on (hO _ _ _ n12031) (Le.mk [(0, 0), (1, 1), (2, 2)] hm rfl ⟨⟨_, rfl, rfl⟩, ⟨_, rfl, rfl⟩, ⟨_, rfl, rfl⟩, ⟨_, rfl, rfl⟩, ⟨_, rfl, rfl⟩, ⟨_, rfl, rfl⟩, ⟨_, rfl, rfl⟩, trivial⟩ ⟨⟨_, rfl, rfl⟩, trivial⟩ ⟨⟨_, _, rfl, rfl, rfl⟩, ⟨_, _, rfl, rfl, rfl⟩, trivial⟩)
      · refine L.loadEp (xs := r1.1) (e := eI) shape3 hF rfl rfl rfl rfl (at?_get hb4).2 rfl rfl ?_
        refine L.nil ?_
        exact A.on (hO _ _ _ n12283) (Le.mk [(0, 0), (1, 1), (2, 2)] hm rfl ⟨⟨_, rfl, rfl⟩, ⟨_, rfl, rfl⟩, ⟨_, rfl, rfl⟩, ⟨_, rfl, rfl⟩, ⟨_, rfl, rfl⟩, ⟨_, rfl, rfl⟩, ⟨_, rfl, rfl⟩, trivial⟩ ⟨⟨_, rfl, rfl⟩, trivial⟩ ⟨⟨_, _, rfl, rfl, rfl⟩, ⟨_, _, rfl, rfl, rfl⟩, trivial⟩)
    have n4091 : W 4 #[true, true, false, true, true, true, true, true, true, true, true, true, false, false, false] (mkSt [(0, one (cS a0)), (2, one (Cell.ptr 0 0)), (17, one (Cell.ep 1 ((0 : Int).toNat) 0)), (21, one (cI b3)), (24, one (cI b4)), (27, one (cI b5))] [(1, ⟨1, List.map eI r1.1⟩)] [(0, [cI (0 : Int), cI (0 : Int), cI (0 : Int), cI (0 : Int)])] 2) := by
      refine hI _ _ _ ?_
      refine A.all [2, 13] (by kernel_rfl) rfl ⟨⟨_, rfl, ?_⟩, ⟨_, rfl, ?_⟩, trivial⟩
      · refine L.loadEp (xs := r1.1) (e := eI) shape3 hF rfl rfl rfl rfl (at?_get hb2).2 rfl rfl ?_
        refine L.nil ?_
        exact A.on (hO _ _ _ n4095) (Le.mk [(0, 0)] hm rfl ⟨⟨_, rfl, rfl⟩, ⟨_, rfl, rfl⟩, ⟨_, rfl, rfl⟩, ⟨_, rfl, rfl⟩, ⟨_, rfl, rfl⟩, ⟨_, rfl, rfl⟩, trivial⟩ trivial ⟨⟨_, _, rfl, rfl, rfl⟩, trivial⟩)
      · refine L.alloc 2 info65 rfl hF rfl rfl rfl rfl ?_
        refine L.nil ?_
        exact A.on (hO _ _ _ n12283) (Le.mk [(0, 0), (1, 2), (2, 1)] hm rfl ⟨⟨_, rfl, rfl⟩, ⟨_, rfl, rfl⟩, ⟨_, rfl, rfl⟩, ⟨_, rfl, rfl⟩, ⟨_, rfl, rfl⟩, ⟨_, rfl, rfl⟩, ⟨_, rfl, rfl⟩, trivial⟩ ⟨⟨_, rfl, rfl⟩, trivial⟩ ⟨⟨_, _, rfl, rfl, rfl⟩, ⟨_, _, rfl, rfl, rfl⟩, trivial⟩)
    have n3839 : W 4 #[true, true, true, true, true, true, true, true, false, true, true, true, false, false, false] (mkSt [(0, one (cS a0)), (2, one (Cell.ptr 0 0)), (18, one (cI b2)), (21, one (cI b3)), (23, one (Cell.ep 1 ((2 : Int).toNat) 0)), (27, one (cI b5))] [(1, ⟨1, List.map eI r1.1⟩)] [(0, [cI (0 : Int), cI (0 : Int), cI (0 : Int), cI (0 : Int)])] 2) := by
      refine hI _ _ _ ?_
      refine A.all [8, 13] (by kernel_rfl) rfl ⟨⟨_, rfl, ?_⟩, ⟨_, rfl, ?_⟩, trivial⟩
      · refine L.loadEp (xs := r1.1) (e := eI) shape3 hF rfl rfl rfl rfl (at?_get hb4).2 rfl rfl ?_
        refine L.nil ?_
        exact A.on (hO _ _ _ n4095) (Le.mk [(0, 0)] hm rfl ⟨⟨_, rfl, rfl⟩, ⟨_, rfl, rfl⟩, ⟨_, rfl, rfl⟩, ⟨_, rfl, rfl⟩, ⟨_, rfl, rfl⟩, ⟨_, rfl, rfl⟩, trivial⟩ trivial ⟨⟨_, _, rfl, rfl, rfl⟩, trivial⟩)
      · refine L.alloc 2 info65 rfl hF rfl rfl rfl rfl ?_
        refine L.nil ?_
        exact A.on (hO _ _ _ n12031) (Le.mk [(0, 0), (1, 2), (2, 1)] hm rfl ⟨⟨_, rfl, rfl⟩, ⟨_, rfl, rfl⟩, ⟨_, rfl, rfl⟩, ⟨_, rfl, rfl⟩, ⟨_, rfl, rfl⟩, ⟨_, rfl, rfl⟩, ⟨_, rfl, rfl⟩, trivial⟩ ⟨⟨_, rfl, rfl⟩, trivial⟩ ⟨⟨_, _, rfl, rfl, rfl⟩, ⟨_, _, rfl, rfl, rfl⟩, trivial⟩)
    have n2015 : W 5 #[true, true, true, true, true, false, true, true, true, true, true, false, false, false, false] (mkSt [(0, one (cS a0)), (2, one (Cell.ptr 0 0)), (18, one (cI b2)), (20, one (Cell.ep 1 ((1 : Int).toNat) 0)), (24, one (cI b4)), (26, one (Cell.ep 1 ((3 : Int).toNat) 0))] [(1, ⟨1, List.map eI r1.1⟩)] [(0, [cI (0 : Int), cI (0 : Int), cI (0 : Int), cI (0 : Int)])] 2) := by
      refine hI _ _ _ ?_
      refine A.all [5, 11, 13] (by kernel_rfl) rfl ⟨⟨_, rfl, ?_⟩, ⟨_, rfl, ?_⟩, ⟨_, rfl, ?_⟩, trivial⟩
      · refine L.loadEp (xs := r1.1) (e := eI) shape3 hF rfl rfl rfl rfl (at?_get hb3).2 rfl rfl ?_
        refine L.nil ?_
        exact A.on (hO _ _ _ n2047) (Le.mk [(0, 0), (1, 1)] hm rfl ⟨⟨_, rfl, rfl⟩, ⟨_, rfl, rfl⟩, ⟨_, rfl, rfl⟩, ⟨_, rfl, rfl⟩, ⟨_, rfl, rfl⟩, ⟨_, rfl, rfl⟩, trivial⟩ ⟨⟨_, rfl, rfl⟩, trivial⟩ ⟨⟨_, _, rfl, rfl, rfl⟩, trivial⟩)
      · refine L.loadEp (xs := r1.1) (e := eI) shape3 hF rfl rfl rfl rfl (at?_get hb5).2 rfl rfl ?_
        refine L.nil ?_
        exact A.on (hO _ _ _ n4063) (Le.mk [(0, 0), (1, 1)] hm rfl ⟨⟨_, rfl, rfl⟩, ⟨_, rfl, rfl⟩, ⟨_, rfl, rfl⟩, ⟨_, rfl, rfl⟩, ⟨_, rfl, rfl⟩, ⟨_, rfl, rfl⟩, trivial⟩ ⟨⟨_, rfl, rfl⟩, trivial⟩ ⟨⟨_, _, rfl, rfl, rfl⟩, trivial⟩)
      · refine L.alloc 2 info65 rfl hF rfl rfl rfl rfl ?_
        refine L.nil ?_
        exact A.on (hO _ _ _ n10207) (Le.mk [(0, 0), (1, 2), (2, 1)] hm rfl ⟨⟨_, rfl, rfl⟩, ⟨_, rfl, rfl⟩, ⟨_, rfl, rfl⟩, ⟨_, rfl, rfl⟩, ⟨_, rfl, rfl⟩, ⟨_, rfl, rfl⟩, ⟨_, rfl, rfl⟩, trivial⟩ ⟨⟨_, rfl, rfl⟩, trivial⟩ ⟨⟨_, _, rfl, rfl, rfl⟩, ⟨_, _, rfl, rfl, rfl⟩, trivial⟩)
    have n2043 : W 5 #[true, true, false, true, true, true, true, true, true, true, true, false, false, false, false] (mkSt [(0, one (cS a0)), (2, one (Cell.ptr 0 0)), (17, one (Cell.ep 1 ((0 : Int).toNat) 0)), (21, one (cI b3)), (24, one (cI b4)), (26, one (Cell.ep 1 ((3 : Int).toNat) 0))] [(1, ⟨1, List.map eI r1.1⟩)] [(0, [cI (0 : Int), cI (0 : Int), cI (0 : Int), cI (0 : Int)])] 2) := by
      refine hI _ _ _ ?_
      refine A.all [2, 11, 13] (by kernel_rfl) rfl ⟨⟨_, rfl, ?_⟩, ⟨_, rfl, ?_⟩, ⟨_, rfl, ?_⟩, trivial⟩
      · refine L.loadEp (xs := r1.1) (e := eI) shape3 hF rfl rfl rfl rfl (at?_get hb2).2 rfl rfl ?_
        refine L.nil ?_
        exact A.on (hO _ _ _ n2047) (Le.mk [(0, 0), (1, 1)] hm rfl ⟨⟨_, rfl, rfl⟩, ⟨_, rfl, rfl⟩, ⟨_, rfl, rfl⟩, ⟨_, rfl, rfl⟩, ⟨_, rfl, rfl⟩, ⟨_, rfl, rfl⟩, trivial⟩ ⟨⟨_, rfl, rfl⟩, trivial⟩ ⟨⟨_, _, rfl, rfl, rfl⟩, trivial⟩)
      · refine L.loadEp (xs := r1.1) (e := eI) shape3 hF rfl rfl rfl rfl (at?_get hb5).2 rfl rfl ?_
        refine L.nil ?_
        exact A.on (hO _ _ _ n4091) (Le.mk [(0, 0), (1, 1)] hm rfl ⟨⟨_, rfl, rfl⟩, ⟨_, rfl, rfl⟩, ⟨_, rfl, rfl⟩, ⟨_, rfl, rfl⟩, ⟨_, rfl, rfl⟩, ⟨_, rfl, rfl⟩, trivial⟩ ⟨⟨_, rfl, rfl⟩, trivial⟩ ⟨⟨_, _, rfl, rfl, rfl⟩, trivial⟩)
      · refine L.alloc 2 info65 rfl hF rfl rfl rfl rfl ?_
        refine L.nil ?_
        exact A.on (hO _ _ _ n10235) (Le.mk [(0, 0), (1, 2), (2, 1)] hm rfl ⟨⟨_, rfl, rfl⟩, ⟨_, rfl, rfl⟩, ⟨_, rfl, rfl⟩, ⟨_, rfl, rfl⟩, ⟨_, rfl, rfl⟩, ⟨_, rfl, rfl⟩, ⟨_, rfl, rfl⟩, trivial⟩ ⟨⟨_, rfl, rfl⟩, trivial⟩ ⟨⟨_, _, rfl, rfl, rfl⟩, ⟨_, _, rfl, rfl, rfl⟩, trivial⟩)
    have n1791 : W 5 #[true, true, true, true, true, true, true, true, false, true, true, false, false, false, false] (mkSt [(0, one (cS a0)), (2, one (Cell.ptr 0 0)), (18, one (cI b2)), (21, one (cI b3)), (23, one (Cell.ep 1 ((2 : Int).toNat) 0)), (26, one (Cell.ep 1 ((3 : Int).toNat) 0))] [(1, ⟨1, List.map eI r1.1⟩)] [(0, [cI (0 : Int), cI (0 : Int), cI (0 : Int), cI (0 : Int)])] 2) := by
      refine hI _ _ _ ?_
      refine A.all [8, 11, 13] (by kernel_rfl) rfl ⟨⟨_, rfl, ?_⟩, ⟨_, rfl, ?_⟩, ⟨_, rfl, ?_⟩, trivial⟩
      · refine L.loadEp (xs := r1.1) (e := eI) shape3 hF rfl rfl rfl rfl (at?_get hb4).2 rfl rfl ?_
        refine L.nil ?_
        exact A.on (hO _ _ _ n2047) (Le.mk [(0, 0), (1, 1)] hm rfl ⟨⟨_, rfl, rfl⟩, ⟨_, rfl, rfl⟩, ⟨_, rfl, rfl⟩, ⟨_, rfl, rfl⟩, ⟨_, rfl, rfl⟩, ⟨_, rfl, rfl⟩, trivial⟩ ⟨⟨_, rfl, rfl⟩, trivial⟩ ⟨⟨_, _, rfl, rfl, rfl⟩, trivial⟩)
      · refine L.loadEp (xs := r1.1) (e := eI) shape3 hF rfl rfl rfl rfl (at?_get hb5).2 rfl rfl ?_
        refine L.nil ?_
        exact A.on (hO _ _ _ n3839) (Le.mk [(0, 0), (1, 1)] hm rfl ⟨⟨_, rfl, rfl⟩, ⟨_, rfl, rfl⟩, ⟨_, rfl, rfl⟩, ⟨_, rfl, rfl⟩, ⟨_, rfl, rfl⟩, ⟨_, rfl, rfl⟩, trivial⟩ ⟨⟨_, rfl, rfl⟩, trivial⟩ ⟨⟨_, _, rfl, rfl, rfl⟩, trivial⟩)
      · refine L.alloc 2 info65 rfl hF rfl rfl rfl rfl ?_
        refine L.nil ?_
        exact A.on (hO _ _ _ n9983) (Le.mk [(0, 0), (1, 2), (2, 1)] hm rfl ⟨⟨_, rfl, rfl⟩, ⟨_, rfl, rfl⟩, ⟨_, rfl, rfl⟩, ⟨_, rfl, rfl⟩, ⟨_, rfl, rfl⟩, ⟨_, rfl, rfl⟩, ⟨_, rfl, rfl⟩, trivial⟩ ⟨⟨_, rfl, rfl⟩, trivial⟩ ⟨⟨_, _, rfl, rfl, rfl⟩, ⟨_, _, rfl, rfl, rfl⟩, trivial⟩)
    have n4059 : W 5 #[true, true, false, true, true, false, true, true, true, true, true, true, false, false, false] (mkSt [(0, one (cS a0)), (2, one (Cell.ptr 0 0)), (17, one (Cell.ep 1 ((0 : Int).toNat) 0)), (20, one (Cell.ep 1 ((1 : Int).toNat) 0)), (24, one (cI b4)), (27, one (cI b5))] [(1, ⟨1, List.map eI r1.1⟩)] [(0, [cI (0 : Int), cI (0 : Int), cI (0 : Int), cI (0 : Int)])] 2) := by
      refine hI _ _ _ ?_
      refine A.all [2, 5, 13] (by kernel_rfl) rfl ⟨⟨_, rfl, ?_⟩, ⟨_, rfl, ?_⟩, ⟨_, rfl, ?_⟩, trivial⟩
      · refine L.loadEp (xs := r1.1) (e := eI) shape3 hF rfl rfl rfl rfl (at?_get hb2).2 rfl rfl ?_
        refine L.nil ?_
        exact A.on (hO _ _ _ n4063) (Le.mk [(0, 0), (1, 1)] hm rfl ⟨⟨_, rfl, rfl⟩, ⟨_, rfl, rfl⟩, ⟨_, rfl, rfl⟩, ⟨_, rfl, rfl⟩, ⟨_, rfl, rfl⟩, ⟨_, rfl, rfl⟩, trivial⟩ ⟨⟨_, rfl, rfl⟩, trivial⟩ ⟨⟨_, _, rfl, rfl, rfl⟩, trivial⟩)
      · refine L.loadEp (xs := r1.1) (e := eI) shape3 hF rfl rfl rfl rfl (at?_get hb3).2 rfl rfl ?_
        refine L.nil ?_
        exact A.on (hO _ _ _ n4091) (Le.mk [(0, 0), (1, 1)] hm rfl ⟨⟨_, rfl, rfl⟩, ⟨_, rfl, rfl⟩, ⟨_, rfl, rfl⟩, ⟨_, rfl, rfl⟩, ⟨_, rfl, rfl⟩, ⟨_, rfl, rfl⟩, trivial⟩ ⟨⟨_, rfl, rfl⟩, trivial⟩ ⟨⟨_, _, rfl, rfl, rfl⟩, trivial⟩)
      · refine L.alloc 2 info65 rfl hF rfl rfl rfl rfl ?_
        refine L.nil ?_
        exact A.on (hO _ _ _ n12251) (Le.mk [(0, 0), (1, 2), (2, 1)] hm rfl ⟨⟨_, rfl, rfl⟩, ⟨_, rfl, rfl⟩, ⟨_, rfl, rfl⟩, ⟨_, rfl, rfl⟩, ⟨_, rfl, rfl⟩, ⟨_, rfl, rfl⟩, ⟨_, rfl, rfl⟩, trivial⟩ ⟨⟨_, rfl, rfl⟩, trivial⟩ ⟨⟨_, _, rfl, rfl, rfl⟩, ⟨_, _, rfl, rfl, rfl⟩, trivial⟩)
    have n3835 : W 5 #[true, true, false, true, true, true, true, true, false, true, true, true, false, false, false] (mkSt [(0, one (cS a0)), (2, one (Cell.ptr 0 0)), (17, one (Cell.ep 1 ((0 : Int).toNat) 0)), (21, one (cI b3)), (23, one (Cell.ep 1 ((2 : Int).toNat) 0)), (27, one (cI b5))] [(1, ⟨1, List.map eI r1.1⟩)] [(0, [cI (0 : Int), cI (0 : Int), cI (0 : Int), cI (0 : Int)])] 2) := by
      refine hI _ _ _ ?_
      refine A.all [2, 8, 13] (by kernel_rfl) rfl ⟨⟨_, rfl, ?_⟩, ⟨_, rfl, ?_⟩, ⟨_, rfl, ?_⟩, trivial⟩
      · refine L.loadEp (xs := r1.1) (e := eI) shape3 hF rfl rfl rfl rfl (at?_get hb2).2 rfl rfl ?_
        refine L.nil ?_
        exact A.on (hO _ _ _ n3839) (Le.mk [(0, 0), (1, 1)] hm rfl ⟨⟨_, rfl, rfl⟩, ⟨_, rfl, rfl⟩, ⟨_, rfl, rfl⟩, ⟨_, rfl, rfl⟩, ⟨_, rfl, rfl⟩, ⟨_, rfl, rfl⟩, trivial⟩ ⟨⟨_, rfl, rfl⟩, trivial⟩ ⟨⟨_, _, rfl, rfl, rfl⟩, trivial⟩)
      · refine L.loadEp (xs := r1.1) (e := eI) shape3 hF rfl rfl rfl rfl (at?_get hb4).2 rfl rfl ?_
        refine L.nil ?_
        exact A.on (hO _ _ _ n4091) (Le.mk [(0, 0), (1, 1)] hm rfl ⟨⟨_, rfl, rfl⟩, ⟨_, rfl, rfl⟩, ⟨_, rfl, rfl⟩, ⟨_, rfl, rfl⟩, ⟨_, rfl, rfl⟩, ⟨_, rfl, rfl⟩, trivial⟩ ⟨⟨_, rfl, rfl⟩, trivial⟩ ⟨⟨_, _, rfl, rfl, rfl⟩, trivial⟩)
      · refine L.alloc 2 info65 rfl hF rfl rfl rfl rfl ?_
        refine L.nil ?_
        exact A.on (hO _ _ _ n12027) (Le.mk [(0, 0), (1, 2), (2, 1)] hm rfl ⟨⟨_, rfl, rfl⟩, ⟨_, rfl, rfl⟩, ⟨_, rfl, rfl⟩, ⟨_, rfl, rfl⟩, ⟨_, rfl, rfl⟩, ⟨_, rfl, rfl⟩, ⟨_, rfl, rfl⟩, trivial⟩ ⟨⟨_, rfl, rfl⟩, trivial⟩ ⟨⟨_, _, rfl, rfl, rfl⟩, ⟨_, _, rfl, rfl, rfl⟩, trivial⟩)
    have n3807 : W 5 #[true, true, true, true, true, false, true, true, false, true, true, true, false, false, false] (mkSt [(0, one (cS a0)), (2, one (Cell.ptr 0 0)), (18, one (cI b2)), (20, one (Cell.ep 1 ((1 : Int).toNat) 0)), (23, one (Cell.ep 1 ((2 : Int).toNat) 0)), (27, one (cI b5))] [(1, ⟨1, List.map eI r1.1⟩)] [(0, [cI (0 : Int), cI (0 : Int), cI (0 : Int), cI (0 : Int)])] 2) := by
      refine hI _ _ _ ?_
      refine A.all [5, 8, 13] (by kernel_rfl) rfl ⟨⟨_, rfl, ?_⟩, ⟨_, rfl, ?_⟩, ⟨_, rfl, ?_⟩, trivial⟩
      · refine L.loadEp (xs := r1.1) (e := eI) shape3 hF rfl rfl rfl rfl (at?_get hb3).2 rfl rfl ?_
        refine L.nil ?_
        exact A.on (hO _ _ _ n3839) (Le.mk [(0, 0), (1, 1)] hm rfl ⟨⟨_, rfl, rfl⟩, ⟨_, rfl, rfl⟩, ⟨_, rfl, rfl⟩, ⟨_, rfl, rfl⟩, ⟨_, rfl, rfl⟩, ⟨_, rfl, rfl⟩, trivial⟩ ⟨⟨_, rfl, rfl⟩, trivial⟩ ⟨⟨_, _, rfl, rfl, rfl⟩, trivial⟩)
      · refine L.loadEp (xs := r1.1) (e := eI) shape3 hF rfl rfl rfl rfl (at?_get hb4).2 rfl rfl ?_
        refine L.nil ?_
        exact A.on (hO _ _ _ n4063) (Le.mk [(0, 0), (1, 1)] hm rfl ⟨⟨_, rfl, rfl⟩, ⟨_, rfl, rfl⟩, ⟨_, rfl, rfl⟩, ⟨_, rfl, rfl⟩, ⟨_, rfl, rfl⟩, ⟨_, rfl, rfl⟩, trivial⟩ ⟨⟨_, rfl, rfl⟩, trivial⟩ ⟨⟨_, _, rfl, rfl, rfl⟩, trivial⟩)
      · refine L.alloc 2 info65 rfl hF rfl rfl rfl rfl ?_
        refine L.nil ?_
        exact A.on (hO _ _ _ n11999) (Le.mk [(0, 0), (1, 2), (2, 1)] hm rfl ⟨⟨_, rfl, rfl⟩, ⟨_, rfl, rfl⟩, ⟨_, rfl, rfl⟩, ⟨_, rfl, rfl⟩, ⟨_, rfl, rfl⟩, ⟨_, rfl, rfl⟩, ⟨_, rfl, rfl⟩, trivial⟩ ⟨⟨_, rfl, rfl⟩, trivial⟩ ⟨⟨_, _, rfl, rfl, rfl⟩, ⟨_, _, rfl, rfl, rfl⟩, trivial⟩)
    have n11995 : W 5 #[true, true, false, true, true, false, true, true, false, true, true, true, false, true, false] (mkSt [(0, one (cS a0)), (2, one (Cell.ptr 0 0)), (6, one (Cell.ptr 1 0)), (17, one (Cell.ep 2 ((0 : Int).toNat) 0)), (20, one (Cell.ep 2 ((1 : Int).toNat) 0)), (23, one (Cell.ep 2 ((2 : Int).toNat) 0)), (27, one (cI b5))] [(2, ⟨1, List.map eI r1.1⟩)] [(0, [cI (0 : Int), cI (0 : Int), cI (0 : Int), cI (0 : Int)]), (1, [cI (0 : Int), cI (0 : Int), cI (0 : Int), cI (0 : Int)])] 3) := by
      refine hI _ _ _ ?_
      refine A.all [2, 5, 8] (by kernel_rfl) rfl ⟨⟨_, rfl, ?_⟩, ⟨_, rfl, ?_⟩, ⟨_, rfl, ?_⟩, trivial⟩
      · refine L.loadEp (xs := r1.1) (e := eI) shape3 hF rfl rfl rfl rfl (at?_get hb2).2 rfl rfl ?_
        refine L.nil ?_
        exact A.on (hO _ _ _ n11999) (Le.mk [(0, 0), (1, 1), (2, 2)] hm rfl ⟨⟨_, rfl, rfl⟩, ⟨_, rfl, rfl⟩, ⟨_, rfl, rfl⟩, ⟨_, rfl, rfl⟩, ⟨_, rfl, rfl⟩, ⟨_, rfl, rfl⟩, ⟨_, rfl, rfl⟩, trivial⟩ ⟨⟨_, rfl, rfl⟩, trivial⟩ ⟨⟨_, _, rfl, rfl, rfl⟩, ⟨_, _, rfl, rfl, rfl⟩, trivial⟩)
      · refine L.loadEp (xs := r1.1) (e := eI) shape3 hF rfl rfl rfl rfl (at?_get hb3).2 rfl rfl ?_
        refine L.nil ?_
        exact A.on (hO _ _ _ n12027) (Le.mk [(0, 0), (1, 1), (2, 2)] hm rfl ⟨⟨_, rfl, rfl⟩, ⟨_, rfl, rfl⟩, ⟨_, rfl, rfl⟩, ⟨_, rfl, rfl⟩, ⟨_, rfl, rfl⟩, ⟨_, rfl, rfl⟩, ⟨_, rfl, rfl⟩, trivial⟩ ⟨⟨_, rfl, rfl⟩, trivial⟩ ⟨⟨_, _, rfl, rfl, rfl⟩, ⟨_, _, rfl, rfl, rfl⟩, trivial⟩)
      · refine L.loadEp (xs := r1.1) (e := eI) shape3 hF rfl rfl rfl rfl (at?_get hb4).2 rfl rfl ?_
        refine L.nil ?_
        exact A.on (hO _ _ _ n12251) (Le.mk [(0, 0), (1, 1), (2, 2)] hm rfl ⟨⟨_, rfl, rfl⟩, ⟨_, rfl, rfl⟩, ⟨_, rfl, rfl⟩, ⟨_, rfl, rfl⟩, ⟨_, rfl, rfl⟩, ⟨_, rfl, rfl⟩, ⟨_, rfl, rfl⟩, trivial⟩ ⟨⟨_, rfl, rfl⟩, trivial⟩ ⟨⟨_, _, rfl, rfl, rfl⟩, ⟨_, _, rfl, rfl, rfl⟩, trivial⟩)
    have n10203 : W 5 #[true, true, false, true, true, false, true, true, true, true, true, false, false, true, false] (mkSt [(0, one (cS a0)), (2, one (Cell.ptr 0 0)), (6, one (Cell.ptr 1 0)), (17, one (Cell.ep 2 ((0 : Int).toNat) 0)), (20, one (Cell.ep 2 ((1 : Int).toNat) 0)), (24, one (cI b4)), (26, one (Cell.ep 2 ((3 : Int).toNat) 0))] [(2, ⟨1, List.map eI r1.1⟩)] [(0, [cI (0 : Int), cI (0 : Int), cI (0 : Int), cI (0 : Int)]), (1, [cI (0 : Int), cI (0 : Int), cI (0 : Int), cI (0 : Int)])] 3) := by
      refine hI _ _ _ ?_
      refine A.all [2, 5, 11] (by kernel_rfl) rfl ⟨⟨_, rfl, ?_⟩, ⟨_, rfl, ?_⟩, ⟨_, rfl, ?_⟩, trivial⟩
      · refine L.loadEp (xs := r1.1) (e := eI) shape3 hF rfl rfl rfl rfl (at?_get hb2).2 rfl rfl ?_
        refine L.nil ?_
        exact A.on (hO _ _ _ n10207) (Le.mk [(0, 0), (1, 1), (2, 2)] hm rfl ⟨⟨_, rfl, rfl⟩, ⟨_, rfl, rfl⟩, ⟨_, rfl, rfl⟩, ⟨_, rfl, rfl⟩, ⟨_, rfl, rfl⟩, ⟨_, rfl, rfl⟩, ⟨_, rfl, rfl⟩, trivial⟩ ⟨⟨_, rfl, rfl⟩, trivial⟩ ⟨⟨_, _, rfl, rfl, rfl⟩, ⟨_, _, rfl, rfl, rfl⟩, trivial⟩)
      · refine L.loadEp (xs := r1.1) (e := eI) shape3 hF rfl rfl rfl rfl (at?_get hb3).2 rfl rfl ?_
        refine L.nil ?_
        exact A.on (hO _ _ _ n10235) (Le.mk [(0, 0), (1, 1), (2, 2)] hm rfl ⟨⟨_, rfl, rfl⟩, ⟨_, rfl, rfl⟩, ⟨_, rfl, rfl⟩, ⟨_, rfl, rfl⟩, ⟨_, rfl, rfl⟩, ⟨_, rfl, rfl⟩, ⟨_, rfl, rfl⟩, trivial⟩ ⟨⟨_, rfl, rfl⟩, trivial⟩ ⟨⟨_, _, rfl, rfl, rfl⟩, ⟨_, _, rfl, rfl, rfl⟩, trivial⟩)
      · refine L.loadEp (xs := r1.1) (e := eI) shape3 hF rfl rfl rfl rfl (at?_get hb5).2 rfl rfl ?_
        refine L.nil ?_
        exact A.on (hO _ _ _ n12251) (Le.mk [(0, 0), (1, 1), (2, 2)] hm rfl ⟨⟨_, rfl, rfl⟩, ⟨_, rfl, rfl⟩, ⟨_, rfl, rfl⟩, ⟨_, rfl, rfl⟩, ⟨_, rfl, rfl⟩, ⟨_, rfl, rfl⟩, ⟨_, rfl, rfl⟩, trivial⟩ ⟨⟨_, rfl, rfl⟩, trivial⟩ ⟨⟨_, _, rfl, rfl, rfl⟩, ⟨_, _, rfl, rfl, rfl⟩, trivial⟩)
    have n9951 : W 5 #[true, true, true, true, true, false, true, true, false, true, true, false, false, true, false] (mkSt [(0, one (cS a0)), (2, one (Cell.ptr 0 0)), (6, one (Cell.ptr 1 0)), (18, one (cI b2)), (20, one (Cell.ep 2 ((1 : Int).toNat) 0)), (23, one (Cell.ep 2 ((2 : Int).toNat) 0)), (26, one (Cell.ep 2 ((3 : Int).toNat) 0))] [(2, ⟨1, List.map eI r1.1⟩)] [(0, [cI (0 : Int), cI (0 : Int), cI (0 : Int), cI (0 : Int)]), (1, [cI (0 : Int), cI (0 : Int), cI (0 : Int), cI (0 : Int)])] 3) := by
      refine hI _ _ _ ?_
      refine A.all [5, 8, 11] (by kernel_rfl) rfl ⟨⟨_, rfl, ?_⟩, ⟨_, rfl, ?_⟩, ⟨_, rfl, ?_⟩, trivial⟩
      · refine L.loadEp (xs := r1.1) (e := eI) shape3 hF rfl rfl rfl rfl (at?_get hb3).2 rfl rfl ?_
        refine L.nil ?_
        exact A.on (hO _ _ _ n9983) (Le.mk [(0, 0), (1, 1), (2, 2)] hm rfl ⟨⟨_, rfl, rfl⟩, ⟨_, rfl, rfl⟩, ⟨_, rfl, rfl⟩, ⟨_, rfl, rfl⟩, ⟨_, rfl, rfl⟩, ⟨_, rfl, rfl⟩, ⟨_, rfl, rfl⟩, trivial⟩ ⟨⟨_, rfl, rfl⟩, trivial⟩ ⟨⟨_, _, rfl, rfl, rfl⟩, ⟨_, _, rfl, rfl, rfl⟩, trivial⟩)
      · refine L.loadEp (xs := r1.1) (e := eI) shape3 hF rfl rfl rfl rfl (at?_get hb4).2 rfl rfl ?_
        refine L.nil ?_
        exact A.on (hO _ _ _ n10207) (Le.mk [(0, 0), (1, 1), (2, 2)] hm rfl ⟨⟨_, rfl, rfl⟩, ⟨_, rfl, rfl⟩, ⟨_, rfl, rfl⟩, ⟨_, rfl, rfl⟩, ⟨_, rfl, rfl⟩, ⟨_, rfl, rfl⟩, ⟨_, rfl, rfl⟩, trivial⟩ ⟨⟨_, rfl, rfl⟩, trivial⟩ ⟨⟨_, _, rfl, rfl, rfl⟩, ⟨_, _, rfl, rfl, rfl⟩, trivial⟩)
      · refine L.loadEp (xs := r1.1) (e := eI) shape3 hF rfl rfl rfl rfl (at?_get hb5).2 rfl rfl ?_
        refine L.nil ?_
        exact A.on (hO _ _ _ n11999) (Le.mk [(0, 0), (1, 1), (2, 2)] hm rfl ⟨⟨_, rfl, rfl⟩, ⟨_, rfl, rfl⟩, ⟨_, rfl, rfl⟩, ⟨_, rfl, rfl⟩, ⟨_, rfl, rfl⟩, ⟨_, rfl, rfl⟩, ⟨_, rfl, rfl⟩, trivial⟩ ⟨⟨_, rfl, rfl⟩, trivial⟩ ⟨⟨_, _, rfl, rfl, rfl⟩, ⟨_, _, rfl, rfl, rfl⟩, trivial⟩)
    have n9979 : W 5 #[true, true, false, true, true, true, true, true, false, true, true, false, false, true, false] (mkSt [(0, one (cS a0)), (2, one (Cell.ptr 0 0)), (6, one (Cell.ptr 1 0)), (17, one (Cell.ep 2 ((0 : Int).toNat) 0)), (21, one (cI b3)), (23, one (Cell.ep 2 ((2 : Int).toNat) 0)), (26, one (Cell.ep 2 ((3 : Int).toNat) 0))] [(2, ⟨1, List.map eI r1.1⟩)] [(0, [cI (0 : Int), cI (0 : Int), cI (0 : Int), cI (0 : Int)]), (1, [cI (0 : Int), cI (0 : Int), cI (0 : Int), cI (0 : Int)])] 3) := by
      refine hI _ _ _ ?_
      refine A.all [2, 8, 11] (by kernel_rfl) rfl ⟨⟨_, rfl, ?_⟩, ⟨_, rfl, ?_⟩, ⟨_, rfl, ?_⟩, trivial⟩
      · refine L.loadEp (xs := r1.1) (e := eI) shape3 hF rfl rfl rfl rfl (at?_get hb2).2 rfl rfl ?_
        refine L.nil ?_
        exact A.on (hO _ _ _ n9983) (Le.mk [(0, 0), (1, 1), (2, 2)] hm rfl ⟨⟨_, rfl, rfl⟩, ⟨_, rfl, rfl⟩, ⟨_, rfl, rfl⟩, ⟨_, rfl, rfl⟩, ⟨_, rfl, rfl⟩, ⟨_, rfl, rfl⟩, ⟨_, rfl, rfl⟩, trivial⟩ ⟨⟨_, rfl, rfl⟩, trivial⟩ ⟨⟨_, _, rfl, rfl, rfl⟩, ⟨_, _, rfl, rfl, rfl⟩, trivial⟩)
      · refine L.loadEp (xs := r1.1) (e := eI) shape3 hF rfl rfl rfl rfl (at?_get hb4).2 rfl rfl ?_
        refine L.nil ?_
        exact A.on (hO _ _ _ n10235) (Le.mk [(0, 0), (1, 1), (2, 2)] hm rfl ⟨⟨_, rfl, rfl⟩, ⟨_, rfl, rfl⟩, ⟨_, rfl, rfl⟩, ⟨_, rfl, rfl⟩, ⟨_, rfl, rfl⟩, ⟨_, rfl, rfl⟩, ⟨_, rfl, rfl⟩, trivial⟩ ⟨⟨_, rfl, rfl⟩, trivial⟩ ⟨⟨_, _, rfl, rfl, rfl⟩, ⟨_, _, rfl, rfl, rfl⟩, trivial⟩)
      · refine L.loadEp (xs := r1.1) (e := eI) shape3 hF rfl rfl rfl rfl (at?_get hb5).2 rfl rfl ?_
        refine L.nil ?_
        exact A.on (hO _ _ _ n12027) (Le.mk [(0, 0), (1, 1), (2, 2)] hm rfl ⟨⟨_, rfl, rfl⟩, ⟨_, rfl, rfl⟩, ⟨_, rfl, rfl⟩, ⟨_, rfl, rfl⟩, ⟨_, rfl, rfl⟩, ⟨_, rfl, rfl⟩, ⟨_, rfl, rfl⟩, trivial⟩ ⟨⟨_, rfl, rfl⟩, trivial⟩ ⟨⟨_, _, rfl, rfl, rfl⟩, ⟨_, _, rfl, rfl, rfl⟩, trivial⟩)
    have n1787 : W 6 #[true, true, false, true, true, true, true, true, false, true, true, false, false, false, false] (mkSt [(0, one (cS a0)), (2, one (Cell.ptr 0 0)), (17, one (Cell.ep 1 ((0 : Int).toNat) 0)), (21, one (cI b3)), (23, one (Cell.ep 1 ((2 : Int).toNat) 0)), (26, one (Cell.ep 1 ((3 : Int).toNat) 0))] [(1, ⟨1, List.map eI r1.1⟩)] [(0, [cI (0 : Int), cI (0 : Int), cI (0 : Int), cI (0 : Int)])] 2) := by
      refine hI _ _ _ ?_
      refine A.all [2, 8, 11, 13] (by kernel_rfl) rfl ⟨⟨_, rfl, ?_⟩, ⟨_, rfl, ?_⟩, ⟨_, rfl, ?_⟩, ⟨_, rfl, ?_⟩, trivial⟩
      · refine L.loadEp (xs := r1.1) (e := eI) shape3 hF rfl rfl rfl rfl (at?_get hb2).2 rfl rfl ?_
        refine L.nil ?_
        exact A.on (hO _ _ _ n1791) (Le.mk [(0, 0), (1, 1)] hm rfl ⟨⟨_, rfl, rfl⟩, ⟨_, rfl, rfl⟩, ⟨_, rfl, rfl⟩, ⟨_, rfl, rfl⟩, ⟨_, rfl, rfl⟩, ⟨_, rfl, rfl⟩, trivial⟩ ⟨⟨_, rfl, rfl⟩, trivial⟩ ⟨⟨_, _, rfl, rfl, rfl⟩, trivial⟩)
      · refine L.loadEp (xs := r1.1) (e := eI) shape3 hF rfl rfl rfl rfl (at?_get hb4).2 rfl rfl ?_
        refine L.nil ?_
        exact A.on (hO _ _ _ n2043) (Le.mk [(0, 0), (1, 1)] hm rfl ⟨⟨_, rfl, rfl⟩, ⟨_, rfl, rfl⟩, ⟨_, rfl, rfl⟩, ⟨_, rfl, rfl⟩, ⟨_, rfl, rfl⟩, ⟨_, rfl, rfl⟩, trivial⟩ ⟨⟨_, rfl, rfl⟩, trivial⟩ ⟨⟨_, _, rfl, rfl, rfl⟩, trivial⟩)
      · refine L.loadEp (xs := r1.1) (e := eI) shape3 hF rfl rfl rfl rfl (at?_get hb5).2 rfl rfl ?_
        refine L.nil ?_
        exact A.on (hO _ _ _ n3835) (Le.mk [(0, 0), (1, 1)] hm rfl ⟨⟨_, rfl, rfl⟩, ⟨_, rfl, rfl⟩, ⟨_, rfl, rfl⟩, ⟨_, rfl, rfl⟩, ⟨_, rfl, rfl⟩, ⟨_, rfl, rfl⟩, trivial⟩ ⟨⟨_, rfl, rfl⟩, trivial⟩ ⟨⟨_, _, rfl, rfl, rfl⟩, trivial⟩)
      · refine L.alloc 2 info65 rfl hF rfl rfl rfl rfl ?_
        refine L.nil ?_
        exact A.on (hO _ _ _ n9979) (Le.mk [(0, 0), (1, 2), (2, 1)] hm rfl ⟨⟨_, rfl, rfl⟩, ⟨_, rfl, rfl⟩, ⟨_, rfl, rfl⟩, ⟨_, rfl, rfl⟩, ⟨_, rfl, rfl⟩, ⟨_, rfl, rfl⟩, ⟨_, rfl, rfl⟩, trivial⟩ ⟨⟨_, rfl, rfl⟩, trivial⟩ ⟨⟨_, _, rfl, rfl, rfl⟩, ⟨_, _, rfl, rfl, rfl⟩, trivial⟩)
    have n9947 : W 6 #[true, true, false, true, true, false, true, true, false, true, true, false, false, true, false] (mkSt [(0, one (cS a0)), (2, one (Cell.ptr 0 0)), (6, one (Cell.ptr 1 0)), (17, one (Cell.ep 2 ((0 : Int).toNat) 0)), (20, one (Cell.ep 2 ((1 : Int).toNat) 0)), (23, one (Cell.ep 2 ((2 : Int).toNat) 0)), (26, one (Cell.ep 2 ((3 : Int).toNat) 0))] [(2, ⟨1, List.map eI r1.1⟩)] [(0, [cI (0 : Int), cI (0 : Int), cI (0 : Int), cI (0 : Int)]), (1, [cI (0 : Int), cI (0 : Int), cI (0 : Int), cI (0 : Int)])] 3) := by
      refine hI _ _ _ ?_
      refine A.all [2, 5, 8, 11] (by kernel_rfl) rfl ⟨⟨_, rfl, ?_⟩, ⟨_, rfl, ?_⟩, ⟨_, rfl, ?_⟩, ⟨_, rfl, ?_⟩, trivial⟩
      · refine L.loadEp (xs := r1.1) (e := eI) shape3 hF rfl rfl rfl rfl (at?_get hb2).2 rfl rfl ?_
        refine L.nil ?_
        exact A.on (hO _ _ _ n9951) (Le.mk [(0, 0), (1, 1), (2, 2)] hm rfl ⟨⟨_, rfl, rfl⟩, ⟨_, rfl, rfl⟩, ⟨_, rfl, rfl⟩, ⟨_, rfl, rfl⟩, ⟨_, rfl, rfl⟩, ⟨_, rfl, rfl⟩, ⟨_, rfl, rfl⟩, trivial⟩ ⟨⟨_, rfl, rfl⟩, trivial⟩ ⟨⟨_, _, rfl, rfl, rfl⟩, ⟨_, _, rfl, rfl, rfl⟩, trivial⟩)
      · refine L.loadEp (xs := r1.1) (e := eI) shape3 hF rfl rfl rfl rfl (at?_get hb3).2 rfl rfl ?_
        refine L.nil ?_
        exact A.on (hO _ _ _ n9979) (Le.mk [(0, 0), (1, 1), (2, 2)] hm rfl ⟨⟨_, rfl, rfl⟩, ⟨_, rfl, rfl⟩, ⟨_, rfl, rfl⟩, ⟨_, rfl, rfl⟩, ⟨_, rfl, rfl⟩, ⟨_, rfl, rfl⟩, ⟨_, rfl, rfl⟩, trivial⟩ ⟨⟨_, rfl, rfl⟩, trivial⟩ ⟨⟨_, _, rfl, rfl, rfl⟩, ⟨_, _, rfl, rfl, rfl⟩, trivial⟩)
      · refine L.loadEp (xs := r1.1) (e := eI) shape3 hF rfl rfl rfl rfl (at?_get hb4).2 rfl rfl ?_
        refine L.nil ?_
        exact A.on (hO _ _ _ n10203) (Le.mk [(0, 0), (1, 1), (2, 2)] hm rfl ⟨⟨_, rfl, rfl⟩, ⟨_, rfl, rfl⟩, ⟨_, rfl, rfl⟩, ⟨_, rfl, rfl⟩, ⟨_, rfl, rfl⟩, ⟨_, rfl, rfl⟩, ⟨_, rfl, rfl⟩, trivial⟩ ⟨⟨_, rfl, rfl⟩, trivial⟩ ⟨⟨_, _, rfl, rfl, rfl⟩, ⟨_, _, rfl, rfl, rfl⟩, trivial⟩)
      · refine L.loadEp (xs := r1.1) (e := eI) shape3 hF rfl rfl rfl rfl (at?_get hb5).2 rfl rfl ?_
        refine L.nil ?_
        exact A.on (hO _ _ _ n11995) (Le.mk [(0, 0), (1, 1), (2, 2)] hm rfl ⟨⟨_, rfl, rfl⟩, ⟨_, rfl, rfl⟩, ⟨_, rfl, rfl⟩, ⟨_, rfl, rfl⟩, ⟨_, rfl, rfl⟩, ⟨_, rfl, rfl⟩, ⟨_, rfl, rfl⟩, trivial⟩ ⟨⟨_, rfl, rfl⟩, trivial⟩ ⟨⟨_, _, rfl, rfl, rfl⟩, ⟨_, _, rfl, rfl, rfl⟩, trivial⟩)
    have n2011 : W 6 #[true, true, false, true, true, false, true, true, true, true, true, false, false, false, false] (mkSt [(0, one (cS a0)), (2, one (Cell.ptr 0 0)), (17, one (Cell.ep 1 ((0 : Int).toNat) 0)), (20, one (Cell.ep 1 ((1 : Int).toNat) 0)), (24, one (cI b4)), (26, one (Cell.ep 1 ((3 : Int).toNat) 0))] [(1, ⟨1, List.map eI r1.1⟩)] [(0, [cI (0 : Int), cI (0 : Int), cI (0 : Int), cI (0 : Int)])] 2) := by
      refine hI _ _ _ ?_
      refine A.all [2, 5, 11, 13] (by kernel_rfl) rfl ⟨⟨_, rfl, ?_⟩, ⟨_, rfl, ?_⟩, ⟨_, rfl, ?_⟩, ⟨_, rfl, ?_⟩, trivial⟩
      · refine L.loadEp (xs := r1.1) (e := eI) shape3 hF rfl rfl rfl rfl (at?_get hb2).2 rfl rfl ?_
        refine L.nil ?_
        exact A.on (hO _ _ _ n2015) (Le.mk [(0, 0), (1, 1)] hm rfl ⟨⟨_, rfl, rfl⟩, ⟨_, rfl, rfl⟩, ⟨_, rfl, rfl⟩, ⟨_, rfl, rfl⟩, ⟨_, rfl, rfl⟩, ⟨_, rfl, rfl⟩, trivial⟩ ⟨⟨_, rfl, rfl⟩, trivial⟩ ⟨⟨_, _, rfl, rfl, rfl⟩, trivial⟩)
      · refine L.loadEp (xs := r1.1) (e := eI) shape3 hF rfl rfl rfl rfl (at?_get hb3).2 rfl rfl ?_
        refine L.nil ?_
        exact A.on (hO _ _ _ n2043) (Le.mk [(0, 0), (1, 1)] hm rfl ⟨⟨_, rfl, rfl⟩, ⟨_, rfl, rfl⟩, ⟨_, rfl, rfl⟩, ⟨_, rfl, rfl⟩, ⟨_, rfl, rfl⟩, ⟨_, rfl, rfl⟩, trivial⟩ ⟨⟨_, rfl, rfl⟩, trivial⟩ ⟨⟨_, _, rfl, rfl, rfl⟩, trivial⟩)
      · refine L.loadEp (xs := r1.1) (e := eI) shape3 hF rfl rfl rfl rfl (at?_get hb5).2 rfl rfl ?_
        refine L.nil ?_
        exact A.on (hO _ _ _ n4059) (Le.mk [(0, 0), (1, 1)] hm rfl ⟨⟨_, rfl, rfl⟩, ⟨_, rfl, rfl⟩, ⟨_, rfl, rfl⟩, ⟨_, rfl, rfl⟩, ⟨_, rfl, rfl⟩, ⟨_, rfl, rfl⟩, trivial⟩ ⟨⟨_, rfl, rfl⟩, trivial⟩ ⟨⟨_, _, rfl, rfl, rfl⟩, trivial⟩)
      · refine L.alloc 2 info65 rfl hF rfl rfl rfl rfl ?_
        refine L.nil ?_
        exact A.on (hO _ _ _ n10203) (Le.mk [(0, 0), (1, 2), (2, 1)] hm rfl ⟨⟨_, rfl, rfl⟩, ⟨_, rfl, rfl⟩, ⟨_, rfl, rfl⟩, ⟨_, rfl, rfl⟩, ⟨_, rfl, rfl⟩, ⟨_, rfl, rfl⟩, ⟨_, rfl, rfl⟩, trivial⟩ ⟨⟨_, rfl, rfl⟩, trivial⟩ ⟨⟨_, _, rfl, rfl, rfl⟩, ⟨_, _, rfl, rfl, rfl⟩, trivial⟩)
    have n3803 : W 6 #[true, true, false, true, true, false, true, true, false, true, true, true, false, false, false] (mkSt [(0, one (cS a0)), (2, one (Cell.ptr 0 0)), (17, one (Cell.ep 1 ((0 : Int).toNat) 0)), (20, one (Cell.ep 1 ((1 : Int).toNat) 0)), (23, one (Cell.ep 1 ((2 : Int).toNat) 0)), (27, one (cI b5))] [(1, ⟨1, List.map eI r1.1⟩)] [(0, [cI (0 : Int), cI (0 : Int), cI (0 : Int), cI (0 : Int)])] 2) := by
      refine hI _ _ _ ?_
      refine A.all [2, 5, 8, 13] (by kernel_rfl) rfl ⟨⟨_, rfl, ?_⟩, ⟨_, rfl, ?_⟩, ⟨_, rfl, ?_⟩, ⟨_, rfl, ?_⟩, trivial⟩
      · refine L.loadEp (xs := r1.1) (e := eI) shape3 hF rfl rfl rfl rfl (at?_get hb2).2 rfl rfl ?_
        refine L.nil ?_
        exact A.on (hO _ _ _ n3807) (Le.mk [(0, 0), (1, 1)] hm rfl ⟨⟨_, rfl, rfl⟩, ⟨_, rfl, rfl⟩, ⟨_, rfl, rfl⟩, ⟨_, rfl, rfl⟩, ⟨_, rfl, rfl⟩, ⟨_, rfl, rfl⟩, trivial⟩ ⟨⟨_, rfl, rfl⟩, trivial⟩ ⟨⟨_, _, rfl, rfl, rfl⟩, trivial⟩)
      · refine L.loadEp (xs := r1.1) (e := eI) shape3 hF rfl rfl rfl rfl (at?_get hb3).2 rfl rfl ?_
        refine L.nil ?_
        exact A.on (hO _ _ _ n3835) (Le.mk [(0, 0), (1, 1)] hm rfl ⟨⟨_, rfl, rfl⟩, ⟨_, rfl, rfl⟩, ⟨_, rfl, rfl⟩, ⟨_, rfl, rfl⟩, ⟨_, rfl, rfl⟩, ⟨_, rfl, rfl⟩, trivial⟩ ⟨⟨_, rfl, rfl⟩, trivial⟩ ⟨⟨_, _, rfl, rfl, rfl⟩, trivial⟩)
      · refine L.loadEp (xs := r1.1) (e := eI) shape3 hF rfl rfl rfl rfl (at?_get hb4).2 rfl rfl ?_
        refine L.nil ?_
        exact A.on (hO _ _ _ n4059) (Le.mk [(0, 0), (1, 1)] hm rfl ⟨⟨_, rfl, rfl⟩, ⟨_, rfl, rfl⟩, ⟨_, rfl, rfl⟩, ⟨_, rfl, rfl⟩, ⟨_, rfl, rfl⟩, ⟨_, rfl, rfl⟩, trivial⟩ ⟨⟨_, rfl, rfl⟩, trivial⟩ ⟨⟨_, _, rfl, rfl, rfl⟩, trivial⟩)
      · refine L.alloc 2 info65 rfl hF rfl rfl rfl rfl ?_
        refine L.nil ?_
        exact A.on (hO _ _ _ n11995) (Le.mk [(0, 0), (1, 2), (2, 1)] hm rfl ⟨⟨_, rfl, rfl⟩, ⟨_, rfl, rfl⟩, ⟨_, rfl, rfl⟩, ⟨_, rfl, rfl⟩, ⟨_, rfl, rfl⟩, ⟨_, rfl, rfl⟩, ⟨_, rfl, rfl⟩, trivial⟩ ⟨⟨_, rfl, rfl⟩, trivial⟩ ⟨⟨_, _, rfl, rfl, rfl⟩, ⟨_, _, rfl, rfl, rfl⟩, trivial⟩)
    have n1759 : W 6 #[true, true, true, true, true, false, true, true, false, true, true, false, false, false, false] (mkSt [(0, one (cS a0)), (2, one (Cell.ptr 0 0)), (18, one (cI b2)), (20, one (Cell.ep 1 ((1 : Int).toNat) 0)), (23, one (Cell.ep 1 ((2 : Int).toNat) 0)), (26, one (Cell.ep 1 ((3 : Int).toNat) 0))] [(1, ⟨1, List.map eI r1.1⟩)] [(0, [cI (0 : Int), cI (0 : Int), cI (0 : Int), cI (0 : Int)])] 2) := by
      refine hI _ _ _ ?_
      refine A.all [5, 8, 11, 13] (by kernel_rfl) rfl ⟨⟨_, rfl, ?_⟩, ⟨_, rfl, ?_⟩, ⟨_, rfl, ?_⟩, ⟨_, rfl, ?_⟩, trivial⟩
      · refine L.loadEp (xs := r1.1) (e := eI) shape3 hF rfl rfl rfl rfl (at?_get hb3).2 rfl rfl ?_
        refine L.nil ?_
        exact A.on (hO _ _ _ n1791) (Le.mk [(0, 0), (1, 1)] hm rfl ⟨⟨_, rfl, rfl⟩, ⟨_, rfl, rfl⟩, ⟨_, rfl, rfl⟩, ⟨_, rfl, rfl⟩, ⟨_, rfl, rfl⟩, ⟨_, rfl, rfl⟩, trivial⟩ ⟨⟨_, rfl, rfl⟩, trivial⟩ ⟨⟨_, _, rfl, rfl, rfl⟩, trivial⟩)
      · refine L.loadEp (xs := r1.1) (e := eI) shape3 hF rfl rfl rfl rfl (at?_get hb4).2 rfl rfl ?_
        refine L.nil ?_
        exact A.on (hO _ _ _ n2015) (Le.mk [(0, 0), (1, 1)] hm rfl ⟨⟨_, rfl, rfl⟩, ⟨_, rfl, rfl⟩, ⟨_, rfl, rfl⟩, ⟨_, rfl, rfl⟩, ⟨_, rfl, rfl⟩, ⟨_, rfl, rfl⟩, trivial⟩ ⟨⟨_, rfl, rfl⟩, trivial⟩ ⟨⟨_, _, rfl, rfl, rfl⟩, trivial⟩)
      · refine L.loadEp (xs := r1.1) (e := eI) shape3 hF rfl rfl rfl rfl (at?_get hb5).2 rfl rfl ?_
        refine L.nil ?_
        exact A.on (hO _ _ _ n3807) (Le.mk [(0, 0), (1, 1)] hm rfl ⟨⟨_, rfl, rfl⟩, ⟨_, rfl, rfl⟩, ⟨_, rfl, rfl⟩, ⟨_, rfl, rfl⟩, ⟨_, rfl, rfl⟩, ⟨_, rfl, rfl⟩, trivial⟩ ⟨⟨_, rfl, rfl⟩, trivial⟩ ⟨⟨_, _, rfl, rfl, rfl⟩, trivial⟩)
      · refine L.alloc 2 info65 rfl hF rfl rfl rfl rfl ?_
        refine L.nil ?_
        exact A.on (hO _ _ _ n9951) (Le.mk [(0, 0), (1, 2), (2, 1)] hm rfl ⟨⟨_, rfl, rfl⟩, ⟨_, rfl, rfl⟩, ⟨_, rfl, rfl⟩, ⟨_, rfl, rfl⟩, ⟨_, rfl, rfl⟩, ⟨_, rfl, rfl⟩, ⟨_, rfl, rfl⟩, trivial⟩ ⟨⟨_, rfl, rfl⟩, trivial⟩ ⟨⟨_, _, rfl, rfl, rfl⟩, ⟨_, _, rfl, rfl, rfl⟩, trivial⟩)
    have n1755 : W 7 #[true, true, false, true, true, false, true, true, false, true, true, false, false, false, false] (mkSt [(0, one (cS a0)), (2, one (Cell.ptr 0 0)), (17, one (Cell.ep 1 ((0 : Int).toNat) 0)), (20, one (Cell.ep 1 ((1 : Int).toNat) 0)), (23, one (Cell.ep 1 ((2 : Int).toNat) 0)), (26, one (Cell.ep 1 ((3 : Int).toNat) 0))] [(1, ⟨1, List.map eI r1.1⟩)] [(0, [cI (0 : Int), cI (0 : Int), cI (0 : Int), cI (0 : Int)])] 2) := by
      refine hI _ _ _ ?_
      refine A.all [2, 5, 8, 11, 13] (by kernel_rfl) rfl ⟨⟨_, rfl, ?_⟩, ⟨_, rfl, ?_⟩, ⟨_, rfl, ?_⟩, ⟨_, rfl, ?_⟩, ⟨_, rfl, ?_⟩, trivial⟩
      · refine L.loadEp (xs := r1.1) (e := eI) shape3 hF rfl rfl rfl rfl (at?_get hb2).2 rfl rfl ?_
        refine L.nil ?_
        exact A.on (hO _ _ _ n1759) (Le.mk [(0, 0), (1, 1)] hm rfl ⟨⟨_, rfl, rfl⟩, ⟨_, rfl, rfl⟩, ⟨_, rfl, rfl⟩, ⟨_, rfl, rfl⟩, ⟨_, rfl, rfl⟩, ⟨_, rfl, rfl⟩, trivial⟩ ⟨⟨_, rfl, rfl⟩, trivial⟩ ⟨⟨_, _, rfl, rfl, rfl⟩, trivial⟩)
      · refine L.loadEp (xs := r1.1) (e := eI) shape3 hF rfl rfl rfl rfl (at?_get hb3).2 rfl rfl ?_
        refine L.nil ?_
        exact A.on (hO _ _ _ n1787) (Le.mk [(0, 0), (1, 1)] hm rfl ⟨⟨_, rfl, rfl⟩, ⟨_, rfl, rfl⟩, ⟨_, rfl, rfl⟩, ⟨_, rfl, rfl⟩, ⟨_, rfl, rfl⟩, ⟨_, rfl, rfl⟩, trivial⟩ ⟨⟨_, rfl, rfl⟩, trivial⟩ ⟨⟨_, _, rfl, rfl, rfl⟩, trivial⟩)
      · refine L.loadEp (xs := r1.1) (e := eI) shape3 hF rfl rfl rfl rfl (at?_get hb4).2 rfl rfl ?_
        refine L.nil ?_
        exact A.on (hO _ _ _ n2011) (Le.mk [(0, 0), (1, 1)] hm rfl ⟨⟨_, rfl, rfl⟩, ⟨_, rfl, rfl⟩, ⟨_, rfl, rfl⟩, ⟨_, rfl, rfl⟩, ⟨_, rfl, rfl⟩, ⟨_, rfl, rfl⟩, trivial⟩ ⟨⟨_, rfl, rfl⟩, trivial⟩ ⟨⟨_, _, rfl, rfl, rfl⟩, trivial⟩)
      · refine L.loadEp (xs := r1.1) (e := eI) shape3 hF rfl rfl rfl rfl (at?_get hb5).2 rfl rfl ?_
        refine L.nil ?_
        exact A.on (hO _ _ _ n3803) (Le.mk [(0, 0), (1, 1)] hm rfl ⟨⟨_, rfl, rfl⟩, ⟨_, rfl, rfl⟩, ⟨_, rfl, rfl⟩, ⟨_, rfl, rfl⟩, ⟨_, rfl, rfl⟩, ⟨_, rfl, rfl⟩, trivial⟩ ⟨⟨_, rfl, rfl⟩, trivial⟩ ⟨⟨_, _, rfl, rfl, rfl⟩, trivial⟩)
      · refine L.alloc 2 info65 rfl hF rfl rfl rfl rfl ?_
        refine L.nil ?_
        exact A.on (hO _ _ _ n9947) (Le.mk [(0, 0), (1, 2), (2, 1)] hm rfl ⟨⟨_, rfl, rfl⟩, ⟨_, rfl, rfl⟩, ⟨_, rfl, rfl⟩, ⟨_, rfl, rfl⟩, ⟨_, rfl, rfl⟩, ⟨_, rfl, rfl⟩, ⟨_, rfl, rfl⟩, trivial⟩ ⟨⟨_, rfl, rfl⟩, trivial⟩ ⟨⟨_, _, rfl, rfl, rfl⟩, ⟨_, _, rfl, rfl, rfl⟩, trivial⟩)
    have n731 : W 8 #[true, true, false, true, true, false, true, true, false, true, false, false, false, false, false] (mkSt [(0, one (cS a0)), (2, one (Cell.ptr 0 0)), (17, one (Cell.ep 1 ((0 : Int).toNat) 0)), (20, one (Cell.ep 1 ((1 : Int).toNat) 0)), (23, one (Cell.ep 1 ((2 : Int).toNat) 0)), (25, one (Cell.own 1))] [(1, ⟨1, List.map eI r1.1⟩)] [(0, [cI (0 : Int), cI (0 : Int), cI (0 : Int), cI (0 : Int)])] 2) := by
      refine hI _ _ _ ?_
      refine A.take 10 rfl (by kernel_rfl) (by kernel_rfl) (by kernel_rfl) rfl (Ca.indexAddr) (fun Q0 k0 => L.idxR (xs := r1.1) (e := eI) Try.underlying24 info3 hF rfl rfl rfl rfl rfl hb5 rfl rfl (L.nil k0)) ?_
      exact A.on (hO _ _ _ n1755) (Le.mk [(0, 0), (1, 1)] hm rfl ⟨⟨_, rfl, rfl⟩, ⟨_, rfl, rfl⟩, ⟨_, rfl, rfl⟩, ⟨_, rfl, rfl⟩, ⟨_, rfl, rfl⟩, ⟨_, rfl, rfl⟩, trivial⟩ ⟨⟨_, rfl, rfl⟩, trivial⟩ ⟨⟨_, _, rfl, rfl, rfl⟩, trivial⟩)
    have n219 : W 9 #[true, true, false, true, true, false, true, true, false, false, false, false, false, false, false] (mkSt [(0, one (cS a0)), (2, one (Cell.ptr 0 0)), (4, one (Cell.own 1)), (17, one (Cell.ep 1 ((0 : Int).toNat) 0)), (20, one (Cell.ep 1 ((1 : Int).toNat) 0)), (23, one (Cell.ep 1 ((2 : Int).toNat) 0))] [(1, ⟨1, List.map eI r1.1⟩)] [(0, [cI (0 : Int), cI (0 : Int), cI (0 : Int), cI (0 : Int)])] 2) := by
      refine hI _ _ _ ?_
      refine A.take 9 rfl (by kernel_rfl) (by kernel_rfl) (by kernel_rfl) rfl (Ca.move) (fun Q0 k0 => L.move hF rfl rfl rfl (L.nil k0)) ?_
      exact A.on (hO _ _ _ n731) (Le.mk [(0, 0), (1, 1)] hm rfl ⟨⟨_, rfl, rfl⟩, ⟨_, rfl, rfl⟩, ⟨_, rfl, rfl⟩, ⟨_, rfl, rfl⟩, ⟨_, rfl, rfl⟩, ⟨_, rfl, rfl⟩, trivial⟩ ⟨⟨_, rfl, rfl⟩, trivial⟩ ⟨⟨_, _, rfl, rfl, rfl⟩, trivial⟩)
    have n91 : W 10 #[true, true, false, true, true, false, true, false, false, false, false, false, false, false, false] (mkSt [(0, one (cS a0)), (2, one (Cell.ptr 0 0)), (4, one (Cell.own 1)), (17, one (Cell.ep 1 ((0 : Int).toNat) 0)), (20, one (Cell.ep 1 ((1 : Int).toNat) 0)), (22, one (Cell.own 1))] [(1, ⟨1, List.map eI r1.1⟩)] [(0, [cI (0 : Int), cI (0 : Int), cI (0 : Int), cI (0 : Int)])] 2) := by
      refine hI _ _ _ ?_
      refine A.take 7 rfl (by kernel_rfl) (by kernel_rfl) (by kernel_rfl) rfl (Ca.indexAddr) (fun Q0 k0 => L.idxR (xs := r1.1) (e := eI) Try.underlying24 info3 hF rfl rfl rfl rfl rfl hb4 rfl rfl (L.nil k0)) ?_
      exact A.on (hO _ _ _ n219) (Le.mk [(0, 0), (1, 1)] hm rfl ⟨⟨_, rfl, rfl⟩, ⟨_, rfl, rfl⟩, ⟨_, rfl, rfl⟩, ⟨_, rfl, rfl⟩, ⟨_, rfl, rfl⟩, ⟨_, rfl, rfl⟩, trivial⟩ ⟨⟨_, rfl, rfl⟩, trivial⟩ ⟨⟨_, _, rfl, rfl, rfl⟩, trivial⟩)
    have n27 : W 11 #[true, true, false, true, true, false, false, false, false, false, false, false, false, false, false] (mkSt [(0, one (cS a0)), (2, one (Cell.ptr 0 0)), (4, one (Cell.own 1)), (17, one (Cell.ep 1 ((0 : Int).toNat) 0)), (20, one (Cell.ep 1 ((1 : Int).toNat) 0))] [(1, ⟨1, List.map eI r1.1⟩)] [(0, [cI (0 : Int), cI (0 : Int), cI (0 : Int), cI (0 : Int)])] 2) := by
      refine hI _ _ _ ?_
      refine A.take 6 rfl (by kernel_rfl) (by kernel_rfl) (by kernel_rfl) rfl (Ca.move) (fun Q0 k0 => L.move hF rfl rfl rfl (L.nil k0)) ?_
      exact A.on (hO _ _ _ n91) (Le.mk [(0, 0), (1, 1)] hm rfl ⟨⟨_, rfl, rfl⟩, ⟨_, rfl, rfl⟩, ⟨_, rfl, rfl⟩, ⟨_, rfl, rfl⟩, ⟨_, rfl, rfl⟩, ⟨_, rfl, rfl⟩, trivial⟩ ⟨⟨_, rfl, rfl⟩, trivial⟩ ⟨⟨_, _, rfl, rfl, rfl⟩, trivial⟩)
    have n11 : W 12 #[true, true, false, true, false, false, false, false, false, false, false, false, false, false, false] (mkSt [(0, one (cS a0)), (2, one (Cell.ptr 0 0)), (4, one (Cell.own 1)), (17, one (Cell.ep 1 ((0 : Int).toNat) 0)), (19, one (Cell.own 1))] [(1, ⟨1, List.map eI r1.1⟩)] [(0, [cI (0 : Int), cI (0 : Int), cI (0 : Int), cI (0 : Int)])] 2) := by
      refine hI _ _ _ ?_
      refine A.take 4 rfl (by kernel_rfl) (by kernel_rfl) (by kernel_rfl) rfl (Ca.indexAddr) (fun Q0 k0 => L.idxR (xs := r1.1) (e := eI) Try.underlying24 info3 hF rfl rfl rfl rfl rfl hb3 rfl rfl (L.nil k0)) ?_
      exact A.on (hO _ _ _ n27) (Le.mk [(0, 0), (1, 1)] hm rfl ⟨⟨_, rfl, rfl⟩, ⟨_, rfl, rfl⟩, ⟨_, rfl, rfl⟩, ⟨_, rfl, rfl⟩, ⟨_, rfl, rfl⟩, trivial⟩ ⟨⟨_, rfl, rfl⟩, trivial⟩ ⟨⟨_, _, rfl, rfl, rfl⟩, trivial⟩)
    have n3 : W 13 #[true, true, false, false, false, false, false, false, false, false, false, false, false, false, false] (mkSt [(0, one (cS a0)), (2, one (Cell.ptr 0 0)), (4, one (Cell.own 1)), (17, one (Cell.ep 1 ((0 : Int).toNat) 0))] [(1, ⟨1, List.map eI r1.1⟩)] [(0, [cI (0 : Int), cI (0 : Int), cI (0 : Int), cI (0 : Int)])] 2) := by
      refine hI _ _ _ ?_
      refine A.take 3 rfl (by kernel_rfl) (by kernel_rfl) (by kernel_rfl) rfl (Ca.move) (fun Q0 k0 => L.move hF rfl rfl rfl (L.nil k0)) ?_
      exact A.on (hO _ _ _ n11) (Le.mk [(0, 0), (1, 1)] hm rfl ⟨⟨_, rfl, rfl⟩, ⟨_, rfl, rfl⟩, ⟨_, rfl, rfl⟩, ⟨_, rfl, rfl⟩, ⟨_, rfl, rfl⟩, trivial⟩ ⟨⟨_, rfl, rfl⟩, trivial⟩ ⟨⟨_, _, rfl, rfl, rfl⟩, trivial⟩)
    have n1 : W 14 #[true, false, false, false, false, false, false, false, false, false, false, false, false, false, false] (mkSt [(0, one (cS a0)), (2, one (Cell.ptr 0 0)), (4, one (Cell.own 1)), (16, one (Cell.own 1))] [(1, ⟨1, List.map eI r1.1⟩)] [(0, [cI (0 : Int), cI (0 : Int), cI (0 : Int), cI (0 : Int)])] 2) := by
      refine hI _ _ _ ?_
      refine A.take 1 rfl (by kernel_rfl) (by kernel_rfl) (by kernel_rfl) rfl (Ca.indexAddr) (fun Q0 k0 => L.idxR (xs := r1.1) (e := eI) Try.underlying24 info3 hF rfl rfl rfl rfl rfl hb2 rfl rfl (L.nil k0)) ?_
      exact A.on (hO _ _ _ n3) (Le.mk [(0, 0), (1, 1)] hm rfl ⟨⟨_, rfl, rfl⟩, ⟨_, rfl, rfl⟩, ⟨_, rfl, rfl⟩, ⟨_, rfl, rfl⟩, trivial⟩ ⟨⟨_, rfl, rfl⟩, trivial⟩ ⟨⟨_, _, rfl, rfl, rfl⟩, trivial⟩)
    have n0 : W 15 #[false, false, false, false, false, false, false, false, false, false, false, false, false, false, false] (mkSt [(0, one (cS a0)), (2, one (Cell.ptr 0 0)), (4, one (Cell.own 1))] [(1, ⟨1, List.map eI r1.1⟩)] [(0, [cI (0 : Int), cI (0 : Int), cI (0 : Int), cI (0 : Int)])] 2) := by
      refine hI _ _ _ ?_
      refine A.take 0 rfl (by kernel_rfl) (by kernel_rfl) (by kernel_rfl) rfl (Ca.move) (fun Q0 k0 => L.move hF rfl rfl rfl (L.nil k0)) ?_
      exact A.on (hO _ _ _ n1) (Le.mk [(0, 0), (1, 1)] hm rfl ⟨⟨_, rfl, rfl⟩, ⟨_, rfl, rfl⟩, ⟨_, rfl, rfl⟩, ⟨_, rfl, rfl⟩, trivial⟩ ⟨⟨_, rfl, rfl⟩, trivial⟩ ⟨⟨_, _, rfl, rfl, rfl⟩, trivial⟩)
    exact hI _ _ _ (A.on (hO _ _ _ n0) (Le.mk [(0, 1), (1, 2)] hm rfl ⟨⟨_, rfl, rfl⟩, ⟨_, rfl, rfl⟩, ⟨_, rfl, rfl⟩, trivial⟩ ⟨⟨_, rfl, rfl⟩, trivial⟩ ⟨⟨_, _, rfl, rfl, rfl⟩, trivial⟩))
/-! ### Flaws_eqTimes -/
def Flaws_eqTimes (k : Nat) (a0 : Timpl_Times) (a1 : Timpl_Times) : Option Bool := cond (a0.Auth != a1.Auth) (some false) (cond (a0.Start != a1.Start) (some false) (cond (a0.End != a1.End) (some false) (cond (a0.Renew != a1.Renew) (some false) (some true))))
theorem ent59 : Enters Try.prog 59 := ⟨Try.f59, Try.func59, rfl, by decide⟩
set_option maxHeartbeats 8000000 in
set_option maxRecDepth 100000 in
theorem Flaws_eqTimes_gives (k : Nat) (a0 : Timpl_Times) (a1 : Timpl_Times) (r : Bool) (H : Flaws_eqTimes k a0 a1 = some r) : Gives Try.prog 59 [V.agg [cI a0.Auth, cI a0.Start, cI a0.End, cI a0.Renew], V.agg [cI a1.Auth, cI a1.Start, cI a1.End, cI a1.Renew]] [] [V.one (cL r)] [] := by
  refine Gives.intro Try.func59 rfl rfl rfl rfl ?_
  intro F hF hm
  unfold Flaws_eqTimes at H
  obtain ⟨K, hK⟩ : ∃ K, k ≤ K := ⟨k, Nat.le_refl k⟩
  refine WpC.seq ?_
  refine WpC.regionL ?_
  refine L.box 8 hF rfl rfl rfl rfl ?_
  refine L.box 9 hF rfl rfl rfl rfl ?_
  refine L.assign hF rfl rfl rfl ?_
  refine L.nil ?_
  refine WpC.seq ?_
  refine WpC.seq ?_
  refine WpC.regionL ?_
  refine L.fieldAddr Try.underlying65 rfl info3 rfl hF rfl rfl rfl rfl rfl ?_
  refine L.loadPtr shape3 hF rfl rfl rfl rfl rfl rfl ?_
  refine L.fieldAddr Try.underlying65 rfl info3 rfl hF rfl rfl rfl rfl rfl ?_
  refine L.loadPtr shape3 hF rfl rfl rfl rfl rfl rfl ?_
  refine L.bin hF rfl rfl rfl rfl rfl rfl ?_
  refine L.nil ?_
  refine WpC.cond rfl (fun hc => ?_) (fun hc => ?_)
  · replace H := condT hc H
    refine WpC.seq ?_
    refine WpC.regionL ?_
    refine L.assign hF rfl rfl rfl ?_
    refine L.nil ?_
    refine WpC.ret ?_
    cases H
    exact Leaves.ret rfl rfl rfl ⟨rfl, rfl⟩
  · replace H := condF hc H
    refine WpC.skip ?_
    refine WpC.seq ?_
    refine WpC.seq ?_
    refine WpC.regionL ?_
    refine L.fieldAddr Try.underlying65 rfl info3 rfl hF rfl rfl rfl rfl rfl ?_
    refine L.loadPtr shape3 hF rfl rfl rfl rfl rfl rfl ?_
    refine L.fieldAddr Try.underlying65 rfl info3 rfl hF rfl rfl rfl rfl rfl ?_
    refine L.loadPtr shape3 hF rfl rfl rfl rfl rfl rfl ?_
    refine L.bin hF rfl rfl rfl rfl rfl rfl ?_
    refine L.nil ?_
    refine WpC.cond rfl (fun hc => ?_) (fun hc => ?_)
    · replace H := condT hc H
      refine WpC.seq ?_
      refine WpC.regionL ?_
      refine L.assign hF rfl rfl rfl ?_
      refine L.nil ?_
      refine WpC.ret ?_
      cases H
      exact Leaves.ret rfl rfl rfl ⟨rfl, rfl⟩
    · replace H := condF hc H
      refine WpC.skip ?_
      refine WpC.seq ?_
      refine WpC.seq ?_
      refine WpC.regionL ?_
      refine L.fieldAddr Try.underlying65 rfl info3 rfl hF rfl rfl rfl rfl rfl ?_
      refine L.loadPtr shape3 hF rfl rfl rfl rfl rfl rfl ?_
      refine L.fieldAddr Try.underlying65 rfl info3 rfl hF rfl rfl rfl rfl rfl ?_
      refine L.loadPtr shape3 hF rfl rfl rfl rfl rfl rfl ?_
      refine L.bin hF rfl rfl rfl rfl rfl rfl ?_
      refine L.nil ?_
      refine WpC.cond rfl (fun hc => ?_) (fun hc => ?_)
      · replace H := condT hc H
        refine WpC.seq ?_
        refine WpC.regionL ?_
        refine L.assign hF rfl rfl rfl ?_
        refine L.nil ?_
        refine WpC.ret ?_
        cases H
        exact Leaves.ret rfl rfl rfl ⟨rfl, rfl⟩
      · replace H := condF hc H
        refine WpC.skip ?_
        refine WpC.seq ?_
        refine WpC.seq ?_
        refine WpC.regionL ?_
        refine L.fieldAddr Try.underlying65 rfl info3 rfl hF rfl rfl rfl rfl rfl ?_
        refine L.loadPtr shape3 hF rfl rfl rfl rfl rfl rfl ?_
        refine L.fieldAddr Try.underlying65 rfl info3 rfl hF rfl rfl rfl rfl rfl ?_
        refine L.loadPtr shape3 hF rfl rfl rfl rfl rfl rfl ?_
        refine L.bin hF rfl rfl rfl rfl rfl rfl ?_
        refine L.nil ?_
        refine WpC.cond rfl (fun hc => ?_) (fun hc => ?_)
        · replace H := condT hc H
          refine WpC.seq ?_
          refine WpC.regionL ?_
          refine L.assign hF rfl rfl rfl ?_
          refine L.nil ?_
          refine WpC.ret ?_
          cases H
          exact Leaves.ret rfl rfl rfl ⟨rfl, rfl⟩
        · replace H := condF hc H
          refine WpC.skip ?_
          refine WpC.seq ?_
          refine WpC.regionL ?_
          refine L.assign hF rfl rfl rfl ?_
          refine L.nil ?_
          refine WpC.ret ?_
          cases H
          exact Leaves.ret rfl rfl rfl ⟨rfl, rfl⟩
/-! ### Flaws_FnExactReadTimes -/
def Flaws_FnExactReadTimes (k : Nat) (a0 : List UInt8) : Option Bool := cond (decide ((a0.length : Int) > (1048576 : Int))) (some true) ((Fspec_ReadTimes k a0).bind fun r1 => (Fimpl_ReadTimes k a0).bind fun r2 => (Flaws_eqTimes k r2.1 r1.1).bind fun r6 => cond (!r6) (some false) (cond (r2.2 != r1.2) (some false) (some true)))
theorem ent11 : Enters Try.prog 11 := ⟨Try.f11, Try.func11, rfl, by decide⟩
set_option maxHeartbeats 8000000 in
set_option maxRecDepth 100000 in
theorem Flaws_FnExactReadTimes_gives (k : Nat) (a0 : List UInt8) (r : Bool) (H : Flaws_FnExactReadTimes k a0 = some r) : Gives Try.prog 11 [V.one (cS a0)] [] [V.one (cL r)] [] := by
  refine Gives.intro Try.func11 rfl rfl rfl rfl ?_
  intro F hF hm
  unfold Flaws_FnExactReadTimes at H
  obtain ⟨K, hK⟩ : ∃ K, k ≤ K := ⟨k, Nat.le_refl k⟩
  refine WpC.seq ?_
  refine WpC.regionL ?_
  refine L.assign hF rfl rfl rfl ?_
  refine L.nil ?_
  refine WpC.seq ?_
  refine WpC.seq ?_
  refine WpC.regionL ?_
  refine L.move hF rfl rfl rfl ?_
  refine L.lenS Try.underlying9 hF rfl rfl rfl ?_
  refine L.bin hF rfl rfl rfl rfl rfl rfl ?_
  refine L.nil ?_
  refine WpC.cond rfl (fun hc => ?_) (fun hc => ?_)
  · replace H := condT hc H
    refine WpC.seq ?_
    refine WpC.regionL ?_
    refine L.assign hF rfl rfl rfl ?_
    refine L.nil ?_
    refine WpC.ret ?_
    cases H
    exact Leaves.ret rfl rfl rfl ⟨rfl, rfl⟩
  · replace H := condF hc H
    refine WpC.skip ?_
    refine WpC.seq ?_
    refine WpC.regionL ?_
    refine L.move hF rfl rfl rfl ?_
    obtain ⟨r1, hr1, H⟩ := bindS H
    refine L.call [false] [] [] 1 hF rfl rfl rfl ent57 rfl rfl rfl rfl rfl (Fspec_ReadTimes_gives k  a0 r1 hr1) rfl ?_
    refine L.move hF rfl rfl rfl ?_
    refine L.extract hF rfl rfl rfl rfl ?_
    refine L.extract hF rfl rfl rfl rfl ?_
    refine L.alloc 6 info65 rfl hF rfl rfl rfl rfl ?_
    refine L.storePtr shape65 hF rfl rfl rfl rfl rfl rfl rfl ?_
    refine L.assign hF rfl rfl rfl ?_
    refine L.nil ?_
    refine WpC.seq ?_
    refine WpC.regionL ?_
    refine L.move hF rfl rfl rfl ?_
    obtain ⟨r2, hr2, H⟩ := bindS H
    refine L.call [false] [] [] 7 hF rfl rfl rfl ent58 rfl rfl rfl rfl rfl (Fimpl_ReadTimes_gives k  a0 r2 hr2) rfl ?_
    refine L.move hF rfl rfl rfl ?_
    refine L.extract hF rfl rfl rfl rfl ?_
    refine L.extract hF rfl rfl rfl rfl ?_
    refine L.alloc 12 info65 rfl hF rfl rfl rfl rfl ?_
    refine L.storePtr shape65 hF rfl rfl rfl rfl rfl rfl rfl ?_
    refine L.assign hF rfl rfl rfl ?_
    refine L.nil ?_
    refine WpC.seq ?_
    refine WpC.seq ?_
    refine WpC.regionL ?_
    refine L.loadPtr shape65 hF rfl rfl rfl rfl rfl rfl ?_
    refine L.loadPtr shape65 hF rfl rfl rfl rfl rfl rfl ?_
    obtain ⟨r6, hr6, H⟩ := bindS H
    refine L.call [false, false] [] [] 13 hF rfl rfl rfl ent59 rfl rfl rfl rfl rfl (Flaws_eqTimes_gives k  r2.1 r1.1 r6 hr6) rfl ?_
    refine L.not hF rfl rfl rfl ?_
    refine L.move hF rfl rfl rfl ?_
    refine L.split (fun hc => ?_) (fun hc => ?_)
    · replace H := condT hc H
      refine L.off hF rfl rfl ?_
      refine L.off hF rfl rfl ?_
      refine L.off hF rfl rfl ?_
      refine L.pick hF rfl rfl rfl rfl ?_
      refine L.nil ?_
      refine WpC.cond rfl (fun _ => ?_) (fun hc => by cases hc)
      refine WpC.seq ?_
      refine WpC.regionL ?_
      refine L.assign hF rfl rfl rfl ?_
      refine L.nil ?_
      refine WpC.ret ?_
      cases H
      exact Leaves.ret rfl rfl rfl ⟨rfl, rfl⟩
    · replace H := condF hc H
      refine L.move hF rfl rfl rfl ?_
      refine L.move hF rfl rfl rfl ?_
      refine L.neL Try.underlying4 hF rfl rfl rfl rfl ?_
      refine L.pick hF rfl rfl rfl rfl ?_
      refine L.nil ?_
      refine WpC.cond rfl (fun hc => ?_) (fun hc => ?_)
      · replace H := condT hc H
        refine WpC.seq ?_
        refine WpC.regionL ?_
        refine L.assign hF rfl rfl rfl ?_
        refine L.nil ?_
        refine WpC.ret ?_
        cases H
        exact Leaves.ret rfl rfl rfl ⟨rfl, rfl⟩
      · replace H := condF hc H
        refine WpC.skip ?_
        refine WpC.seq ?_
        refine WpC.regionL ?_
        refine L.assign hF rfl rfl rfl ?_
        refine L.nil ?_
        refine WpC.ret ?_
        cases H
        exact Leaves.ret rfl rfl rfl ⟨rfl, rfl⟩
end Go.Proofs.Ytcolcmjcjpikcaa.M
