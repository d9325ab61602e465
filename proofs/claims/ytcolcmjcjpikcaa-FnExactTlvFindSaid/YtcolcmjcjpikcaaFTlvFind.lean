import Derived.Test.YtcolcmjcjpikcaaFTlvFindx0
import Derived.Test.YtcolcmjcjpikcaaProg
namespace Go.Proofs.Ytcolcmjcjpikcaa.M
open Go Go.MG
set_option linter.unusedVariables false
set_option linter.unusedSimpArgs false
/-! ### Fspec_l14Node -/
def Fspec_l14Node.l4 (cREC : Tspec_l14R → Int → Int → Int → Option (Tspec_l14R × Int)) : Nat → Int → Int → Int → Int → (List UInt8) → (List Timpl_Tlv) → Int → Int → Int → Bool → (List Int) → Option (Tspec_l14R × Int)
  | 0, _, _, _, _, _, _, _, _, _, _, _ => none
  | k4 + 1, v96, v97, v98, v99, v100, v101, v102, v103, v104, v105, v106 => cond (decide (v98 < v99)) ((cREC (⟨v100, v101, v102, v103⟩ : Tspec_l14R) v98 v99 (IntKind.i64.wrap (v97 + (1 : Int)))).bind fun r107 => cond (r107.1.code != (0 : Int)) (some (r107.1, v96)) (cond (decide ((2 * (v106.length + ([(IntKind.i64.wrap ((r107.1.out.length : Int) - (1 : Int)))] : List Int).length) + 192) * 8 ≤ 281474976710656)) ((Fspec_l14Node.l4 cREC k4) v96 v97 r107.2 v99 r107.1.s r107.1.out r107.1.begun r107.1.code v104 v105 (v106 ++ ([(IntKind.i64.wrap ((r107.1.out.length : Int) - (1 : Int)))] : List Int))) none)) (cond (decide ((2 * (v101.length + ([(⟨v104, v105, ([] : List UInt8), v106⟩ : Timpl_Tlv)] : List Timpl_Tlv).length) + 192) * 56 ≤ 281474976710656)) (some ((⟨v100, (v101 ++ ([(⟨v104, v105, ([] : List UInt8), v106⟩ : Timpl_Tlv)] : List Timpl_Tlv)), v102, v103⟩ : Tspec_l14R), v99)) none)
def Fspec_l14Node.j2 (cREC : Tspec_l14R → Int → Int → Int → Option (Tspec_l14R × Int)) (k : Nat) (v18 : Int) (v19 : Int) (v20 : Bool) (v21 : Int) (v22 : Int) (v23 : Int) (v24 : Bool) (v25 : List UInt8) (v26 : List Timpl_Tlv) (v27 : Int) (v28 : Int) : Option (Tspec_l14R × Int) := cond v24 (some ((⟨v25, v26, v27, (1 : Int)⟩ : Tspec_l14R), v18)) (cond v20 ((cut? v25 v23 (IntKind.i64.wrap (v23 + v22))).bind fun b31 => cond (decide ((2 * (v26.length + ([(⟨v21, v20, b31, []⟩ : Timpl_Tlv)] : List Timpl_Tlv).length) + 192) * 56 ≤ 281474976710656)) (some ((⟨v25, (v26 ++ ([(⟨v21, v20, b31, []⟩ : Timpl_Tlv)] : List Timpl_Tlv)), v27, v28⟩ : Tspec_l14R), (IntKind.i64.wrap (v23 + v22)))) none) (Fspec_l14Node.l4 cREC k v18 v19 v23 (IntKind.i64.wrap (v23 + v22)) v25 v26 v27 v28 v21 v20 []))
def Fspec_l14Node : Nat → Tspec_l14R → Int → Int → Int → Option (Tspec_l14R × Int)
  | 0, _, _, _, _ => none
  | k + 1, a0, a1, a2, a3 => cond (decide (a0.begun ≥ (60 : Int))) (some ((⟨a0.s, a0.out, a0.begun, (4 : Int)⟩ : Tspec_l14R), a1)) (cond (decide (a1 ≥ a2)) (some ((⟨a0.s, a0.out, (IntKind.i64.wrap (a0.begun + (1 : Int))), (1 : Int)⟩ : Tspec_l14R), a1)) ((at? a0.s a1).bind fun b1 => (at? a0.s a1).bind fun b2 => (Fspec_l1In k (Int.tmod (b2.toNat : Int) (128 : Int)) (1 : Int) (100 : Int)).bind fun r4 => cond (!r4) (some ((⟨a0.s, a0.out, (IntKind.i64.wrap (a0.begun + (1 : Int))), (2 : Int)⟩ : Tspec_l14R), a1)) (cond (decide (a3 ≥ (8 : Int))) (some ((⟨a0.s, a0.out, (IntKind.i64.wrap (a0.begun + (1 : Int))), (3 : Int)⟩ : Tspec_l14R), a1)) ((cut? a0.s (IntKind.i64.wrap (a1 + (1 : Int))) a2).bind fun b5 => (Fspec_ReadVar k b5).bind fun r6 => cond (r6.2 == (0 : Int)) (Fspec_l14Node.j2 (Fspec_l14Node k) k a1 a3 (decide ((b1.toNat : Int) < (128 : Int))) (Int.tmod (b2.toNat : Int) (128 : Int)) r6.1 (IntKind.i64.wrap ((IntKind.i64.wrap (a1 + (1 : Int))) + r6.2)) true a0.s a0.out (IntKind.i64.wrap (a0.begun + (1 : Int))) a0.code) (Fspec_l14Node.j2 (Fspec_l14Node k) k a1 a3 (decide ((b1.toNat : Int) < (128 : Int))) (Int.tmod (b2.toNat : Int) (128 : Int)) r6.1 (IntKind.i64.wrap ((IntKind.i64.wrap (a1 + (1 : Int))) + r6.2)) (decide (r6.1 > (IntKind.i64.wrap (a2 - (IntKind.i64.wrap ((IntKind.i64.wrap (a1 + (1 : Int))) + r6.2)))))) a0.s a0.out (IntKind.i64.wrap (a0.begun + (1 : Int))) a0.code)))))
theorem ent104 : Enters Try.prog 104 := ⟨Try.f104, Try.func104, rfl, by decide⟩
set_option maxHeartbeats 8000000 in
set_option maxRecDepth 100000 in
theorem Fspec_l14Node_gives : ∀ (k : Nat) (a0 : Tspec_l14R) (a1 : Int) (a2 : Int) (a3 : Int) (r : Tspec_l14R × Int) (H : Fspec_l14Node k a0 a1 a2 a3 = some r), Gives Try.prog 104 [V.agg [cS a0.s, Cell.ow 4 (List.map eTimpl_Tlv a0.out), cI a0.begun, cI a0.code], V.one (cI a1), V.one (cI a2), V.one (cI a3)] [] [V.agg [cS r.1.s, Cell.ow 4 (List.map eTimpl_Tlv r.1.out), cI r.1.begun, cI r.1.code], V.one (cI r.2)] [] := by
  intro k
  induction k with
  | zero => intros; rename_i H; cases H
  | succ k ih =>
    intro a0 a1 a2 a3 r H
    refine Gives.intro Try.func104 rfl rfl rfl rfl ?_
    intro F hF hm
    rw [Fspec_l14Node] at H
    obtain ⟨K, hK⟩ : ∃ K, k ≤ K := ⟨k, Nat.le_refl k⟩
    refine WpC.seq ?_
    refine WpC.regionL ?_
    refine L.box 7 hF rfl rfl rfl rfl ?_
    refine L.alloc 8 info141 rfl hF rfl rfl rfl rfl ?_
    refine L.assign hF rfl rfl rfl ?_
    refine L.nil ?_
    refine WpC.seq ?_
    refine WpC.seq ?_
    refine WpC.regionL ?_
    refine L.fieldAddr Try.underlying141 rfl info3 rfl hF rfl rfl rfl rfl rfl ?_
    refine L.loadPtr shape3 hF rfl rfl rfl rfl rfl rfl ?_
    refine L.bin hF rfl rfl rfl rfl rfl rfl ?_
    refine L.nil ?_
    refine WpC.cond rfl (fun hc => ?_) (fun hc => ?_)
    · replace H := condT hc H
      refine WpC.seq ?_
      refine WpC.regionL ?_
      refine L.fieldAddr Try.underlying141 rfl info3 rfl hF rfl rfl rfl rfl rfl ?_
      refine L.storePtr shape3 hF rfl rfl rfl rfl rfl rfl rfl ?_
      refine L.nil ?_
      refine WpC.seq ?_
      refine WpC.regionL ?_
      refine L.loadPtr shape141 hF rfl rfl rfl rfl rfl rfl ?_
      refine L.move hF rfl rfl rfl ?_
      refine L.storePtr shape141 hF rfl rfl rfl rfl rfl rfl rfl ?_
      refine L.assign hF rfl rfl rfl ?_
      refine L.nil ?_
      refine WpC.ret ?_
      cases H
      exact Leaves.ret rfl rfl rfl ⟨rfl, rfl⟩
    · replace H := condF hc H
      refine WpC.skip ?_
      refine WpC.seq ?_
      refine WpC.regionL ?_
      refine L.fieldAddr Try.underlying141 rfl info3 rfl hF rfl rfl rfl rfl rfl ?_
      refine L.loadPtr shape3 hF rfl rfl rfl rfl rfl rfl ?_
      refine L.bin hF rfl rfl rfl rfl rfl rfl ?_
      refine L.fieldAddr Try.underlying141 rfl info3 rfl hF rfl rfl rfl rfl rfl ?_
      refine L.storePtr shape3 hF rfl rfl rfl rfl rfl rfl rfl ?_
      refine L.nil ?_
      refine WpC.seq ?_
      refine WpC.seq ?_
      refine WpC.regionL ?_
      refine L.move hF rfl rfl rfl ?_
      refine L.move hF rfl rfl rfl ?_
      refine L.bin hF rfl rfl rfl rfl rfl rfl ?_
      refine L.nil ?_
      refine WpC.cond rfl (fun hc => ?_) (fun hc => ?_)
      · replace H := condT hc H
        refine WpC.seq ?_
        refine WpC.regionL ?_
        refine L.fieldAddr Try.underlying141 rfl info3 rfl hF rfl rfl rfl rfl rfl ?_
        refine L.storePtr shape3 hF rfl rfl rfl rfl rfl rfl rfl ?_
        refine L.nil ?_
        refine WpC.seq ?_
        refine WpC.regionL ?_
        refine L.loadPtr shape141 hF rfl rfl rfl rfl rfl rfl ?_
        refine L.move hF rfl rfl rfl ?_
        refine L.storePtr shape141 hF rfl rfl rfl rfl rfl rfl rfl ?_
        refine L.assign hF rfl rfl rfl ?_
        refine L.nil ?_
        refine WpC.ret ?_
        cases H
        exact Leaves.ret rfl rfl rfl ⟨rfl, rfl⟩
      · replace H := condF hc H
        refine WpC.skip ?_
        refine WpC.seq ?_
        refine WpC.regionL ?_
        refine L.fieldAddr Try.underlying141 rfl info9 rfl hF rfl rfl rfl rfl rfl ?_
        refine L.loadPtr shape9 hF rfl rfl rfl rfl rfl rfl ?_
        refine L.move hF rfl rfl rfl ?_
        obtain ⟨b1, hb1, H⟩ := bindS H
        refine L.idxS Try.underlying9 hF rfl rfl rfl rfl hb1 ?_
        refine L.ofB Try.underlying5 Try.underlying3 hF rfl rfl rfl ?_
        refine L.bin hF rfl rfl rfl rfl rfl rfl ?_
        refine L.assign hF rfl rfl rfl ?_
        refine L.nil ?_
        refine WpC.seq ?_
        refine WpC.regionL ?_
        refine L.fieldAddr Try.underlying141 rfl info9 rfl hF rfl rfl rfl rfl rfl ?_
        refine L.loadPtr shape9 hF rfl rfl rfl rfl rfl rfl ?_
        refine L.move hF rfl rfl rfl ?_
        obtain ⟨b2, hb2, H⟩ := bindS H
        refine L.idxS Try.underlying9 hF rfl rfl rfl rfl hb2 ?_
        refine L.ofB Try.underlying5 Try.underlying3 hF rfl rfl rfl ?_
        refine L.rem hF rfl rfl rfl rfl (by decide) ?_
        refine L.assign hF rfl rfl rfl ?_
        refine L.nil ?_
        refine WpC.seq ?_
        refine WpC.seq ?_
        refine WpC.regionL ?_
        refine L.move hF rfl rfl rfl ?_
        obtain ⟨r4, hr4, H⟩ := bindS H
        refine L.call [false, false, false] [] [] 9 hF rfl rfl rfl ent152 rfl rfl rfl rfl rfl (Fspec_l1In_gives k  (Int.tmod (b2.toNat : Int) (128 : Int)) (1 : Int) (100 : Int) r4 hr4) rfl ?_
        refine L.not hF rfl rfl rfl ?_
        refine L.nil ?_
        refine WpC.cond rfl (fun hc => ?_) (fun hc => ?_)
        · replace H := condT hc H
          refine WpC.seq ?_
          refine WpC.regionL ?_
          refine L.fieldAddr Try.underlying141 rfl info3 rfl hF rfl rfl rfl rfl rfl ?_
          refine L.storePtr shape3 hF rfl rfl rfl rfl rfl rfl rfl ?_
          refine L.nil ?_
          refine WpC.seq ?_
          refine WpC.regionL ?_
          refine L.loadPtr shape141 hF rfl rfl rfl rfl rfl rfl ?_
          refine L.move hF rfl rfl rfl ?_
          refine L.storePtr shape141 hF rfl rfl rfl rfl rfl rfl rfl ?_
          refine L.assign hF rfl rfl rfl ?_
          refine L.nil ?_
          refine WpC.ret ?_
          cases H
          exact Leaves.ret rfl rfl rfl ⟨rfl, rfl⟩
        · replace H := condF hc H
          refine WpC.skip ?_
          refine WpC.seq ?_
          refine WpC.seq ?_
          refine WpC.regionL ?_
          refine L.move hF rfl rfl rfl ?_
          refine L.bin hF rfl rfl rfl rfl rfl rfl ?_
          refine L.nil ?_
          refine WpC.cond rfl (fun hc => ?_) (fun hc => ?_)
          · replace H := condT hc H
            refine WpC.seq ?_
            refine WpC.regionL ?_
            refine L.fieldAddr Try.underlying141 rfl info3 rfl hF rfl rfl rfl rfl rfl ?_
            refine L.storePtr shape3 hF rfl rfl rfl rfl rfl rfl rfl ?_
            refine L.nil ?_
            refine WpC.seq ?_
            refine WpC.regionL ?_
            refine L.loadPtr shape141 hF rfl rfl rfl rfl rfl rfl ?_
            refine L.move hF rfl rfl rfl ?_
            refine L.storePtr shape141 hF rfl rfl rfl rfl rfl rfl rfl ?_
            refine L.assign hF rfl rfl rfl ?_
            refine L.nil ?_
            refine WpC.ret ?_
            cases H
            exact Leaves.ret rfl rfl rfl ⟨rfl, rfl⟩
          · replace H := condF hc H
            refine WpC.skip ?_
            refine WpC.seq ?_
            refine WpC.regionL ?_
            refine L.fieldAddr Try.underlying141 rfl info9 rfl hF rfl rfl rfl rfl rfl ?_
            refine L.loadPtr shape9 hF rfl rfl rfl rfl rfl rfl ?_
            refine L.move hF rfl rfl rfl ?_
            refine L.bin hF rfl rfl rfl rfl rfl rfl ?_
            refine L.move hF rfl rfl rfl ?_
            obtain ⟨b5, hb5, H⟩ := bindS H
            refine L.cutS Try.underlying9 hF rfl rfl rfl rfl rfl hb5 ?_
            obtain ⟨r6, hr6, H⟩ := bindS H
            refine L.call [false] [] [] 10 hF rfl rfl rfl ent216 rfl rfl rfl rfl rfl (Fspec_ReadVar_gives k  b5 r6 hr6) rfl ?_
            refine L.move hF rfl rfl rfl ?_
            refine L.extract hF rfl rfl rfl rfl ?_
            refine L.extract hF rfl rfl rfl rfl ?_
            refine L.assign hF rfl rfl rfl ?_
            refine L.assign hF rfl rfl rfl ?_
            refine L.nil ?_
            refine WpC.seq ?_
            refine WpC.regionL ?_
            refine L.move hF rfl rfl rfl ?_
            refine L.bin hF rfl rfl rfl rfl rfl rfl ?_
            refine L.move hF rfl rfl rfl ?_
            refine L.bin hF rfl rfl rfl rfl rfl rfl ?_
            refine L.assign hF rfl rfl rfl ?_
            refine L.nil ?_
            refine WpC.seq ?_
            refine WpC.join (fun σ => ∃ kj2 : Nat, ∃ v18 : Int, ∃ v19 : Int, ∃ v20 : Bool, ∃ v21 : Int, ∃ v22 : Int, ∃ v23 : Int, ∃ v24 : Bool, ∃ v25 : List UInt8, ∃ v26 : List Timpl_Tlv, ∃ v27 : Int, ∃ v28 : Int, kj2 ≤ K ∧ Fspec_l14Node.j2 (Fspec_l14Node k) kj2 v18 v19 v20 v21 v22 v23 v24 v25 v26 v27 v28 = some r ∧ σ = mkSt [(1, one (cI v18)), (3, one (cI v19)), (4, one (Cell.ptr 0 0)), (8, one (Cell.ptr 1 0)), (10, one (cL v20)), (11, one (cI v21)), (12, one (cI v22)), (14, one (cI v23)), (80, one (cL v24))] [(2, ⟨4, List.map eTimpl_Tlv v26⟩)] [(0, [cS v25, Cell.own 2, cI v27, cI v28]), (1, [cS ([] : List UInt8), Cell.nil, cI (0 : Int), cI (0 : Int)])] 3) ?_ ?_
            · rintro _ ⟨kj2, v18, v19, v20, v21, v22, v23, v24, v25, v26, v27, v28, hkj2, H, rfl⟩
              unfold Fspec_l14Node.j2 at H
              refine WpC.cond rfl (fun hc => ?_) (fun hc => ?_)
              · replace H := condT hc H
                refine WpC.seq ?_
                refine WpC.regionL ?_
                refine L.fieldAddr Try.underlying141 rfl info3 rfl hF rfl rfl rfl rfl rfl ?_
                refine L.storePtr shape3 hF rfl rfl rfl rfl rfl rfl rfl ?_
                refine L.nil ?_
                refine WpC.seq ?_
                refine WpC.regionL ?_
                refine L.loadPtr shape141 hF rfl rfl rfl rfl rfl rfl ?_
                refine L.move hF rfl rfl rfl ?_
                refine L.storePtr shape141 hF rfl rfl rfl rfl rfl rfl rfl ?_
                refine L.assign hF rfl rfl rfl ?_
                refine L.nil ?_
                refine WpC.ret ?_
                cases H
                exact Leaves.ret rfl rfl rfl ⟨rfl, rfl⟩
              · replace H := condF hc H
                refine WpC.skip ?_
                refine WpC.seq ?_
                refine WpC.regionL ?_
                refine L.move hF rfl rfl rfl ?_
                refine L.move hF rfl rfl rfl ?_
                refine L.bin hF rfl rfl rfl rfl rfl rfl ?_
                refine L.assign hF rfl rfl rfl ?_
                refine L.nil ?_
                refine WpC.seq ?_
                refine WpC.regionL ?_
                refine L.move hF rfl rfl rfl ?_
                refine L.move hF rfl rfl rfl ?_
                refine L.buildF built63 hF rfl rfl rfl rfl ?_
                refine L.alloc 3 info63 rfl hF rfl rfl rfl rfl ?_
                refine L.storePtr shape63 hF rfl rfl rfl rfl rfl rfl rfl ?_
                refine L.nil ?_
                refine WpC.seq ?_
                refine WpC.seq ?_
                refine WpC.regionL ?_
                refine L.move hF rfl rfl rfl ?_
                refine L.nil ?_
                refine WpC.cond rfl (fun hc => ?_) (fun hc => ?_)
                · replace H := condT hc H
                  refine WpC.seq ?_
                  refine WpC.regionL ?_
                  refine L.fieldAddr Try.underlying141 rfl info9 rfl hF rfl rfl rfl rfl rfl ?_
                  refine L.loadPtr shape9 hF rfl rfl rfl rfl rfl rfl ?_
                  refine L.move hF rfl rfl rfl ?_
                  refine L.move hF rfl rfl rfl ?_
                  obtain ⟨b31, hb31, H⟩ := bindS H
                  refine L.cutS Try.underlying9 hF rfl rfl rfl rfl rfl hb31 ?_
                  refine L.fieldAddr Try.underlying63 rfl info9 rfl hF rfl rfl rfl rfl rfl ?_
                  refine L.storePtr shape9 hF rfl rfl rfl rfl rfl rfl rfl ?_
                  refine L.nil ?_
                  refine WpC.seq ?_
                  refine WpC.regionL ?_
                  refine L.fieldAddr Try.underlying141 rfl info33 rfl hF rfl rfl rfl rfl rfl ?_
                  refine L.loadPtr shape33 hF rfl rfl rfl rfl rfl rfl ?_
                  refine L.loadPtr shape63 hF rfl rfl rfl rfl rfl rfl ?_
                  refine L.buildSlice (e := eTimpl_Tlv) 4 ([(⟨v21, v20, b31, []⟩ : Timpl_Tlv)] : List Timpl_Tlv) Try.underlying33 info63 rfl rfl rfl hF rfl rfl rfl rfl rfl rfl rfl rfl ?_
                  obtain ⟨h32, H⟩ := condG H
                  refine L.append (xs := v26) (ys := ([(⟨v21, v20, b31, []⟩ : Timpl_Tlv)] : List Timpl_Tlv)) (e := eTimpl_Tlv) 5 Try.underlying33 info63 rfl rfl hF rfl rfl rfl rfl rfl rfl rfl rfl (fun _ => rfl) (fun _ _ h1 h2 => by cases h1; cases h2; rfl) ⟨_, Try.underlying33⟩ (of_decide_eq_true h32) rfl rfl ?_
                  refine L.fieldAddr Try.underlying141 rfl info33 rfl hF rfl rfl rfl rfl rfl ?_
                  refine L.storePtr shape33 hF rfl rfl rfl rfl rfl rfl rfl ?_
                  refine L.nil ?_
                  refine WpC.seq ?_
                  refine WpC.regionL ?_
                  refine L.loadPtr shape141 hF rfl rfl rfl rfl rfl rfl ?_
                  refine L.move hF rfl rfl rfl ?_
                  refine L.storePtr shape141 hF rfl rfl rfl rfl rfl rfl rfl ?_
                  refine L.assign hF rfl rfl rfl ?_
                  refine L.nil ?_
                  refine WpC.ret ?_
                  cases H
                  exact Leaves.ret rfl rfl rfl ⟨rfl, rfl⟩
                · replace H := condF hc H
                  refine WpC.skip ?_
                  refine WpC.seq ?_
                  refine WpC.block ?_
                  refine WpC.loopL (P := Try.prog) (fun n σ => ∃ v96 : Int, ∃ v97 : Int, ∃ v98 : Int, ∃ v99 : Int, ∃ v100 : List UInt8, ∃ v101 : List Timpl_Tlv, ∃ v102 : Int, ∃ v103 : Int, ∃ v104 : Int, ∃ v105 : Bool, ∃ v106 : List Int, n ≤ K ∧ Fspec_l14Node.l4 (Fspec_l14Node k) n v96 v97 v98 v99 v100 v101 v102 v103 v104 v105 v106 = some r ∧ σ = mkSt [(1, one (cI v96)), (3, one (cI v97)), (4, one (Cell.ptr 0 0)), (8, one (Cell.ptr 1 0)), (14, one (cI v98)), (15, one (cI v99)), (16, one (Cell.ptr 2 0))] [(3, ⟨4, List.map eTimpl_Tlv v101⟩), (4, ⟨1, List.map eI v106⟩)] [(0, [cS v100, Cell.own 3, cI v102, cI v103]), (1, [cS ([] : List UInt8), Cell.nil, cI (0 : Int), cI (0 : Int)]), (2, [cI v104, cL v105, cS ([] : List UInt8), Cell.own 4])] 5) kj2 ⟨_, ⟨v18, v19, v23, (IntKind.i64.wrap (v23 + v22)), v25, v26, v27, v28, v21, v20, [], by omega, H, rfl⟩, (Le.ownB 3 3 4 1 rfl rfl rfl).trans (Le.mk [(0, 0), (1, 1), (2, 3), (3, 2), (4, 4)] hm rfl ⟨⟨_, rfl, rfl⟩, ⟨_, rfl, rfl⟩, ⟨_, rfl, rfl⟩, ⟨_, rfl, rfl⟩, ⟨_, rfl, rfl⟩, ⟨_, rfl, rfl⟩, ⟨_, rfl, rfl⟩, trivial⟩ ⟨⟨_, rfl, rfl⟩, ⟨_, rfl, rfl⟩, trivial⟩ ⟨⟨_, _, rfl, rfl, rfl⟩, ⟨_, _, rfl, rfl, rfl⟩, ⟨_, _, rfl, rfl, rfl⟩, trivial⟩)⟩ ?_
                  clear H
                  rintro k4 _ ⟨v96, v97, v98, v99, v100, v101, v102, v103, v104, v105, v106, hk4, H, rfl⟩
                  cases k4 with
                  | zero => cases H
                  | succ k4 =>
                    rw [Fspec_l14Node.l4] at H
                    refine WpC.seq ?_
                    refine WpC.seq ?_
                    refine WpC.regionL ?_
                    refine L.move hF rfl rfl rfl ?_
                    refine L.move hF rfl rfl rfl ?_
                    refine L.bin hF rfl rfl rfl rfl rfl rfl ?_
                    refine L.nil ?_
                    refine WpC.cond rfl (fun hc => ?_) (fun hc => ?_)
                    · replace H := condT hc H
                      refine WpC.skip ?_
                      refine WpC.block ?_
                      refine WpC.seq ?_
                      refine WpC.regionL ?_
                      refine L.loadPtr shape141 hF rfl rfl rfl rfl rfl rfl ?_
                      refine L.move hF rfl rfl rfl ?_
                      refine L.move hF rfl rfl rfl ?_
                      refine L.move hF rfl rfl rfl ?_
                      refine L.bin hF rfl rfl rfl rfl rfl rfl ?_
                      obtain ⟨r107, hr107, H⟩ := bindS H
                      refine L.call [true, false, false, false] [] [] 5 hF rfl rfl rfl ent104 rfl rfl rfl rfl rfl (ih  (⟨v100, v101, v102, v103⟩ : Tspec_l14R) v98 v99 (IntKind.i64.wrap (v97 + (1 : Int))) r107 hr107) rfl ?_
                      refine L.move hF rfl rfl rfl ?_
                      refine L.extract hF rfl rfl rfl rfl ?_
                      refine L.extract hF rfl rfl rfl rfl ?_
                      refine L.alloc 10 info141 rfl hF rfl rfl rfl rfl ?_
                      refine L.storePtr shape141 hF rfl rfl rfl rfl rfl rfl rfl ?_
                      refine L.assign hF rfl rfl rfl ?_
                      refine L.nil ?_
                      refine WpC.seq ?_
                      refine WpC.regionL ?_
                      refine L.loadPtr shape141 hF rfl rfl rfl rfl rfl rfl ?_
                      refine L.storePtr shape141 hF rfl rfl rfl rfl rfl rfl rfl ?_
                      refine L.nil ?_
                      refine WpC.seq ?_
                      refine WpC.seq ?_
                      refine WpC.regionL ?_
                      refine L.fieldAddr Try.underlying141 rfl info3 rfl hF rfl rfl rfl rfl rfl ?_
                      refine L.loadPtr shape3 hF rfl rfl rfl rfl rfl rfl ?_
                      refine L.bin hF rfl rfl rfl rfl rfl rfl ?_
                      refine L.nil ?_
                      refine WpC.cond rfl (fun hc => ?_) (fun hc => ?_)
                      · replace H := condT hc H
                        refine WpC.seq ?_
                        refine WpC.regionL ?_
                        refine L.loadPtr shape141 hF rfl rfl rfl rfl rfl rfl ?_
                        refine L.move hF rfl rfl rfl ?_
                        refine L.storePtr shape141 hF rfl rfl rfl rfl rfl rfl rfl ?_
                        refine L.assign hF rfl rfl rfl ?_
                        refine L.nil ?_
                        refine WpC.ret ?_
                        cases H
                        exact Leaves.ret rfl rfl rfl ⟨rfl, rfl⟩
                      · replace H := condF hc H
                        refine WpC.skip ?_
                        refine WpC.seq ?_
                        refine WpC.regionL ?_
                        refine L.fieldAddr Try.underlying63 rfl info24 rfl hF rfl rfl rfl rfl rfl ?_
                        refine L.loadPtr shape24 hF rfl rfl rfl rfl rfl rfl ?_
                        refine L.fieldAddr Try.underlying141 rfl info33 rfl hF rfl rfl rfl rfl rfl ?_
                        refine L.loadPtr shape33 hF rfl rfl rfl rfl rfl rfl ?_
                        refine L.lenR (xs := r107.1.out) (e := eTimpl_Tlv) Try.underlying33 hF rfl rfl rfl rfl ?_
                        refine L.bin hF rfl rfl rfl rfl rfl rfl ?_
                        refine L.buildSlice (e := eI) 11 ([(IntKind.i64.wrap ((r107.1.out.length : Int) - (1 : Int)))] : List Int) Try.underlying24 info3 rfl rfl rfl hF rfl rfl rfl rfl rfl rfl rfl rfl ?_
                        obtain ⟨h108, H⟩ := condG H
                        refine L.append (xs := v106) (ys := ([(IntKind.i64.wrap ((r107.1.out.length : Int) - (1 : Int)))] : List Int)) (e := eI) 12 Try.underlying24 info3 rfl rfl hF rfl rfl rfl rfl rfl rfl rfl rfl (fun _ => rfl) (fun _ _ h1 h2 => by cases h1; cases h2; rfl) ⟨_, Try.underlying24⟩ (of_decide_eq_true h108) rfl rfl ?_
                        refine L.fieldAddr Try.underlying63 rfl info24 rfl hF rfl rfl rfl rfl rfl ?_
                        refine L.storePtr shape24 hF rfl rfl rfl rfl rfl rfl rfl ?_
                        refine L.nil ?_
                        refine WpC.regionL ?_
                        refine L.move hF rfl rfl rfl ?_
                        refine L.assign hF rfl rfl rfl ?_
                        refine L.nil ?_
                        exact ⟨k4, _, by omega, ⟨v96, v97, r107.2, v99, r107.1.s, r107.1.out, r107.1.begun, r107.1.code, v104, v105, (v106 ++ ([(IntKind.i64.wrap ((r107.1.out.length : Int) - (1 : Int)))] : List Int)), by omega, H, rfl⟩, Le.mk [(0, 0), (1, 1), (2, 2), (3, 6), (4, 12)] hm rfl ⟨⟨_, rfl, rfl⟩, ⟨_, rfl, rfl⟩, ⟨_, rfl, rfl⟩, ⟨_, rfl, rfl⟩, ⟨_, rfl, rfl⟩, ⟨_, rfl, rfl⟩, ⟨_, rfl, rfl⟩, trivial⟩ ⟨⟨_, rfl, rfl⟩, ⟨_, rfl, rfl⟩, trivial⟩ ⟨⟨_, _, rfl, rfl, rfl⟩, ⟨_, _, rfl, rfl, rfl⟩, ⟨_, _, rfl, rfl, rfl⟩, trivial⟩⟩
                    · replace H := condF hc H
                      refine WpC.exit ?_
                      refine WpC.seq ?_
                      refine WpC.regionL ?_
                      refine L.fieldAddr Try.underlying141 rfl info33 rfl hF rfl rfl rfl rfl rfl ?_
                      refine L.loadPtr shape33 hF rfl rfl rfl rfl rfl rfl ?_
                      refine L.loadPtr shape63 hF rfl rfl rfl rfl rfl rfl ?_
                      refine L.buildSlice (e := eTimpl_Tlv) 5 ([(⟨v104, v105, ([] : List UInt8), v106⟩ : Timpl_Tlv)] : List Timpl_Tlv) Try.underlying33 info63 rfl rfl rfl hF rfl rfl rfl rfl rfl rfl rfl rfl ?_
                      obtain ⟨h109, H⟩ := condG H
                      refine L.append (xs := v101) (ys := ([(⟨v104, v105, ([] : List UInt8), v106⟩ : Timpl_Tlv)] : List Timpl_Tlv)) (e := eTimpl_Tlv) 6 Try.underlying33 info63 rfl rfl hF rfl rfl rfl rfl rfl rfl rfl rfl (fun _ => rfl) (fun _ _ h1 h2 => by cases h1; cases h2; rfl) ⟨_, Try.underlying33⟩ (of_decide_eq_true h109) rfl rfl ?_
                      refine L.fieldAddr Try.underlying141 rfl info33 rfl hF rfl rfl rfl rfl rfl ?_
                      refine L.storePtr shape33 hF rfl rfl rfl rfl rfl rfl rfl ?_
                      refine L.nil ?_
                      refine WpC.seq ?_
                      refine WpC.regionL ?_
                      refine L.loadPtr shape141 hF rfl rfl rfl rfl rfl rfl ?_
                      refine L.move hF rfl rfl rfl ?_
                      refine L.storePtr shape141 hF rfl rfl rfl rfl rfl rfl rfl ?_
                      refine L.assign hF rfl rfl rfl ?_
                      refine L.nil ?_
                      refine WpC.ret ?_
                      cases H
                      exact Leaves.ret rfl rfl rfl ⟨rfl, rfl⟩
            · refine WpC.regionL ?_
              refine L.move hF rfl rfl rfl ?_
              refine L.bin hF rfl rfl rfl rfl rfl rfl ?_
              refine L.move hF rfl rfl rfl ?_
              refine L.split (fun hc => ?_) (fun hc => ?_)
              · replace H := condT hc H
                refine L.off hF rfl rfl ?_
                refine L.off hF rfl rfl ?_
                refine L.off hF rfl rfl ?_
                refine L.off hF rfl rfl ?_
                refine L.off hF rfl rfl ?_
                refine L.pick hF rfl rfl rfl rfl ?_
                refine L.nil ?_
                exact ⟨_, ⟨k, a1, a3, (decide ((b1.toNat : Int) < (128 : Int))), (Int.tmod (b2.toNat : Int) (128 : Int)), r6.1, (IntKind.i64.wrap ((IntKind.i64.wrap (a1 + (1 : Int))) + r6.2)), true, a0.s, a0.out, (IntKind.i64.wrap (a0.begun + (1 : Int))), a0.code, by omega, H, rfl⟩, Le.mk [(0, 7), (1, 8), (2, 1)] hm rfl ⟨⟨_, rfl, rfl⟩, ⟨_, rfl, rfl⟩, ⟨_, rfl, rfl⟩, ⟨_, rfl, rfl⟩, ⟨_, rfl, rfl⟩, ⟨_, rfl, rfl⟩, ⟨_, rfl, rfl⟩, ⟨_, rfl, rfl⟩, ⟨_, rfl, rfl⟩, trivial⟩ ⟨⟨_, rfl, rfl⟩, trivial⟩ ⟨⟨_, _, rfl, rfl, rfl⟩, ⟨_, _, rfl, rfl, rfl⟩, trivial⟩⟩
              · replace H := condF hc H
                refine L.move hF rfl rfl rfl ?_
                refine L.move hF rfl rfl rfl ?_
                refine L.move hF rfl rfl rfl ?_
                refine L.bin hF rfl rfl rfl rfl rfl rfl ?_
                refine L.bin hF rfl rfl rfl rfl rfl rfl ?_
                refine L.pick hF rfl rfl rfl rfl ?_
                refine L.nil ?_
                exact ⟨_, ⟨k, a1, a3, (decide ((b1.toNat : Int) < (128 : Int))), (Int.tmod (b2.toNat : Int) (128 : Int)), r6.1, (IntKind.i64.wrap ((IntKind.i64.wrap (a1 + (1 : Int))) + r6.2)), (decide (r6.1 > (IntKind.i64.wrap (a2 - (IntKind.i64.wrap ((IntKind.i64.wrap (a1 + (1 : Int))) + r6.2)))))), a0.s, a0.out, (IntKind.i64.wrap (a0.begun + (1 : Int))), a0.code, by omega, H, rfl⟩, Le.mk [(0, 7), (1, 8), (2, 1)] hm rfl ⟨⟨_, rfl, rfl⟩, ⟨_, rfl, rfl⟩, ⟨_, rfl, rfl⟩, ⟨_, rfl, rfl⟩, ⟨_, rfl, rfl⟩, ⟨_, rfl, rfl⟩, ⟨_, rfl, rfl⟩, ⟨_, rfl, rfl⟩, ⟨_, rfl, rfl⟩, trivial⟩ ⟨⟨_, rfl, rfl⟩, trivial⟩ ⟨⟨_, _, rfl, rfl, rfl⟩, ⟨_, _, rfl, rfl, rfl⟩, trivial⟩⟩
/-! ### Fspec_ReadTlv -/
def Fspec_ReadTlv (k : Nat) (a0 : List UInt8) : Option (List Timpl_Tlv × Int) := cond (decide ((a0.length : Int) > (900 : Int))) (some (([] : List Timpl_Tlv), (4 : Int))) ((Fspec_l14Node k (⟨a0, [], (0 : Int), (0 : Int)⟩ : Tspec_l14R) (0 : Int) (a0.length : Int) (0 : Int)).bind fun r1 => cond (r1.1.code != (0 : Int)) (some (([] : List Timpl_Tlv), r1.1.code)) (cond (r1.2 != (a0.length : Int)) (some (([] : List Timpl_Tlv), (5 : Int))) (some (r1.1.out, (0 : Int)))))
theorem ent31 : Enters Try.prog 31 := ⟨Try.f31, Try.func31, rfl, by decide⟩
set_option maxHeartbeats 8000000 in
set_option maxRecDepth 100000 in
theorem Fspec_ReadTlv_gives (k : Nat) (a0 : List UInt8) (r : List Timpl_Tlv × Int) (H : Fspec_ReadTlv k a0 = some r) : Gives Try.prog 31 [V.one (cS a0)] [] [V.one (Cell.ow 4 (List.map eTimpl_Tlv r.1)), V.one (cI r.2)] [] := by
  refine Gives.intro Try.func31 rfl rfl rfl rfl ?_
  intro F hF hm
  unfold Fspec_ReadTlv at H
  obtain ⟨K, hK⟩ : ∃ K, k ≤ K := ⟨k, Nat.le_refl k⟩
  refine WpC.seq ?_
  refine WpC.regionL ?_
  refine L.assign hF rfl rfl rfl ?_
  refine L.assign hF rfl rfl rfl ?_
  refine L.nil ?_
  refine WpC.seq ?_
  refine WpC.seq ?_
  refine WpC.regionL ?_
  refine L.move hF rfl rfl rfl ?_
  refine L.lenS Try.underlying9 hF rfl rfl rfl ?_
  refine L.bin hF rfl rfl rfl rfl rfl rfl ?_
  refine L.nil ?_
  refine WpC.cond rfl (fun hc => ?_) (fun hc => ?_)
  · replace H := condT hc H
    refine WpC.seq ?_
    refine WpC.regionL ?_
    refine L.buildSlice (e := eTimpl_Tlv) 1 ([] : List Timpl_Tlv) Try.underlying33 info63 rfl rfl rfl hF rfl rfl rfl rfl rfl rfl rfl rfl ?_
    refine L.assign hF rfl rfl rfl ?_
    refine L.assign hF rfl rfl rfl ?_
    refine L.nil ?_
    refine WpC.ret ?_
    cases H
    exact Leaves.ret rfl rfl rfl ⟨rfl, rfl⟩
  · replace H := condF hc H
    refine WpC.skip ?_
    refine WpC.seq ?_
    refine WpC.regionL ?_
    refine L.move hF rfl rfl rfl ?_
    refine L.buildF built141 hF rfl rfl rfl rfl ?_
    refine L.move hF rfl rfl rfl ?_
    refine L.lenS Try.underlying9 hF rfl rfl rfl ?_
    refine L.le (Le.own 12 1 1 4 rfl rfl rfl) ?_
    obtain ⟨r1, hr1, H⟩ := bindS H
    refine L.call [true, false, false, false] [] [] 2 hF rfl rfl rfl ent104 rfl rfl rfl rfl rfl (Fspec_l14Node_gives k  (⟨a0, [], (0 : Int), (0 : Int)⟩ : Tspec_l14R) (0 : Int) (a0.length : Int) (0 : Int) r1 hr1) rfl ?_
    refine L.move hF rfl rfl rfl ?_
    refine L.extract hF rfl rfl rfl rfl ?_
    refine L.extract hF rfl rfl rfl rfl ?_
    refine L.alloc 7 info141 rfl hF rfl rfl rfl rfl ?_
    refine L.storePtr shape141 hF rfl rfl rfl rfl rfl rfl rfl ?_
    refine L.assign hF rfl rfl rfl ?_
    refine L.nil ?_
    refine WpC.seq ?_
    refine WpC.seq ?_
    refine WpC.regionL ?_
    refine L.fieldAddr Try.underlying141 rfl info3 rfl hF rfl rfl rfl rfl rfl ?_
    refine L.loadPtr shape3 hF rfl rfl rfl rfl rfl rfl ?_
    refine L.bin hF rfl rfl rfl rfl rfl rfl ?_
    refine L.nil ?_
    refine WpC.cond rfl (fun hc => ?_) (fun hc => ?_)
    · replace H := condT hc H
      refine WpC.seq ?_
      refine A.begin mixed rfl rfl ?_
      intro W hI hO
      have n31 : W 0 #[true, true, true, true, true] (mkSt [(2, one (Cell.own 0)), (3, one (cI r1.1.code))] [(0, ⟨4, List.map eTimpl_Tlv ([] : List Timpl_Tlv)⟩)] [] 1) := by
        refine hI _ _ _ (A.done (by kernel_rfl) ?_)
        refine WpC.ret ?_
        cases H
        exact Leaves.ret rfl rfl rfl ⟨rfl, rfl⟩
      have n15 : W 1 #[true, true, true, true, false] (mkSt [(2, one (Cell.own 0)), (3, one (cI (0 : Int))), (23, one (cI r1.1.code))] [(0, ⟨4, List.map eTimpl_Tlv ([] : List Timpl_Tlv)⟩)] [] 1) := by
        refine hI _ _ _ ?_
        refine A.take 4 rfl (by kernel_rfl) (by kernel_rfl) (by kernel_rfl) rfl (Ca.assign) (fun Q0 k0 => L.assign hF rfl rfl rfl (L.nil k0)) ?_
        exact A.on (hO _ _ _ n31) (Le.mk [(0, 0)] hm rfl ⟨⟨_, rfl, rfl⟩, ⟨_, rfl, rfl⟩, trivial⟩ ⟨⟨_, rfl, rfl⟩, trivial⟩ trivial)
      have n7 : W 2 #[true, true, true, false, false] (mkSt [(2, one (Cell.nil)), (3, one (cI (0 : Int))), (21, one (Cell.own 0)), (23, one (cI r1.1.code))] [(0, ⟨4, List.map eTimpl_Tlv ([] : List Timpl_Tlv)⟩)] [] 1) := by
        refine hI _ _ _ ?_
        refine A.take 3 rfl (by kernel_rfl) (by kernel_rfl) (by kernel_rfl) rfl (Ca.assign) (fun Q0 k0 => L.assign hF rfl rfl rfl (L.nil k0)) ?_
        exact A.on (hO _ _ _ n15) (Le.mk [(0, 0)] hm rfl ⟨⟨_, rfl, rfl⟩, ⟨_, rfl, rfl⟩, ⟨_, rfl, rfl⟩, trivial⟩ ⟨⟨_, rfl, rfl⟩, trivial⟩ trivial)
      have n11 : W 2 #[true, true, false, true, false] (mkSt [(2, one (Cell.own 0)), (3, one (cI (0 : Int))), (22, one (Cell.ptr 1 3))] [(0, ⟨4, List.map eTimpl_Tlv ([] : List Timpl_Tlv)⟩), (2, ⟨4, List.map eTimpl_Tlv r1.1.out⟩)] [(1, [cS r1.1.s, Cell.own 2, cI r1.1.begun, cI r1.1.code])] 3) := by
        refine hI _ _ _ ?_
        refine A.all [2] (by kernel_rfl) rfl ⟨⟨_, rfl, ?_⟩, trivial⟩
        · refine L.loadPtr shape3 hF rfl rfl rfl rfl rfl rfl ?_
          refine L.nil ?_
          exact A.on (hO _ _ _ n15) (Le.mk [(0, 0)] hm rfl ⟨⟨_, rfl, rfl⟩, ⟨_, rfl, rfl⟩, ⟨_, rfl, rfl⟩, trivial⟩ ⟨⟨_, rfl, rfl⟩, trivial⟩ trivial)
      have n3 : W 3 #[true, true, false, false, false] (mkSt [(2, one (Cell.nil)), (3, one (cI (0 : Int))), (21, one (Cell.own 0)), (22, one (Cell.ptr 1 3))] [(0, ⟨4, List.map eTimpl_Tlv ([] : List Timpl_Tlv)⟩), (2, ⟨4, List.map eTimpl_Tlv r1.1.out⟩)] [(1, [cS r1.1.s, Cell.own 2, cI r1.1.begun, cI r1.1.code])] 3) := by
        refine hI _ _ _ ?_
        refine A.take 3 rfl (by kernel_rfl) (by kernel_rfl) (by kernel_rfl) rfl (Ca.assign) (fun Q0 k0 => L.assign hF rfl rfl rfl (L.nil k0)) ?_
        exact A.on (hO _ _ _ n11) (Le.mk [(0, 0), (1, 1), (2, 2)] hm rfl ⟨⟨_, rfl, rfl⟩, ⟨_, rfl, rfl⟩, ⟨_, rfl, rfl⟩, trivial⟩ ⟨⟨_, rfl, rfl⟩, ⟨_, rfl, rfl⟩, trivial⟩ ⟨⟨_, _, rfl, rfl, rfl⟩, trivial⟩)
      have n6 : W 3 #[false, true, true, false, false] (mkSt [(2, one (Cell.nil)), (3, one (cI (0 : Int))), (23, one (cI r1.1.code))] [] [] 0) := by
        refine hI _ _ _ ?_
        refine A.all [0] (by kernel_rfl) rfl ⟨⟨_, rfl, ?_⟩, trivial⟩
        · refine L.buildSlice (e := eTimpl_Tlv) 0 ([] : List Timpl_Tlv) Try.underlying33 info63 rfl rfl rfl hF rfl rfl rfl rfl rfl rfl rfl rfl ?_
          refine L.nil ?_
          exact A.on (hO _ _ _ n7) (Le.mk [(0, 0)] hm rfl ⟨⟨_, rfl, rfl⟩, ⟨_, rfl, rfl⟩, ⟨_, rfl, rfl⟩, ⟨_, rfl, rfl⟩, trivial⟩ ⟨⟨_, rfl, rfl⟩, trivial⟩ trivial)
      have n2 : W 4 #[false, true, false, false, false] (mkSt [(2, one (Cell.nil)), (3, one (cI (0 : Int))), (22, one (Cell.ptr 0 3))] [(1, ⟨4, List.map eTimpl_Tlv r1.1.out⟩)] [(0, [cS r1.1.s, Cell.own 1, cI r1.1.begun, cI r1.1.code])] 2) := by
        refine hI _ _ _ ?_
        refine A.all [0, 2] (by kernel_rfl) rfl ⟨⟨_, rfl, ?_⟩, ⟨_, rfl, ?_⟩, trivial⟩
        · refine L.buildSlice (e := eTimpl_Tlv) 2 ([] : List Timpl_Tlv) Try.underlying33 info63 rfl rfl rfl hF rfl rfl rfl rfl rfl rfl rfl rfl ?_
          refine L.nil ?_
          exact A.on (hO _ _ _ n3) (Le.mk [(0, 2), (1, 0), (2, 1)] hm rfl ⟨⟨_, rfl, rfl⟩, ⟨_, rfl, rfl⟩, ⟨_, rfl, rfl⟩, ⟨_, rfl, rfl⟩, trivial⟩ ⟨⟨_, rfl, rfl⟩, ⟨_, rfl, rfl⟩, trivial⟩ ⟨⟨_, _, rfl, rfl, rfl⟩, trivial⟩)
        · refine L.loadPtr shape3 hF rfl rfl rfl rfl rfl rfl ?_
          refine L.nil ?_
          exact A.on (hO _ _ _ n6) (Le.mk [] hm rfl ⟨⟨_, rfl, rfl⟩, ⟨_, rfl, rfl⟩, ⟨_, rfl, rfl⟩, trivial⟩ trivial trivial)
      have n0 : W 5 #[false, false, false, false, false] (mkSt [(2, one (Cell.nil)), (3, one (cI (0 : Int))), (4, one (Cell.ptr 0 0))] [(1, ⟨4, List.map eTimpl_Tlv r1.1.out⟩)] [(0, [cS r1.1.s, Cell.own 1, cI r1.1.begun, cI r1.1.code])] 2) := by
        refine hI _ _ _ ?_
        refine A.take 1 rfl (by kernel_rfl) (by kernel_rfl) (by kernel_rfl) rfl (Ca.fieldAddr Try.underlying141 rfl info3 rfl) (fun Q0 k0 => L.fieldAddr Try.underlying141 rfl info3 rfl hF rfl rfl rfl rfl rfl (L.nil k0)) ?_
        exact A.on (hO _ _ _ n2) (Le.mk [(0, 0), (1, 1)] hm rfl ⟨⟨_, rfl, rfl⟩, ⟨_, rfl, rfl⟩, ⟨_, rfl, rfl⟩, trivial⟩ ⟨⟨_, rfl, rfl⟩, trivial⟩ ⟨⟨_, _, rfl, rfl, rfl⟩, trivial⟩)
      exact hI _ _ _ (A.on (hO _ _ _ n0) (Le.mk [(0, 7), (1, 3)] hm rfl ⟨⟨_, rfl, rfl⟩, ⟨_, rfl, rfl⟩, ⟨_, rfl, rfl⟩, trivial⟩ ⟨⟨_, rfl, rfl⟩, trivial⟩ ⟨⟨_, _, rfl, rfl, rfl⟩, trivial⟩))
    · replace H := condF hc H
      refine WpC.skip ?_
      refine WpC.seq ?_
      refine WpC.seq ?_
      refine WpC.regionL ?_
      refine L.move hF rfl rfl rfl ?_
      refine L.move hF rfl rfl rfl ?_
      refine L.lenS Try.underlying9 hF rfl rfl rfl ?_
      refine L.bin hF rfl rfl rfl rfl rfl rfl ?_
      refine L.nil ?_
      refine WpC.cond rfl (fun hc => ?_) (fun hc => ?_)
      · replace H := condT hc H
        refine WpC.seq ?_
        refine WpC.regionL ?_
        refine L.buildSlice (e := eTimpl_Tlv) 8 ([] : List Timpl_Tlv) Try.underlying33 info63 rfl rfl rfl hF rfl rfl rfl rfl rfl rfl rfl rfl ?_
        refine L.assign hF rfl rfl rfl ?_
        refine L.assign hF rfl rfl rfl ?_
        refine L.nil ?_
        refine WpC.ret ?_
        cases H
        exact Leaves.ret rfl rfl rfl ⟨rfl, rfl⟩
      · replace H := condF hc H
        refine WpC.skip ?_
        refine WpC.seq ?_
        refine WpC.regionL ?_
        refine L.fieldAddr Try.underlying141 rfl info33 rfl hF rfl rfl rfl rfl rfl ?_
        refine L.loadPtr shape33 hF rfl rfl rfl rfl rfl rfl ?_
        refine L.assign hF rfl rfl rfl ?_
        refine L.assign hF rfl rfl rfl ?_
        refine L.nil ?_
        refine WpC.ret ?_
        cases H
        exact Leaves.ret rfl rfl rfl ⟨rfl, rfl⟩
/-! ### Fspec_l14Same -/
def Fspec_l14Same.l14 (cl12 : (List Timpl_Tlv) → (List Timpl_Tlv) → Int → Option Bool) : Nat → (List Timpl_Tlv) → (List Timpl_Tlv) → Int → Int → Bool → Bool → Bool → (List UInt8) → (List UInt8) → Bool → (List Int) → Int → (List Int) → Int → Bool → Int → Int → Option Bool
  | 0, _, _, _, _, _, _, _, _, _, _, _, _, _, _, _, _, _ => none
  | k14 + 1, v752, v753, v754, v755, v756, v757, v758, v759, v760, v761, v762, v763, v764, v765, v766, v767, v768 => cond (decide (v755 < (v762.length : Int))) ((at? v762 v755).bind fun b771 => (at? v764 v755).bind fun b772 => cond (b771 != b772) (some false) ((Fspec_l14Same.l14 cl12 k14) v752 v753 v754 (IntKind.i64.wrap (v755 + (1 : Int))) v756 v757 v758 v759 v760 v761 v762 v763 v764 v765 v766 v767 v768)) (cl12 v752 v753 (IntKind.i64.wrap (v754 + (1 : Int))))
def Fspec_l14Same.l12 : Nat → (List Timpl_Tlv) → (List Timpl_Tlv) → Int → Option Bool
  | 0, _, _, _ => none
  | k12 + 1, v642, v643, v644 => cond (decide (v644 < (v642.length : Int))) ((at? v642 v644).bind fun b709 => (at? v643 v644).bind fun b710 => cond (b709.Tag != b710.Tag) (some false) (cond (b709.Leaf != b710.Leaf) (some false) (cond (b709.Data != b710.Data) (some false) (cond ((b709.Kids.length : Int) != (b710.Kids.length : Int)) (some false) (Fspec_l14Same.l14 (Fspec_l14Same.l12 k12) k12 v642 v643 v644 (0 : Int) b709.Leaf b710.Leaf (b709.Leaf != b710.Leaf) b709.Data b710.Data (b709.Data != b710.Data) b709.Kids (b709.Kids.length : Int) b710.Kids (b710.Kids.length : Int) ((b709.Kids.length : Int) != (b710.Kids.length : Int)) b709.Tag b710.Tag))))) (some true)
def Fspec_l14Same (k : Nat) (a0 : List Timpl_Tlv) (a1 : List Timpl_Tlv) : Option Bool := cond ((a0.length : Int) != (a1.length : Int)) (some false) (Fspec_l14Same.l12 k a0 a1 (0 : Int))
theorem ent111 : Enters Try.prog 111 := ⟨Try.f111, Try.func111, rfl, by decide⟩
set_option maxHeartbeats 8000000 in
set_option maxRecDepth 100000 in
theorem Fspec_l14Same_gives (k : Nat) (g0 : Bool) (g1 : Bool) (a0 : List Timpl_Tlv) (a1 : List Timpl_Tlv) (r : Bool) (H : Fspec_l14Same k a0 a1 = some r) : Gives Try.prog 111 [V.one (Cell.sl g0 (List.map eTimpl_Tlv a0)), V.one (Cell.sl g1 (List.map eTimpl_Tlv a1))] [] [V.one (cL r)] [] := by
  refine Gives.intro Try.func111 rfl rfl rfl rfl ?_
  intro F hF hm
  unfold Fspec_l14Same at H
  obtain ⟨K, hK⟩ : ∃ K, k ≤ K := ⟨k, Nat.le_refl k⟩
  refine WpC.seq ?_
  refine WpC.regionL ?_
  refine L.assign hF rfl rfl rfl ?_
  refine L.nil ?_
  refine WpC.seq ?_
  refine WpC.seq ?_
  refine WpC.regionL ?_
  refine L.move hF rfl rfl rfl ?_
  refine L.lenR (xs := a0) (e := eTimpl_Tlv) Try.underlying33 hF rfl rfl rfl rfl ?_
  refine L.move hF rfl rfl rfl ?_
  refine L.lenR (xs := a1) (e := eTimpl_Tlv) Try.underlying33 hF rfl rfl rfl rfl ?_
  refine L.bin hF rfl rfl rfl rfl rfl rfl ?_
  refine L.nil ?_
  refine WpC.cond rfl (fun hc => ?_) (fun hc => ?_)
  · replace H := condT hc H
    refine WpC.seq ?_
    refine WpC.regionL ?_
    refine L.assign hF rfl rfl rfl ?_
    refine L.nil ?_
    refine WpC.ret ?_
    cases H
    exact Leaves.ret rfl rfl rfl ⟨rfl, rfl⟩
  · replace H := condF hc H
    refine WpC.skip ?_
    refine WpC.seq ?_
    refine WpC.seq ?_
    refine WpC.regionL ?_
    refine L.assign hF rfl rfl rfl ?_
    refine L.nil ?_
    refine WpC.block ?_
    refine WpC.loopL (P := Try.prog) (fun n σ => ∃ v642 : List Timpl_Tlv, ∃ v643 : List Timpl_Tlv, ∃ v644 : Int, n ≤ K ∧ Fspec_l14Same.l12 n v642 v643 v644 = some r ∧ σ = mkSt [(0, one (Cell.sl g0 (List.map eTimpl_Tlv v642))), (1, one (Cell.sl g1 (List.map eTimpl_Tlv v643))), (5, one (cI v644))] [] [] 0) k ⟨_, ⟨a0, a1, (0 : Int), by omega, H, rfl⟩, Le.mk [] hm rfl ⟨⟨_, rfl, rfl⟩, ⟨_, rfl, rfl⟩, ⟨_, rfl, rfl⟩, trivial⟩ trivial trivial⟩ ?_
    clear H
    rintro k12 _ ⟨v642, v643, v644, hk12, H, rfl⟩
    cases k12 with
    | zero => cases H
    | succ k12 =>
      rw [Fspec_l14Same.l12] at H
      refine WpC.seq ?_
      refine WpC.seq ?_
      refine WpC.regionL ?_
      refine L.move hF rfl rfl rfl ?_
      refine L.move hF rfl rfl rfl ?_
      refine L.lenR (xs := v642) (e := eTimpl_Tlv) Try.underlying33 hF rfl rfl rfl rfl ?_
      refine L.bin hF rfl rfl rfl rfl rfl rfl ?_
      refine L.nil ?_
      refine WpC.cond rfl (fun hc => ?_) (fun hc => ?_)
      · replace H := condT hc H
        refine WpC.skip ?_
        refine WpC.seq ?_
        refine WpC.block ?_
        refine WpC.seq ?_
        refine WpC.regionL ?_
        refine L.move hF rfl rfl rfl ?_
        refine L.move hF rfl rfl rfl ?_
        obtain ⟨b709, hb709, H⟩ := bindS H
        refine L.idxR (xs := v642) (e := eTimpl_Tlv) Try.underlying33 info63 hF rfl rfl rfl rfl rfl hb709 rfl rfl ?_
        refine L.loadPe shape63 hF rfl rfl rfl rfl rfl ?_
        refine L.alloc 0 info63 rfl hF rfl rfl rfl rfl ?_
        refine L.storePtr shape63 hF rfl rfl rfl rfl rfl rfl rfl ?_
        refine L.nil ?_
        refine WpC.seq ?_
        refine WpC.regionL ?_
        refine L.move hF rfl rfl rfl ?_
        refine L.move hF rfl rfl rfl ?_
        obtain ⟨b710, hb710, H⟩ := bindS H
        refine L.idxR (xs := v643) (e := eTimpl_Tlv) Try.underlying33 info63 hF rfl rfl rfl rfl rfl hb710 rfl rfl ?_
        refine L.loadPe shape63 hF rfl rfl rfl rfl rfl ?_
        refine L.alloc 1 info63 rfl hF rfl rfl rfl rfl ?_
        refine L.storePtr shape63 hF rfl rfl rfl rfl rfl rfl rfl ?_
        refine L.nil ?_
        refine WpC.seq ?_
        refine WpC.seq ?_
        refine WpC.regionL ?_
        refine L.fieldAddr Try.underlying63 rfl info3 rfl hF rfl rfl rfl rfl rfl ?_
        refine L.loadPtr shape3 hF rfl rfl rfl rfl rfl rfl ?_
        refine L.fieldAddr Try.underlying63 rfl info3 rfl hF rfl rfl rfl rfl rfl ?_
        refine L.loadPtr shape3 hF rfl rfl rfl rfl rfl rfl ?_
        refine L.bin hF rfl rfl rfl rfl rfl rfl ?_
        refine L.move hF rfl rfl rfl ?_
        refine L.split (fun hc => ?_) (fun hc => ?_)
        · replace H := condT hc H
          refine L.off hF rfl rfl ?_
          refine L.off hF rfl rfl ?_
          refine L.off hF rfl rfl ?_
          refine L.off hF rfl rfl ?_
          refine L.off hF rfl rfl ?_
          refine L.pick hF rfl rfl rfl rfl ?_
          refine L.move hF rfl rfl rfl ?_
          refine L.off hF rfl rfl ?_
          refine L.off hF rfl rfl ?_
          refine L.off hF rfl rfl ?_
          refine L.off hF rfl rfl ?_
          refine L.off hF rfl rfl ?_
          refine L.pick hF rfl rfl rfl rfl ?_
          refine L.move hF rfl rfl rfl ?_
          refine L.off hF rfl rfl ?_
          refine L.off hF rfl rfl ?_
          refine L.off hF rfl rfl ?_
          refine L.off hF rfl rfl ?_
          refine L.off hF rfl rfl ?_
          refine L.off hF rfl rfl ?_
          refine L.off hF rfl rfl ?_
          refine L.pick hF rfl rfl rfl rfl ?_
          refine L.nil ?_
          refine WpC.cond rfl (fun _ => ?_) (fun hc => by cases hc)
          refine WpC.seq ?_
          refine WpC.regionL ?_
          refine L.assign hF rfl rfl rfl ?_
          refine L.nil ?_
          refine WpC.ret ?_
          cases H
          exact Leaves.ret rfl rfl rfl ⟨rfl, rfl⟩
        · replace H := condF hc H
          refine L.fieldAddr Try.underlying63 rfl info4 rfl hF rfl rfl rfl rfl rfl ?_
          refine L.loadPtr shape4 hF rfl rfl rfl rfl rfl rfl ?_
          refine L.fieldAddr Try.underlying63 rfl info4 rfl hF rfl rfl rfl rfl rfl ?_
          refine L.loadPtr shape4 hF rfl rfl rfl rfl rfl rfl ?_
          refine L.neL Try.underlying4 hF rfl rfl rfl rfl ?_
          refine L.pick hF rfl rfl rfl rfl ?_
          refine L.move hF rfl rfl rfl ?_
          refine L.split (fun hc => ?_) (fun hc => ?_)
          · replace H := condT hc H
            refine L.off hF rfl rfl ?_
            refine L.off hF rfl rfl ?_
            refine L.off hF rfl rfl ?_
            refine L.off hF rfl rfl ?_
            refine L.off hF rfl rfl ?_
            refine L.pick hF rfl rfl rfl rfl ?_
            refine L.move hF rfl rfl rfl ?_
            refine L.off hF rfl rfl ?_
            refine L.off hF rfl rfl ?_
            refine L.off hF rfl rfl ?_
            refine L.off hF rfl rfl ?_
            refine L.off hF rfl rfl ?_
            refine L.off hF rfl rfl ?_
            refine L.off hF rfl rfl ?_
            refine L.pick hF rfl rfl rfl rfl ?_
            refine L.nil ?_
            refine WpC.cond rfl (fun _ => ?_) (fun hc => by cases hc)
            refine WpC.seq ?_
            refine WpC.regionL ?_
            refine L.assign hF rfl rfl rfl ?_
            refine L.nil ?_
            refine WpC.ret ?_
            cases H
            exact Leaves.ret rfl rfl rfl ⟨rfl, rfl⟩
          · replace H := condF hc H
            refine L.fieldAddr Try.underlying63 rfl info9 rfl hF rfl rfl rfl rfl rfl ?_
            refine L.loadPtr shape9 hF rfl rfl rfl rfl rfl rfl ?_
            refine L.fieldAddr Try.underlying63 rfl info9 rfl hF rfl rfl rfl rfl rfl ?_
            refine L.loadPtr shape9 hF rfl rfl rfl rfl rfl rfl ?_
            refine L.binS hF rfl rfl rfl rfl rfl ?_
            refine L.pick hF rfl rfl rfl rfl ?_
            refine L.move hF rfl rfl rfl ?_
            refine L.split (fun hc => ?_) (fun hc => ?_)
            · replace H := condT hc H
              refine L.off hF rfl rfl ?_
              refine L.off hF rfl rfl ?_
              refine L.off hF rfl rfl ?_
              refine L.off hF rfl rfl ?_
              refine L.off hF rfl rfl ?_
              refine L.off hF rfl rfl ?_
              refine L.off hF rfl rfl ?_
              refine L.pick hF rfl rfl rfl rfl ?_
              refine L.nil ?_
              refine WpC.cond rfl (fun _ => ?_) (fun hc => by cases hc)
              refine WpC.seq ?_
              refine WpC.regionL ?_
              refine L.assign hF rfl rfl rfl ?_
              refine L.nil ?_
              refine WpC.ret ?_
              cases H
              exact Leaves.ret rfl rfl rfl ⟨rfl, rfl⟩
            · replace H := condF hc H
              refine L.fieldAddr Try.underlying63 rfl info24 rfl hF rfl rfl rfl rfl rfl ?_
              refine L.loadPtr shape24 hF rfl rfl rfl rfl rfl rfl ?_
              refine L.lenR (xs := b709.Kids) (e := eI) Try.underlying24 hF rfl rfl rfl rfl ?_
              refine L.fieldAddr Try.underlying63 rfl info24 rfl hF rfl rfl rfl rfl rfl ?_
              refine L.loadPtr shape24 hF rfl rfl rfl rfl rfl rfl ?_
              refine L.lenR (xs := b710.Kids) (e := eI) Try.underlying24 hF rfl rfl rfl rfl ?_
              refine L.bin hF rfl rfl rfl rfl rfl rfl ?_
              refine L.pick hF rfl rfl rfl rfl ?_
              refine L.nil ?_
              refine WpC.cond rfl (fun hc => ?_) (fun hc => ?_)
              · replace H := condT hc H
                refine WpC.seq ?_
                refine WpC.regionL ?_
                refine L.assign hF rfl rfl rfl ?_
                refine L.nil ?_
                refine WpC.ret ?_
                cases H
                exact Leaves.ret rfl rfl rfl ⟨rfl, rfl⟩
              · replace H := condF hc H
                refine WpC.skip ?_
                refine WpC.seq ?_
                refine WpC.regionL ?_
                refine L.assign hF rfl rfl rfl ?_
                refine L.nil ?_
                refine WpC.block ?_
                refine WpC.loopL (P := Try.prog) (fun n σ => ∃ v752 : List Timpl_Tlv, ∃ v753 : List Timpl_Tlv, ∃ v754 : Int, ∃ v755 : Int, ∃ v756 : Bool, ∃ v757 : Bool, ∃ v758 : Bool, ∃ v759 : List UInt8, ∃ v760 : List UInt8, ∃ v761 : Bool, ∃ v762 : List Int, ∃ v763 : Int, ∃ v764 : List Int, ∃ v765 : Int, ∃ v766 : Bool, ∃ v767 : Int, ∃ v768 : Int, n ≤ K ∧ Fspec_l14Same.l14 (Fspec_l14Same.l12 k12) n v752 v753 v754 v755 v756 v757 v758 v759 v760 v761 v762 v763 v764 v765 v766 v767 v768 = some r ∧ σ = mkSt [(0, one (Cell.sl g0 (List.map eTimpl_Tlv v752))), (1, one (Cell.sl g1 (List.map eTimpl_Tlv v753))), (5, one (cI v754)), (6, one (Cell.ptr 0 0)), (7, one (Cell.ptr 1 0)), (8, one (cI v755)), (34, one (Cell.ptr 0 1)), (35, one (cL v756)), (36, one (Cell.ptr 1 1)), (37, one (cL v757)), (38, one (cL v758)), (41, one (Cell.ptr 0 2)), (42, one (cS v759)), (43, one (Cell.ptr 1 2)), (44, one (cS v760)), (45, one (cL v761)), (48, one (Cell.ptr 0 3)), (49, one (Cell.sl true (List.map eI v762))), (50, one (cI v763)), (51, one (Cell.ptr 1 3)), (52, one (Cell.sl true (List.map eI v764))), (53, one (cI v765)), (54, one (cL v766))] [] [(0, [cI v767, cL v756, cS v759, Cell.sl true (List.map eI v762)]), (1, [cI v768, cL v757, cS v760, Cell.sl true (List.map eI v764)])] 2) k12 ⟨_, ⟨v642, v643, v644, (0 : Int), b709.Leaf, b710.Leaf, (b709.Leaf != b710.Leaf), b709.Data, b710.Data, (b709.Data != b710.Data), b709.Kids, (b709.Kids.length : Int), b710.Kids, (b710.Kids.length : Int), ((b709.Kids.length : Int) != (b710.Kids.length : Int)), b709.Tag, b710.Tag, by omega, H, rfl⟩, Le.mk [(0, 0), (1, 1)] hm rfl ⟨⟨_, rfl, rfl⟩, ⟨_, rfl, rfl⟩, ⟨_, rfl, rfl⟩, ⟨_, rfl, rfl⟩, ⟨_, rfl, rfl⟩, ⟨_, rfl, rfl⟩, ⟨_, rfl, rfl⟩, ⟨_, rfl, rfl⟩, ⟨_, rfl, rfl⟩, ⟨_, rfl, rfl⟩, ⟨_, rfl, rfl⟩, ⟨_, rfl, rfl⟩, ⟨_, rfl, rfl⟩, ⟨_, rfl, rfl⟩, ⟨_, rfl, rfl⟩, ⟨_, rfl, rfl⟩, ⟨_, rfl, rfl⟩, ⟨_, rfl, rfl⟩, ⟨_, rfl, rfl⟩, ⟨_, rfl, rfl⟩, ⟨_, rfl, rfl⟩, ⟨_, rfl, rfl⟩, ⟨_, rfl, rfl⟩, trivial⟩ trivial ⟨⟨_, _, rfl, rfl, rfl⟩, ⟨_, _, rfl, rfl, rfl⟩, trivial⟩⟩ ?_
                clear H
                rintro k14 _ ⟨v752, v753, v754, v755, v756, v757, v758, v759, v760, v761, v762, v763, v764, v765, v766, v767, v768, hk14, H, rfl⟩
                cases k14 with
                | zero => cases H
                | succ k14 =>
                  rw [Fspec_l14Same.l14] at H
                  refine WpC.seq ?_
                  refine WpC.seq ?_
                  refine WpC.regionL ?_
                  refine L.move hF rfl rfl rfl ?_
                  refine L.fieldAddr Try.underlying63 rfl info24 rfl hF rfl rfl rfl rfl rfl ?_
                  refine L.loadPtr shape24 hF rfl rfl rfl rfl rfl rfl ?_
                  refine L.lenR (xs := v762) (e := eI) Try.underlying24 hF rfl rfl rfl rfl ?_
                  refine L.bin hF rfl rfl rfl rfl rfl rfl ?_
                  refine L.nil ?_
                  refine WpC.cond rfl (fun hc => ?_) (fun hc => ?_)
                  · replace H := condT hc H
                    refine WpC.skip ?_
                    refine WpC.seq ?_
                    refine WpC.block ?_
                    refine WpC.seq ?_
                    refine S.begin mixed (by kernel_rfl) ?_
                    refine S.st 0 rfl rfl ((Ca.fieldAddr Try.underlying63 rfl info24 rfl).quiet) (fun Q0 k0 => L.fieldAddr Try.underlying63 rfl info24 rfl hF rfl rfl rfl rfl rfl (L.nil k0)) ?_
                    refine S.st 1 rfl rfl (Qu.load) (fun Q0 k0 => L.loadPtr shape24 hF rfl rfl rfl rfl rfl rfl (L.nil k0)) ?_
                    refine S.st 2 rfl rfl ((Ca.move).quiet) (fun Q0 k0 => L.move hF rfl rfl rfl (L.nil k0)) ?_
                    obtain ⟨b771, hb771, H⟩ := bindS H
                    refine S.st 3 rfl rfl ((Ca.indexAddr).quiet) (fun Q0 k0 => L.idxR (xs := v762) (e := eI) Try.underlying24 info3 hF rfl rfl rfl rfl rfl hb771 rfl rfl (L.nil k0)) ?_
                    refine S.st 4 rfl rfl (Qu.load) (fun Q0 k0 => L.loadPe shape3 hF rfl rfl rfl rfl rfl (L.nil k0)) ?_
                    refine S.st 5 rfl rfl ((Ca.fieldAddr Try.underlying63 rfl info24 rfl).quiet) (fun Q0 k0 => L.fieldAddr Try.underlying63 rfl info24 rfl hF rfl rfl rfl rfl rfl (L.nil k0)) ?_
                    refine S.st 6 rfl rfl (Qu.load) (fun Q0 k0 => L.loadPtr shape24 hF rfl rfl rfl rfl rfl rfl (L.nil k0)) ?_
                    refine S.st 7 rfl rfl ((Ca.move).quiet) (fun Q0 k0 => L.move hF rfl rfl rfl (L.nil k0)) ?_
                    obtain ⟨b772, hb772, H⟩ := bindS H
                    refine S.st 8 rfl rfl ((Ca.indexAddr).quiet) (fun Q0 k0 => L.idxR (xs := v764) (e := eI) Try.underlying24 info3 hF rfl rfl rfl rfl rfl hb772 rfl rfl (L.nil k0)) ?_
                    refine S.st 9 rfl rfl (Qu.load) (fun Q0 k0 => L.loadPe shape3 hF rfl rfl rfl rfl rfl (L.nil k0)) ?_
                    refine S.st 10 rfl rfl ((Ca.bin rfl rfl (calm_int _ _ _ _ _ _ _ _)).quiet) (fun Q0 k0 => L.bin hF rfl rfl rfl rfl rfl rfl (L.nil k0)) ?_
                    refine S.nil ?_
                    refine WpC.cond rfl (fun hc => ?_) (fun hc => ?_)
                    · replace H := condT hc H
                      refine WpC.seq ?_
                      refine WpC.regionL ?_
                      refine L.assign hF rfl rfl rfl ?_
                      refine L.nil ?_
                      refine WpC.ret ?_
                      cases H
                      exact Leaves.ret rfl rfl rfl ⟨rfl, rfl⟩
                    · replace H := condF hc H
                      refine WpC.skip ?_
                      refine WpC.regionL ?_
                      refine L.move hF rfl rfl rfl ?_
                      refine L.bin hF rfl rfl rfl rfl rfl rfl ?_
                      refine L.assign hF rfl rfl rfl ?_
                      refine L.nil ?_
                      exact ⟨k14, _, by omega, ⟨v752, v753, v754, (IntKind.i64.wrap (v755 + (1 : Int))), v756, v757, v758, v759, v760, v761, v762, v763, v764, v765, v766, v767, v768, by omega, H, rfl⟩, Le.mk [(0, 0), (1, 1)] hm rfl ⟨⟨_, rfl, rfl⟩, ⟨_, rfl, rfl⟩, ⟨_, rfl, rfl⟩, ⟨_, rfl, rfl⟩, ⟨_, rfl, rfl⟩, ⟨_, rfl, rfl⟩, ⟨_, rfl, rfl⟩, ⟨_, rfl, rfl⟩, ⟨_, rfl, rfl⟩, ⟨_, rfl, rfl⟩, ⟨_, rfl, rfl⟩, ⟨_, rfl, rfl⟩, ⟨_, rfl, rfl⟩, ⟨_, rfl, rfl⟩, ⟨_, rfl, rfl⟩, ⟨_, rfl, rfl⟩, ⟨_, rfl, rfl⟩, ⟨_, rfl, rfl⟩, ⟨_, rfl, rfl⟩, ⟨_, rfl, rfl⟩, ⟨_, rfl, rfl⟩, ⟨_, rfl, rfl⟩, ⟨_, rfl, rfl⟩, trivial⟩ trivial ⟨⟨_, _, rfl, rfl, rfl⟩, ⟨_, _, rfl, rfl, rfl⟩, trivial⟩⟩
                  · replace H := condF hc H
                    refine WpC.exit ?_
                    refine WpC.regionL ?_
                    refine L.move hF rfl rfl rfl ?_
                    refine L.bin hF rfl rfl rfl rfl rfl rfl ?_
                    refine L.assign hF rfl rfl rfl ?_
                    refine L.nil ?_
                    exact ⟨k12, _, by omega, ⟨v752, v753, (IntKind.i64.wrap (v754 + (1 : Int))), by omega, H, rfl⟩, Le.mk [] hm rfl ⟨⟨_, rfl, rfl⟩, ⟨_, rfl, rfl⟩, ⟨_, rfl, rfl⟩, trivial⟩ trivial trivial⟩
      · replace H := condF hc H
        refine WpC.exit ?_
        refine WpC.seq ?_
        refine WpC.regionL ?_
        refine L.assign hF rfl rfl rfl ?_
        refine L.nil ?_
        refine WpC.ret ?_
        cases H
        exact Leaves.ret rfl rfl rfl ⟨rfl, rfl⟩
/-! ### Fspec_TlvOk -/
def Fspec_TlvOk (k : Nat) (a0 : List Timpl_Tlv) : Option Bool := (Fspec_l14Tree k a0).bind fun r2 => cond (!r2) (some false) ((Fspec_l14Show k a0 (IntKind.i64.wrap ((a0.length : Int) - (1 : Int)))).bind fun r3 => (Fspec_ReadTlv k r3).bind fun r4 => cond (r4.2 == (0 : Int)) ((Fspec_l14Same k r4.1 a0).bind fun r6 => some r6) (some false))
theorem ent37 : Enters Try.prog 37 := ⟨Try.f37, Try.func37, rfl, by decide⟩
set_option maxHeartbeats 8000000 in
set_option maxRecDepth 100000 in
theorem Fspec_TlvOk_gives (k : Nat) (g0 : Bool) (a0 : List Timpl_Tlv) (r : Bool) (H : Fspec_TlvOk k a0 = some r) : Gives Try.prog 37 [V.one (Cell.sl g0 (List.map eTimpl_Tlv a0))] [] [V.one (cL r)] [] := by
  refine Gives.intro Try.func37 rfl rfl rfl rfl ?_
  intro F hF hm
  unfold Fspec_TlvOk at H
  obtain ⟨K, hK⟩ : ∃ K, k ≤ K := ⟨k, Nat.le_refl k⟩
  refine WpC.seq ?_
  refine WpC.regionL ?_
  refine L.assign hF rfl rfl rfl ?_
  refine L.nil ?_
  refine WpC.seq ?_
  refine WpC.seq ?_
  refine WpC.regionL ?_
  refine L.move hF rfl rfl rfl ?_
  obtain ⟨r2, hr2, H⟩ := bindS H
  refine L.call [false] [] [] 1 hF rfl rfl rfl ent109 rfl rfl rfl rfl rfl (Fspec_l14Tree_gives k g0 a0 r2 hr2) rfl ?_
  refine L.not hF rfl rfl rfl ?_
  refine L.nil ?_
  refine WpC.cond rfl (fun hc => ?_) (fun hc => ?_)
  · replace H := condT hc H
    refine WpC.seq ?_
    refine WpC.regionL ?_
    refine L.assign hF rfl rfl rfl ?_
    refine L.nil ?_
    refine WpC.ret ?_
    cases H
    exact Leaves.ret rfl rfl rfl ⟨rfl, rfl⟩
  · replace H := condF hc H
    refine WpC.skip ?_
    refine WpC.seq ?_
    refine WpC.regionL ?_
    refine L.move hF rfl rfl rfl ?_
    refine L.move hF rfl rfl rfl ?_
    refine L.lenR (xs := a0) (e := eTimpl_Tlv) Try.underlying33 hF rfl rfl rfl rfl ?_
    refine L.bin hF rfl rfl rfl rfl rfl rfl ?_
    obtain ⟨r3, hr3, H⟩ := bindS H
    refine L.call [false, false] [] [] 2 hF rfl rfl rfl ent110 rfl rfl rfl rfl rfl (Fspec_l14Show_gives k g0 a0 (IntKind.i64.wrap ((a0.length : Int) - (1 : Int))) r3 hr3) rfl ?_
    obtain ⟨r4, hr4, H⟩ := bindS H
    refine L.call [false] [] [] 3 hF rfl rfl rfl ent31 rfl rfl rfl rfl rfl (Fspec_ReadTlv_gives k  r3 r4 hr4) rfl ?_
    refine L.move hF rfl rfl rfl ?_
    refine L.extract hF rfl rfl rfl rfl ?_
    refine L.extract hF rfl rfl rfl rfl ?_
    refine L.assign hF rfl rfl rfl ?_
    refine L.assign hF rfl rfl rfl ?_
    refine L.nil ?_
    refine WpC.seq ?_
    refine WpC.regionL ?_
    refine L.move hF rfl rfl rfl ?_
    refine L.bin hF rfl rfl rfl rfl rfl rfl ?_
    refine L.move hF rfl rfl rfl ?_
    refine L.split (fun hc => ?_) (fun hc => ?_)
    · replace H := condT hc H
      refine L.move hF rfl rfl rfl ?_
      refine L.move hF rfl rfl rfl ?_
      obtain ⟨r6, hr6, H⟩ := bindS H
      refine L.call [false, false] [3] [] 5 hF rfl rfl rfl ent111 rfl rfl rfl rfl rfl (Fspec_l14Same_gives k false g0 r4.1 a0 r6 hr6) rfl ?_
      refine L.pick hF rfl rfl rfl rfl ?_
      refine L.assign hF rfl rfl rfl ?_
      refine L.nil ?_
      refine WpC.ret ?_
      cases H
      exact Leaves.ret rfl rfl rfl ⟨rfl, rfl⟩
    · replace H := condF hc H
      refine L.off hF rfl rfl ?_
      refine L.off hF rfl rfl ?_
      refine L.off hF rfl rfl ?_
      refine L.pick hF rfl rfl rfl rfl ?_
      refine L.assign hF rfl rfl rfl ?_
      refine L.nil ?_
      refine WpC.ret ?_
      cases H
      exact Leaves.ret rfl rfl rfl ⟨rfl, rfl⟩
/-! ### Fspec_TlvFind -/
def Fspec_TlvFind.j98 (cl97 : (List Timpl_Tlv) → (List Int) → Int → Int → Int → Int → Option (List UInt8 × Bool)) (k : Nat) (v1693 : List Timpl_Tlv) (v1694 : List Int) (v1695 : Int) (v1696 : Int) (v1697 : Int) (v1698 : Int) : Option (List UInt8 × Bool) := cl97 v1693 v1694 v1695 v1696 v1697 (IntKind.i64.wrap (v1698 - (1 : Int)))
def Fspec_TlvFind.l97 (cl82 : (List Timpl_Tlv) → (List Int) → Int → Int → Option (List UInt8 × Bool)) : Nat → (List Timpl_Tlv) → (List Int) → Int → Int → Int → Int → Option (List UInt8 × Bool)
  | 0, _, _, _, _, _, _ => none
  | k97 + 1, v1681, v1682, v1683, v1684, v1685, v1686 => cond (decide (v1686 ≥ (0 : Int))) ((at? v1681 v1683).bind fun b1699 => (at? b1699.Kids v1686).bind fun b1700 => (at? v1681 b1700).bind fun b1701 => (at? v1682 v1684).bind fun b1702 => cond (b1701.Tag == b1702) ((at? v1681 v1683).bind fun b1703 => (at? b1703.Kids v1686).bind fun b1704 => Fspec_TlvFind.j98 (Fspec_TlvFind.l97 cl82 k97) k97 v1681 v1682 v1683 v1684 b1704 v1686) (Fspec_TlvFind.j98 (Fspec_TlvFind.l97 cl82 k97) k97 v1681 v1682 v1683 v1684 v1685 v1686)) (cond (decide (v1685 < (0 : Int))) (some (([] : List UInt8), false)) (cl82 v1681 v1682 v1685 (IntKind.i64.wrap (v1684 + (1 : Int)))))
def Fspec_TlvFind.l82 : Nat → (List Timpl_Tlv) → (List Int) → Int → Int → Option (List UInt8 × Bool)
  | 0, _, _, _, _ => none
  | k82 + 1, v1413, v1414, v1415, v1416 => cond (decide (v1416 < (v1414.length : Int))) ((at? v1413 v1415).bind fun b1633 => Fspec_TlvFind.l97 (Fspec_TlvFind.l82 k82) k82 v1413 v1414 v1415 v1416 (-1 : Int) (IntKind.i64.wrap ((b1633.Kids.length : Int) - (1 : Int)))) ((at? v1413 v1415).bind fun b1706 => cond (!b1706.Leaf) (some (([] : List UInt8), false)) ((at? v1413 v1415).bind fun b1707 => some (b1707.Data, true)))
def Fspec_TlvFind (k : Nat) (a0 : List Timpl_Tlv) (a1 : List Int) : Option (List UInt8 × Bool) := (Fspec_TlvOk k a0).bind fun r2 => cond (!r2) (some (([] : List UInt8), false)) (Fspec_TlvFind.l82 k a0 a1 (IntKind.i64.wrap ((a0.length : Int) - (1 : Int))) (0 : Int))
theorem ent53 : Enters Try.prog 53 := ⟨Try.f53, Try.func53, rfl, by decide⟩
set_option maxHeartbeats 8000000 in
set_option maxRecDepth 100000 in
theorem Fspec_TlvFind_gives (k : Nat) (g0 : Bool) (g1 : Bool) (a0 : List Timpl_Tlv) (a1 : List Int) (r : List UInt8 × Bool) (H : Fspec_TlvFind k a0 a1 = some r) : Gives Try.prog 53 [V.one (Cell.sl g0 (List.map eTimpl_Tlv a0)), V.one (Cell.sl g1 (List.map eI a1))] [] [V.one (cS r.1), V.one (cL r.2)] [] := by
  refine Gives.intro Try.func53 rfl rfl rfl rfl ?_
  intro F hF hm
  unfold Fspec_TlvFind at H
  obtain ⟨K, hK⟩ : ∃ K, k ≤ K := ⟨k, Nat.le_refl k⟩
  refine WpC.seq ?_
  refine WpC.regionL ?_
  refine L.assign hF rfl rfl rfl ?_
  refine L.assign hF rfl rfl rfl ?_
  refine L.nil ?_
  refine WpC.seq ?_
  refine WpC.seq ?_
  refine WpC.regionL ?_
  refine L.move hF rfl rfl rfl ?_
  obtain ⟨r2, hr2, H⟩ := bindS H
  refine L.call [false] [] [] 2 hF rfl rfl rfl ent37 rfl rfl rfl rfl rfl (Fspec_TlvOk_gives k g0 a0 r2 hr2) rfl ?_
  refine L.not hF rfl rfl rfl ?_
  refine L.nil ?_
  refine WpC.cond rfl (fun hc => ?_) (fun hc => ?_)
  · replace H := condT hc H
    refine WpC.seq ?_
    refine WpC.regionL ?_
    refine L.assign hF rfl rfl rfl ?_
    refine L.assign hF rfl rfl rfl ?_
    refine L.nil ?_
    refine WpC.ret ?_
    cases H
    exact Leaves.ret rfl rfl rfl ⟨rfl, rfl⟩
  · replace H := condF hc H
    refine WpC.skip ?_
    refine WpC.seq ?_
    refine WpC.regionL ?_
    refine L.move hF rfl rfl rfl ?_
    refine L.lenR (xs := a0) (e := eTimpl_Tlv) Try.underlying33 hF rfl rfl rfl rfl ?_
    refine L.bin hF rfl rfl rfl rfl rfl rfl ?_
    refine L.assign hF rfl rfl rfl ?_
    refine L.nil ?_
    refine WpC.seq ?_
    refine WpC.seq ?_
    refine WpC.regionL ?_
    refine L.assign hF rfl rfl rfl ?_
    refine L.nil ?_
    refine WpC.block ?_
    refine WpC.loopL (P := Try.prog) (fun n σ => ∃ v1413 : List Timpl_Tlv, ∃ v1414 : List Int, ∃ v1415 : Int, ∃ v1416 : Int, n ≤ K ∧ Fspec_TlvFind.l82 n v1413 v1414 v1415 v1416 = some r ∧ σ = mkSt [(0, one (Cell.sl g0 (List.map eTimpl_Tlv v1413))), (1, one (Cell.sl g1 (List.map eI v1414))), (6, one (cI v1415)), (7, one (cI v1416))] [] [] 0) k ⟨_, ⟨a0, a1, (IntKind.i64.wrap ((a0.length : Int) - (1 : Int))), (0 : Int), by omega, H, rfl⟩, Le.mk [] hm rfl ⟨⟨_, rfl, rfl⟩, ⟨_, rfl, rfl⟩, ⟨_, rfl, rfl⟩, ⟨_, rfl, rfl⟩, trivial⟩ trivial trivial⟩ ?_
    clear H
    rintro k82 _ ⟨v1413, v1414, v1415, v1416, hk82, H, rfl⟩
    cases k82 with
    | zero => cases H
    | succ k82 =>
      rw [Fspec_TlvFind.l82] at H
      refine WpC.seq ?_
      refine WpC.seq ?_
      refine WpC.regionL ?_
      refine L.move hF rfl rfl rfl ?_
      refine L.move hF rfl rfl rfl ?_
      refine L.lenR (xs := v1414) (e := eI) Try.underlying24 hF rfl rfl rfl rfl ?_
      refine L.bin hF rfl rfl rfl rfl rfl rfl ?_
      refine L.nil ?_
      refine WpC.cond rfl (fun hc => ?_) (fun hc => ?_)
      · replace H := condT hc H
        refine WpC.skip ?_
        refine WpC.seq ?_
        refine WpC.block ?_
        refine WpC.seq ?_
        refine WpC.regionL ?_
        refine L.assign hF rfl rfl rfl ?_
        refine L.nil ?_
        refine WpC.seq ?_
        refine WpC.seq ?_
        refine WpC.regionL ?_
        refine L.move hF rfl rfl rfl ?_
        refine L.move hF rfl rfl rfl ?_
        obtain ⟨b1633, hb1633, H⟩ := bindS H
        refine L.idxR (xs := v1413) (e := eTimpl_Tlv) Try.underlying33 info63 hF rfl rfl rfl rfl rfl hb1633 rfl rfl ?_
        refine L.fieldAddr Try.underlying63 rfl info24 rfl hF rfl rfl rfl rfl rfl ?_
        refine L.loadPe shape24 hF rfl rfl rfl rfl rfl ?_
        refine L.lenR (xs := b1633.Kids) (e := eI) Try.underlying24 hF rfl rfl rfl rfl ?_
        refine L.bin hF rfl rfl rfl rfl rfl rfl ?_
        refine L.assign hF rfl rfl rfl ?_
        refine L.nil ?_
        refine WpC.block ?_
        refine WpC.loopL (P := Try.prog) (fun n σ => ∃ v1681 : List Timpl_Tlv, ∃ v1682 : List Int, ∃ v1683 : Int, ∃ v1684 : Int, ∃ v1685 : Int, ∃ v1686 : Int, n ≤ K ∧ Fspec_TlvFind.l97 (Fspec_TlvFind.l82 k82) n v1681 v1682 v1683 v1684 v1685 v1686 = some r ∧ σ = mkSt [(0, one (Cell.sl g0 (List.map eTimpl_Tlv v1681))), (1, one (Cell.sl g1 (List.map eI v1682))), (6, one (cI v1683)), (7, one (cI v1684)), (8, one (cI v1685)), (9, one (cI v1686))] [] [] 0) k82 ⟨_, ⟨v1413, v1414, v1415, v1416, (-1 : Int), (IntKind.i64.wrap ((b1633.Kids.length : Int) - (1 : Int))), by omega, H, rfl⟩, Le.mk [] hm rfl ⟨⟨_, rfl, rfl⟩, ⟨_, rfl, rfl⟩, ⟨_, rfl, rfl⟩, ⟨_, rfl, rfl⟩, ⟨_, rfl, rfl⟩, ⟨_, rfl, rfl⟩, trivial⟩ trivial trivial⟩ ?_
        clear H
        rintro k97 _ ⟨v1681, v1682, v1683, v1684, v1685, v1686, hk97, H, rfl⟩
        cases k97 with
        | zero => cases H
        | succ k97 =>
          rw [Fspec_TlvFind.l97] at H
          refine WpC.seq ?_
          refine WpC.seq ?_
          refine WpC.regionL ?_
          refine L.move hF rfl rfl rfl ?_
          refine L.bin hF rfl rfl rfl rfl rfl rfl ?_
          refine L.nil ?_
          refine WpC.cond rfl (fun hc => ?_) (fun hc => ?_)
          · replace H := condT hc H
            refine WpC.skip ?_
            refine WpC.join (fun σ => ∃ kj98 : Nat, ∃ v1693 : List Timpl_Tlv, ∃ v1694 : List Int, ∃ v1695 : Int, ∃ v1696 : Int, ∃ v1697 : Int, ∃ v1698 : Int, kj98 ≤ K ∧ Fspec_TlvFind.j98 (Fspec_TlvFind.l97 (Fspec_TlvFind.l82 k82) k97) kj98 v1693 v1694 v1695 v1696 v1697 v1698 = some r ∧ σ = mkSt [(0, one (Cell.sl g0 (List.map eTimpl_Tlv v1693))), (1, one (Cell.sl g1 (List.map eI v1694))), (6, one (cI v1695)), (7, one (cI v1696)), (8, one (cI v1697)), (9, one (cI v1698))] [] [] 0) ?_ ?_
            · rintro _ ⟨kj98, v1693, v1694, v1695, v1696, v1697, v1698, hkj98, H, rfl⟩
              unfold Fspec_TlvFind.j98 at H
              refine WpC.regionL ?_
              refine L.move hF rfl rfl rfl ?_
              refine L.bin hF rfl rfl rfl rfl rfl rfl ?_
              refine L.assign hF rfl rfl rfl ?_
              refine L.nil ?_
              exact ⟨k97, _, by omega, ⟨v1693, v1694, v1695, v1696, v1697, (IntKind.i64.wrap (v1698 - (1 : Int))), by omega, H, rfl⟩, Le.mk [] hm rfl ⟨⟨_, rfl, rfl⟩, ⟨_, rfl, rfl⟩, ⟨_, rfl, rfl⟩, ⟨_, rfl, rfl⟩, ⟨_, rfl, rfl⟩, ⟨_, rfl, rfl⟩, trivial⟩ trivial trivial⟩
            · refine WpC.block ?_
              refine WpC.seq ?_
              refine S.begin mixed (by kernel_rfl) ?_
              refine S.st 0 rfl rfl ((Ca.move).quiet) (fun Q0 k0 => L.move hF rfl rfl rfl (L.nil k0)) ?_
              refine S.st 1 rfl rfl ((Ca.move).quiet) (fun Q0 k0 => L.move hF rfl rfl rfl (L.nil k0)) ?_
              refine S.st 2 rfl rfl ((Ca.move).quiet) (fun Q0 k0 => L.move hF rfl rfl rfl (L.nil k0)) ?_
              obtain ⟨b1699, hb1699, H⟩ := bindS H
              refine S.st 3 rfl rfl ((Ca.indexAddr).quiet) (fun Q0 k0 => L.idxR (xs := v1681) (e := eTimpl_Tlv) Try.underlying33 info63 hF rfl rfl rfl rfl rfl hb1699 rfl rfl (L.nil k0)) ?_
              refine S.st 4 rfl rfl ((Ca.fieldAddr Try.underlying63 rfl info24 rfl).quiet) (fun Q0 k0 => L.fieldAddr Try.underlying63 rfl info24 rfl hF rfl rfl rfl rfl rfl (L.nil k0)) ?_
              refine S.st 5 rfl rfl (Qu.load) (fun Q0 k0 => L.loadPe shape24 hF rfl rfl rfl rfl rfl (L.nil k0)) ?_
              refine S.st 6 rfl rfl ((Ca.move).quiet) (fun Q0 k0 => L.move hF rfl rfl rfl (L.nil k0)) ?_
              obtain ⟨b1700, hb1700, H⟩ := bindS H
              refine S.st 7 rfl rfl ((Ca.indexAddr).quiet) (fun Q0 k0 => L.idxR (xs := b1699.Kids) (e := eI) Try.underlying24 info3 hF rfl rfl rfl rfl rfl hb1700 rfl rfl (L.nil k0)) ?_
              refine S.st 8 rfl rfl (Qu.load) (fun Q0 k0 => L.loadPe shape3 hF rfl rfl rfl rfl rfl (L.nil k0)) ?_
              obtain ⟨b1701, hb1701, H⟩ := bindS H
              refine S.st 9 rfl rfl ((Ca.indexAddr).quiet) (fun Q0 k0 => L.idxR (xs := v1681) (e := eTimpl_Tlv) Try.underlying33 info63 hF rfl rfl rfl rfl rfl hb1701 rfl rfl (L.nil k0)) ?_
              refine S.st 10 rfl rfl ((Ca.fieldAddr Try.underlying63 rfl info3 rfl).quiet) (fun Q0 k0 => L.fieldAddr Try.underlying63 rfl info3 rfl hF rfl rfl rfl rfl rfl (L.nil k0)) ?_
              refine S.st 11 rfl rfl (Qu.load) (fun Q0 k0 => L.loadPe shape3 hF rfl rfl rfl rfl rfl (L.nil k0)) ?_
              refine S.st 12 rfl rfl ((Ca.move).quiet) (fun Q0 k0 => L.move hF rfl rfl rfl (L.nil k0)) ?_
              refine S.st 13 rfl rfl ((Ca.move).quiet) (fun Q0 k0 => L.move hF rfl rfl rfl (L.nil k0)) ?_
              obtain ⟨b1702, hb1702, H⟩ := bindS H
              refine S.st 14 rfl rfl ((Ca.indexAddr).quiet) (fun Q0 k0 => L.idxR (xs := v1682) (e := eI) Try.underlying24 info3 hF rfl rfl rfl rfl rfl hb1702 rfl rfl (L.nil k0)) ?_
              refine S.st 15 rfl rfl (Qu.load) (fun Q0 k0 => L.loadPe shape3 hF rfl rfl rfl rfl rfl (L.nil k0)) ?_
              refine S.st 16 rfl rfl ((Ca.bin rfl rfl (calm_int _ _ _ _ _ _ _ _)).quiet) (fun Q0 k0 => L.bin hF rfl rfl rfl rfl rfl rfl (L.nil k0)) ?_
              refine S.nil ?_
              refine WpC.cond rfl (fun hc => ?_) (fun hc => ?_)
              · replace H := condT hc H
                refine WpC.regionL ?_
                refine L.move hF rfl rfl rfl ?_
                refine L.move hF rfl rfl rfl ?_
                obtain ⟨b1703, hb1703, H⟩ := bindS H
                refine L.idxR (xs := v1681) (e := eTimpl_Tlv) Try.underlying33 info63 hF rfl rfl rfl rfl rfl hb1703 rfl rfl ?_
                refine L.fieldAddr Try.underlying63 rfl info24 rfl hF rfl rfl rfl rfl rfl ?_
                refine L.loadPe shape24 hF rfl rfl rfl rfl rfl ?_
                refine L.move hF rfl rfl rfl ?_
                obtain ⟨b1704, hb1704, H⟩ := bindS H
                refine L.idxR (xs := b1703.Kids) (e := eI) Try.underlying24 info3 hF rfl rfl rfl rfl rfl hb1704 rfl rfl ?_
                refine L.loadPe shape3 hF rfl rfl rfl rfl rfl ?_
                refine L.assign hF rfl rfl rfl ?_
                refine L.nil ?_
                exact ⟨_, ⟨k97, v1681, v1682, v1683, v1684, b1704, v1686, by omega, H, rfl⟩, Le.mk [] hm rfl ⟨⟨_, rfl, rfl⟩, ⟨_, rfl, rfl⟩, ⟨_, rfl, rfl⟩, ⟨_, rfl, rfl⟩, ⟨_, rfl, rfl⟩, ⟨_, rfl, rfl⟩, trivial⟩ trivial trivial⟩
              · replace H := condF hc H
                refine WpC.skip ?_
                exact ⟨_, ⟨k97, v1681, v1682, v1683, v1684, v1685, v1686, by omega, H, rfl⟩, Le.mk [] hm rfl ⟨⟨_, rfl, rfl⟩, ⟨_, rfl, rfl⟩, ⟨_, rfl, rfl⟩, ⟨_, rfl, rfl⟩, ⟨_, rfl, rfl⟩, ⟨_, rfl, rfl⟩, trivial⟩ trivial trivial⟩
          · replace H := condF hc H
            refine WpC.exit ?_
            refine WpC.seq ?_
            refine WpC.seq ?_
            refine WpC.regionL ?_
            refine L.move hF rfl rfl rfl ?_
            refine L.bin hF rfl rfl rfl rfl rfl rfl ?_
            refine L.nil ?_
            refine WpC.cond rfl (fun hc => ?_) (fun hc => ?_)
            · replace H := condT hc H
              refine WpC.seq ?_
              refine WpC.regionL ?_
              refine L.assign hF rfl rfl rfl ?_
              refine L.assign hF rfl rfl rfl ?_
              refine L.nil ?_
              refine WpC.ret ?_
              cases H
              exact Leaves.ret rfl rfl rfl ⟨rfl, rfl⟩
            · replace H := condF hc H
              refine WpC.skip ?_
              refine WpC.regionL ?_
              refine L.move hF rfl rfl rfl ?_
              refine L.assign hF rfl rfl rfl ?_
              refine L.nil ?_
              refine WpC.regionL ?_
              refine L.move hF rfl rfl rfl ?_
              refine L.bin hF rfl rfl rfl rfl rfl rfl ?_
              refine L.assign hF rfl rfl rfl ?_
              refine L.nil ?_
              exact ⟨k82, _, by omega, ⟨v1681, v1682, v1685, (IntKind.i64.wrap (v1684 + (1 : Int))), by omega, H, rfl⟩, Le.mk [] hm rfl ⟨⟨_, rfl, rfl⟩, ⟨_, rfl, rfl⟩, ⟨_, rfl, rfl⟩, ⟨_, rfl, rfl⟩, trivial⟩ trivial trivial⟩
      · replace H := condF hc H
        refine WpC.exit ?_
        refine WpC.seq ?_
        refine WpC.seq ?_
        refine WpC.regionL ?_
        refine L.move hF rfl rfl rfl ?_
        refine L.move hF rfl rfl rfl ?_
        obtain ⟨b1706, hb1706, H⟩ := bindS H
        refine L.idxR (xs := v1413) (e := eTimpl_Tlv) Try.underlying33 info63 hF rfl rfl rfl rfl rfl hb1706 rfl rfl ?_
        refine L.fieldAddr Try.underlying63 rfl info4 rfl hF rfl rfl rfl rfl rfl ?_
        refine L.loadPe shape4 hF rfl rfl rfl rfl rfl ?_
        refine L.not hF rfl rfl rfl ?_
        refine L.nil ?_
        refine WpC.cond rfl (fun hc => ?_) (fun hc => ?_)
        · replace H := condT hc H
          refine WpC.seq ?_
          refine WpC.regionL ?_
          refine L.assign hF rfl rfl rfl ?_
          refine L.assign hF rfl rfl rfl ?_
          refine L.nil ?_
          refine WpC.ret ?_
          cases H
          exact Leaves.ret rfl rfl rfl ⟨rfl, rfl⟩
        · replace H := condF hc H
          refine WpC.skip ?_
          refine WpC.seq ?_
          refine WpC.regionL ?_
          refine L.move hF rfl rfl rfl ?_
          refine L.move hF rfl rfl rfl ?_
          obtain ⟨b1707, hb1707, H⟩ := bindS H
          refine L.idxR (xs := v1413) (e := eTimpl_Tlv) Try.underlying33 info63 hF rfl rfl rfl rfl rfl hb1707 rfl rfl ?_
          refine L.fieldAddr Try.underlying63 rfl info9 rfl hF rfl rfl rfl rfl rfl ?_
          refine L.loadPe shape9 hF rfl rfl rfl rfl rfl ?_
          refine L.assign hF rfl rfl rfl ?_
          refine L.assign hF rfl rfl rfl ?_
          refine L.nil ?_
          refine WpC.ret ?_
          cases H
          exact Leaves.ret rfl rfl rfl ⟨rfl, rfl⟩
/-! ### Fimpl_within -/
def Fimpl_within (k : Nat) (a0 : Int) (a1 : Int) (a2 : Int) : Option Bool := cond (decide (a0 ≥ a1)) (some (decide (a0 ≤ a2))) (some false)
theorem ent113 : Enters Try.prog 113 := ⟨Try.f113, Try.func113, rfl, by decide⟩
set_option maxHeartbeats 8000000 in
set_option maxRecDepth 100000 in
theorem Fimpl_within_gives (k : Nat) (a0 : Int) (a1 : Int) (a2 : Int) (r : Bool) (H : Fimpl_within k a0 a1 a2 = some r) : Gives Try.prog 113 [V.one (cI a0), V.one (cI a1), V.one (cI a2)] [] [V.one (cL r)] [] := by
  refine Gives.intro Try.func113 rfl rfl rfl rfl ?_
  intro F hF hm
  unfold Fimpl_within at H
  obtain ⟨K, hK⟩ : ∃ K, k ≤ K := ⟨k, Nat.le_refl k⟩
  refine WpC.seq ?_
  refine WpC.regionL ?_
  refine L.assign hF rfl rfl rfl ?_
  refine L.nil ?_
  refine WpC.seq ?_
  refine WpC.regionL ?_
  refine L.move hF rfl rfl rfl ?_
  refine L.move hF rfl rfl rfl ?_
  refine L.bin hF rfl rfl rfl rfl rfl rfl ?_
  refine L.move hF rfl rfl rfl ?_
  refine L.split (fun hc => ?_) (fun hc => ?_)
  · replace H := condT hc H
    refine L.move hF rfl rfl rfl ?_
    refine L.move hF rfl rfl rfl ?_
    refine L.bin hF rfl rfl rfl rfl rfl rfl ?_
    refine L.pick hF rfl rfl rfl rfl ?_
    refine L.assign hF rfl rfl rfl ?_
    refine L.nil ?_
    refine WpC.ret ?_
    cases H
    exact Leaves.ret rfl rfl rfl ⟨rfl, rfl⟩
  · replace H := condF hc H
    refine L.off hF rfl rfl ?_
    refine L.off hF rfl rfl ?_
    refine L.off hF rfl rfl ?_
    refine L.pick hF rfl rfl rfl rfl ?_
    refine L.assign hF rfl rfl rfl ?_
    refine L.nil ?_
    refine WpC.ret ?_
    cases H
    exact Leaves.ret rfl rfl rfl ⟨rfl, rfl⟩
/-! ### Fimpl_nodeOk -/
def Fimpl_nodeOk.l3 : Nat → Int → (List Int) → Int → Int → Option Bool
  | 0, _, _, _, _ => none
  | k3 + 1, v47, v48, v49, v50 => cond (decide (v50 < v49)) ((at? v48 v50).bind fun b53 => (Fimpl_within k3 b53 (0 : Int) (IntKind.i64.wrap (v47 - (1 : Int)))).bind fun r54 => cond (!r54) (some false) ((Fimpl_nodeOk.l3 k3) v47 v48 v49 (IntKind.i64.wrap (v50 + (1 : Int))))) (some true)
def Fimpl_nodeOk.j1 (k : Nat) (v4 : Int) (v5 : Int) (v6 : Bool) (v7 : List UInt8) (v8 : List Int) : Option Bool := Fimpl_nodeOk.l3 k v4 v8 (v8.length : Int) (0 : Int)
def Fimpl_nodeOk (k : Nat) (a0 : List Timpl_Tlv) (a1 : Int) : Option Bool := (at? a0 a1).bind fun b1 => (Fimpl_within k b1.Tag (1 : Int) (100 : Int)).bind fun r56 => cond (!r56) (some false) (cond b1.Leaf (cond (decide ((b1.Kids.length : Int) > (0 : Int))) (some false) (cond (!b1.Leaf) (cond (b1.Data != ([] : List UInt8)) (some false) (Fimpl_nodeOk.j1 k a1 b1.Tag b1.Leaf b1.Data b1.Kids)) (Fimpl_nodeOk.j1 k a1 b1.Tag b1.Leaf b1.Data b1.Kids))) (cond (!b1.Leaf) (cond (b1.Data != ([] : List UInt8)) (some false) (Fimpl_nodeOk.j1 k a1 b1.Tag b1.Leaf b1.Data b1.Kids)) (Fimpl_nodeOk.j1 k a1 b1.Tag b1.Leaf b1.Data b1.Kids)))
theorem ent114 : Enters Try.prog 114 := ⟨Try.f114, Try.func114, rfl, by decide⟩
set_option maxHeartbeats 8000000 in
set_option maxRecDepth 100000 in
theorem Fimpl_nodeOk_gives (k : Nat) (g0 : Bool) (a0 : List Timpl_Tlv) (a1 : Int) (r : Bool) (H : Fimpl_nodeOk k a0 a1 = some r) : Gives Try.prog 114 [V.one (Cell.sl g0 (List.map eTimpl_Tlv a0)), V.one (cI a1)] [] [V.one (cL r)] [] := by
  refine Gives.intro Try.func114 rfl rfl rfl rfl ?_
  intro F hF hm
  unfold Fimpl_nodeOk at H
  obtain ⟨K, hK⟩ : ∃ K, k ≤ K := ⟨k, Nat.le_refl k⟩
  refine WpC.seq ?_
  refine WpC.regionL ?_
  refine L.assign hF rfl rfl rfl ?_
  refine L.nil ?_
  refine WpC.seq ?_
  refine WpC.regionL ?_
  refine L.move hF rfl rfl rfl ?_
  refine L.move hF rfl rfl rfl ?_
  obtain ⟨b1, hb1, H⟩ := bindS H
  refine L.idxR (xs := a0) (e := eTimpl_Tlv) Try.underlying33 info63 hF rfl rfl rfl rfl rfl hb1 rfl rfl ?_
  refine L.loadPe shape63 hF rfl rfl rfl rfl rfl ?_
  refine L.alloc 2 info63 rfl hF rfl rfl rfl rfl ?_
  refine L.storePtr shape63 hF rfl rfl rfl rfl rfl rfl rfl ?_
  refine L.nil ?_
  refine WpC.join (fun σ => ∃ kj1 : Nat, ∃ v4 : Int, ∃ v5 : Int, ∃ v6 : Bool, ∃ v7 : List UInt8, ∃ v8 : List Int, kj1 ≤ K ∧ Fimpl_nodeOk.j1 kj1 v4 v5 v6 v7 v8 = some r ∧ σ = mkSt [(1, one (cI v4)), (5, one (Cell.ptr 0 0))] [] [(0, [cI v5, cL v6, cS v7, Cell.sl true (List.map eI v8)])] 1) ?_ ?_
  · rintro _ ⟨kj1, v4, v5, v6, v7, v8, hkj1, H, rfl⟩
    unfold Fimpl_nodeOk.j1 at H
    refine WpC.seq ?_
    refine WpC.seq ?_
    refine WpC.regionL ?_
    refine L.fieldAddr Try.underlying63 rfl info24 rfl hF rfl rfl rfl rfl rfl ?_
    refine L.loadPtr shape24 hF rfl rfl rfl rfl rfl rfl ?_
    refine L.lenR (xs := v8) (e := eI) Try.underlying24 hF rfl rfl rfl rfl ?_
    refine L.move hF rfl rfl rfl ?_
    refine L.nil ?_
    refine WpC.block ?_
    refine WpC.loopL (P := Try.prog) (fun n σ => ∃ v47 : Int, ∃ v48 : List Int, ∃ v49 : Int, ∃ v50 : Int, n ≤ K ∧ Fimpl_nodeOk.l3 n v47 v48 v49 v50 = some r ∧ σ = mkSt [(1, one (cI v47)), (37, one (Cell.sl true (List.map eI v48))), (38, one (cI v49)), (39, one (cI v50))] [] [] 0) kj1 ⟨_, ⟨v4, v8, (v8.length : Int), (0 : Int), by omega, H, rfl⟩, Le.mk [] hm rfl ⟨⟨_, rfl, rfl⟩, ⟨_, rfl, rfl⟩, ⟨_, rfl, rfl⟩, ⟨_, rfl, rfl⟩, trivial⟩ trivial trivial⟩ ?_
    clear H
    rintro k3 _ ⟨v47, v48, v49, v50, hk3, H, rfl⟩
    cases k3 with
    | zero => cases H
    | succ k3 =>
      rw [Fimpl_nodeOk.l3] at H
      refine WpC.seq ?_
      refine WpC.regionL ?_
      refine L.bin hF rfl rfl rfl rfl rfl rfl ?_
      refine L.nil ?_
      refine WpC.seq ?_
      refine WpC.cond rfl (fun hc => ?_) (fun hc => ?_)
      · replace H := condT hc H
        refine WpC.skip ?_
        refine WpC.seq ?_
        refine WpC.block ?_
        refine WpC.seq ?_
        refine WpC.regionL ?_
        obtain ⟨b53, hb53, H⟩ := bindS H
        refine L.idxR (xs := v48) (e := eI) Try.underlying24 info3 hF rfl rfl rfl rfl rfl hb53 rfl rfl ?_
        refine L.loadPe shape3 hF rfl rfl rfl rfl rfl ?_
        refine L.assign hF rfl rfl rfl ?_
        refine L.nil ?_
        refine WpC.seq ?_
        refine WpC.regionL ?_
        refine L.move hF rfl rfl rfl ?_
        refine L.move hF rfl rfl rfl ?_
        refine L.bin hF rfl rfl rfl rfl rfl rfl ?_
        obtain ⟨r54, hr54, H⟩ := bindS H
        refine L.call [false, false, false] [] [] 0 hF rfl rfl rfl ent113 rfl rfl rfl rfl rfl (Fimpl_within_gives k3  b53 (0 : Int) (IntKind.i64.wrap (v47 - (1 : Int))) r54 hr54) rfl ?_
        refine L.not hF rfl rfl rfl ?_
        refine L.nil ?_
        refine WpC.cond rfl (fun hc => ?_) (fun hc => ?_)
        · replace H := condT hc H
          refine WpC.seq ?_
          refine WpC.regionL ?_
          refine L.assign hF rfl rfl rfl ?_
          refine L.nil ?_
          refine WpC.ret ?_
          cases H
          exact Leaves.ret rfl rfl rfl ⟨rfl, rfl⟩
        · replace H := condF hc H
          refine WpC.skip ?_
          refine WpC.regionL ?_
          refine L.bin hF rfl rfl rfl rfl rfl rfl ?_
          refine L.move hF rfl rfl rfl ?_
          refine L.nil ?_
          exact ⟨k3, _, by omega, ⟨v47, v48, v49, (IntKind.i64.wrap (v50 + (1 : Int))), by omega, H, rfl⟩, Le.mk [] hm rfl ⟨⟨_, rfl, rfl⟩, ⟨_, rfl, rfl⟩, ⟨_, rfl, rfl⟩, ⟨_, rfl, rfl⟩, trivial⟩ trivial trivial⟩
      · replace H := condF hc H
        refine WpC.exit ?_
        refine WpC.seq ?_
        refine WpC.regionL ?_
        refine L.assign hF rfl rfl rfl ?_
        refine L.nil ?_
        refine WpC.ret ?_
        cases H
        exact Leaves.ret rfl rfl rfl ⟨rfl, rfl⟩
  · refine WpC.seq ?_
    refine WpC.regionL ?_
    refine L.fieldAddr Try.underlying63 rfl info3 rfl hF rfl rfl rfl rfl rfl ?_
    refine L.loadPtr shape3 hF rfl rfl rfl rfl rfl rfl ?_
    obtain ⟨r56, hr56, H⟩ := bindS H
    refine L.call [false, false, false] [] [] 3 hF rfl rfl rfl ent113 rfl rfl rfl rfl rfl (Fimpl_within_gives k  b1.Tag (1 : Int) (100 : Int) r56 hr56) rfl ?_
    refine L.not hF rfl rfl rfl ?_
    refine L.move hF rfl rfl rfl ?_
    refine L.split (fun hc => ?_) (fun hc => ?_)
    · replace H := condT hc H
      refine L.off hF rfl rfl ?_
      refine L.off hF rfl rfl ?_
      refine L.off hF rfl rfl ?_
      refine L.off hF rfl rfl ?_
      refine L.off hF rfl rfl ?_
      refine L.off hF rfl rfl ?_
      refine L.off hF rfl rfl ?_
      refine L.off hF rfl rfl ?_
      refine L.pick hF rfl rfl rfl rfl ?_
      refine L.move hF rfl rfl rfl ?_
      refine L.off hF rfl rfl ?_
      refine L.off hF rfl rfl ?_
      refine L.off hF rfl rfl ?_
      refine L.off hF rfl rfl ?_
      refine L.off hF rfl rfl ?_
      refine L.off hF rfl rfl ?_
      refine L.off hF rfl rfl ?_
      refine L.off hF rfl rfl ?_
      refine L.pick hF rfl rfl rfl rfl ?_
      refine L.nil ?_
      refine WpC.cond rfl (fun _ => ?_) (fun hc => by cases hc)
      refine WpC.seq ?_
      refine WpC.regionL ?_
      refine L.assign hF rfl rfl rfl ?_
      refine L.nil ?_
      refine WpC.ret ?_
      cases H
      exact Leaves.ret rfl rfl rfl ⟨rfl, rfl⟩
    · replace H := condF hc H
      refine L.fieldAddr Try.underlying63 rfl info4 rfl hF rfl rfl rfl rfl rfl ?_
      refine L.loadPtr shape4 hF rfl rfl rfl rfl rfl rfl ?_
      refine L.move hF rfl rfl rfl ?_
      refine L.split (fun hc => ?_) (fun hc => ?_)
      · replace H := condT hc H
        refine L.fieldAddr Try.underlying63 rfl info24 rfl hF rfl rfl rfl rfl rfl ?_
        refine L.loadPtr shape24 hF rfl rfl rfl rfl rfl rfl ?_
        refine L.lenR (xs := b1.Kids) (e := eI) Try.underlying24 hF rfl rfl rfl rfl ?_
        refine L.bin hF rfl rfl rfl rfl rfl rfl ?_
        refine L.pick hF rfl rfl rfl rfl ?_
        refine L.pick hF rfl rfl rfl rfl ?_
        refine L.move hF rfl rfl rfl ?_
        refine L.split (fun hc => ?_) (fun hc => ?_)
        · replace H := condT hc H
          refine L.off hF rfl rfl ?_
          refine L.off hF rfl rfl ?_
          refine L.off hF rfl rfl ?_
          refine L.off hF rfl rfl ?_
          refine L.off hF rfl rfl ?_
          refine L.off hF rfl rfl ?_
          refine L.off hF rfl rfl ?_
          refine L.off hF rfl rfl ?_
          refine L.pick hF rfl rfl rfl rfl ?_
          refine L.nil ?_
          refine WpC.cond rfl (fun _ => ?_) (fun hc => by cases hc)
          refine WpC.seq ?_
          refine WpC.regionL ?_
          refine L.assign hF rfl rfl rfl ?_
          refine L.nil ?_
          refine WpC.ret ?_
          cases H
          exact Leaves.ret rfl rfl rfl ⟨rfl, rfl⟩
        · replace H := condF hc H
          refine L.fieldAddr Try.underlying63 rfl info4 rfl hF rfl rfl rfl rfl rfl ?_
          refine L.loadPtr shape4 hF rfl rfl rfl rfl rfl rfl ?_
          refine L.not hF rfl rfl rfl ?_
          refine L.move hF rfl rfl rfl ?_
          refine L.split (fun hc => ?_) (fun hc => ?_)
          · replace H := condT hc H
            refine L.fieldAddr Try.underlying63 rfl info9 rfl hF rfl rfl rfl rfl rfl ?_
            refine L.loadPtr shape9 hF rfl rfl rfl rfl rfl rfl ?_
            refine L.binS hF rfl rfl rfl rfl rfl ?_
            refine L.pick hF rfl rfl rfl rfl ?_
            refine L.pick hF rfl rfl rfl rfl ?_
            refine L.nil ?_
            refine WpC.cond rfl (fun hc => ?_) (fun hc => ?_)
            · replace H := condT hc H
              refine WpC.seq ?_
              refine WpC.regionL ?_
              refine L.assign hF rfl rfl rfl ?_
              refine L.nil ?_
              refine WpC.ret ?_
              cases H
              exact Leaves.ret rfl rfl rfl ⟨rfl, rfl⟩
            · replace H := condF hc H
              refine WpC.skip ?_
              exact ⟨_, ⟨k, a1, b1.Tag, b1.Leaf, b1.Data, b1.Kids, by omega, H, rfl⟩, Le.mk [(0, 2)] hm rfl ⟨⟨_, rfl, rfl⟩, ⟨_, rfl, rfl⟩, trivial⟩ trivial ⟨⟨_, _, rfl, rfl, rfl⟩, trivial⟩⟩
          · replace H := condF hc H
            refine L.off hF rfl rfl ?_
            refine L.off hF rfl rfl ?_
            refine L.off hF rfl rfl ?_
            refine L.pick hF rfl rfl rfl rfl ?_
            refine L.pick hF rfl rfl rfl rfl ?_
            refine L.nil ?_
            refine WpC.cond rfl (fun hc => by cases hc) (fun _ => ?_)
            refine WpC.skip ?_
            exact ⟨_, ⟨k, a1, b1.Tag, b1.Leaf, b1.Data, b1.Kids, by omega, H, rfl⟩, Le.mk [(0, 2)] hm rfl ⟨⟨_, rfl, rfl⟩, ⟨_, rfl, rfl⟩, trivial⟩ trivial ⟨⟨_, _, rfl, rfl, rfl⟩, trivial⟩⟩
      · replace H := condF hc H
        refine L.off hF rfl rfl ?_
        refine L.off hF rfl rfl ?_
        refine L.off hF rfl rfl ?_
        refine L.off hF rfl rfl ?_
        refine L.pick hF rfl rfl rfl rfl ?_
        refine L.pick hF rfl rfl rfl rfl ?_
        refine L.move hF rfl rfl rfl ?_
        refine L.fieldAddr Try.underlying63 rfl info4 rfl hF rfl rfl rfl rfl rfl ?_
        refine L.loadPtr shape4 hF rfl rfl rfl rfl rfl rfl ?_
        refine L.not hF rfl rfl rfl ?_
        refine L.move hF rfl rfl rfl ?_
        refine L.split (fun hc => ?_) (fun hc => ?_)
        · replace H := condT hc H
          refine L.fieldAddr Try.underlying63 rfl info9 rfl hF rfl rfl rfl rfl rfl ?_
          refine L.loadPtr shape9 hF rfl rfl rfl rfl rfl rfl ?_
          refine L.binS hF rfl rfl rfl rfl rfl ?_
          refine L.pick hF rfl rfl rfl rfl ?_
          refine L.pick hF rfl rfl rfl rfl ?_
          refine L.nil ?_
          refine WpC.cond rfl (fun hc => ?_) (fun hc => ?_)
          · replace H := condT hc H
            refine WpC.seq ?_
            refine WpC.regionL ?_
            refine L.assign hF rfl rfl rfl ?_
            refine L.nil ?_
            refine WpC.ret ?_
            cases H
            exact Leaves.ret rfl rfl rfl ⟨rfl, rfl⟩
          · replace H := condF hc H
            refine WpC.skip ?_
            exact ⟨_, ⟨k, a1, b1.Tag, b1.Leaf, b1.Data, b1.Kids, by omega, H, rfl⟩, Le.mk [(0, 2)] hm rfl ⟨⟨_, rfl, rfl⟩, ⟨_, rfl, rfl⟩, trivial⟩ trivial ⟨⟨_, _, rfl, rfl, rfl⟩, trivial⟩⟩
        · replace H := condF hc H
          refine L.off hF rfl rfl ?_
          refine L.off hF rfl rfl ?_
          refine L.off hF rfl rfl ?_
          refine L.pick hF rfl rfl rfl rfl ?_
          refine L.pick hF rfl rfl rfl rfl ?_
          refine L.nil ?_
          refine WpC.cond rfl (fun hc => by cases hc) (fun _ => ?_)
          refine WpC.skip ?_
          exact ⟨_, ⟨k, a1, b1.Tag, b1.Leaf, b1.Data, b1.Kids, by omega, H, rfl⟩, Le.mk [(0, 2)] hm rfl ⟨⟨_, rfl, rfl⟩, ⟨_, rfl, rfl⟩, trivial⟩ trivial ⟨⟨_, _, rfl, rfl, rfl⟩, trivial⟩⟩
/-! ### Fimpl_ended -/
def Fimpl_ended.l4 (cREC : (List Timpl_Tlv) → Int → Int → (List Int) → Option (List Int × Bool)) : Nat → (List Timpl_Tlv) → Int → Int → (List Int) → (List Int) → Int → Int → Option (List Int × Bool)
  | 0, _, _, _, _, _, _, _ => none
  | k4 + 1, v66, v67, v68, v69, v70, v71, v72 => cond (decide (v72 < v71)) ((at? v70 v72).bind fun b75 => (cREC v66 b75 (IntKind.i64.wrap (v68 + (1 : Int))) v69).bind fun r76 => cond (!r76.2) (some (r76.1, false)) ((Fimpl_ended.l4 cREC k4) v66 v67 v68 r76.1 v70 v71 (IntKind.i64.wrap (v72 + (1 : Int))))) (cond (decide ((2 * (v69.length + ([v67] : List Int).length) + 192) * 8 ≤ 281474976710656)) (some ((v69 ++ ([v67] : List Int)), (decide ((v69.length : Int) < (60 : Int))))) none)
def Fimpl_ended.j2 (cREC : (List Timpl_Tlv) → Int → Int → (List Int) → Option (List Int × Bool)) (k : Nat) (v6 : List Timpl_Tlv) (v7 : Int) (v8 : Int) (v9 : List Int) (v10 : Bool) : Option (List Int × Bool) := cond v10 (some (v9, false)) ((at? v6 v7).bind fun b44 => Fimpl_ended.l4 cREC k v6 v7 v8 v9 b44.Kids (b44.Kids.length : Int) (0 : Int))
def Fimpl_ended : Nat → (List Timpl_Tlv) → Int → Int → (List Int) → Option (List Int × Bool)
  | 0, _, _, _, _ => none
  | k + 1, a0, a1, a2, a3 => cond (decide (a2 > (8 : Int))) (Fimpl_ended.j2 (Fimpl_ended k) k a0 a1 a2 a3 true) (Fimpl_ended.j2 (Fimpl_ended k) k a0 a1 a2 a3 (decide ((a3.length : Int) ≥ (60 : Int))))
theorem ent115 : Enters Try.prog 115 := ⟨Try.f115, Try.func115, rfl, by decide⟩
set_option maxHeartbeats 8000000 in
set_option maxRecDepth 100000 in
theorem Fimpl_ended_gives : ∀ (k : Nat) (g0 : Bool) (a0 : List Timpl_Tlv) (a1 : Int) (a2 : Int) (a3 : List Int) (r : List Int × Bool) (H : Fimpl_ended k a0 a1 a2 a3 = some r), Gives Try.prog 115 [V.one (Cell.sl g0 (List.map eTimpl_Tlv a0)), V.one (cI a1), V.one (cI a2), V.one (Cell.ow 1 (List.map eI a3))] [] [V.one (Cell.ow 1 (List.map eI r.1)), V.one (cL r.2)] [] := by
  intro k
  induction k with
  | zero => intros; rename_i H; cases H
  | succ k ih =>
    intro g0 a0 a1 a2 a3 r H
    refine Gives.intro Try.func115 rfl rfl rfl rfl ?_
    intro F hF hm
    rw [Fimpl_ended] at H
    obtain ⟨K, hK⟩ : ∃ K, k ≤ K := ⟨k, Nat.le_refl k⟩
    refine WpC.seq ?_
    refine WpC.regionL ?_
    refine L.assign hF rfl rfl rfl ?_
    refine L.assign hF rfl rfl rfl ?_
    refine L.nil ?_
    refine WpC.seq ?_
    refine WpC.join (fun σ => ∃ kj2 : Nat, ∃ v6 : List Timpl_Tlv, ∃ v7 : Int, ∃ v8 : Int, ∃ v9 : List Int, ∃ v10 : Bool, kj2 ≤ K ∧ Fimpl_ended.j2 (Fimpl_ended k) kj2 v6 v7 v8 v9 v10 = some r ∧ σ = mkSt [(0, one (Cell.sl g0 (List.map eTimpl_Tlv v6))), (1, one (cI v7)), (2, one (cI v8)), (3, one (Cell.own 0)), (19, one (cL v10))] [(0, ⟨1, List.map eI v9⟩)] [] 1) ?_ ?_
    · rintro _ ⟨kj2, v6, v7, v8, v9, v10, hkj2, H, rfl⟩
      unfold Fimpl_ended.j2 at H
      refine WpC.cond rfl (fun hc => ?_) (fun hc => ?_)
      · replace H := condT hc H
        refine WpC.seq ?_
        refine WpC.regionL ?_
        refine L.move hF rfl rfl rfl ?_
        refine L.assign hF rfl rfl rfl ?_
        refine L.assign hF rfl rfl rfl ?_
        refine L.nil ?_
        refine WpC.ret ?_
        cases H
        exact Leaves.ret rfl rfl rfl ⟨rfl, rfl⟩
      · replace H := condF hc H
        refine WpC.skip ?_
        refine WpC.seq ?_
        refine WpC.regionL ?_
        refine L.assign hF rfl rfl rfl ?_
        refine L.nil ?_
        refine WpC.seq ?_
        refine WpC.seq ?_
        refine WpC.regionL ?_
        refine L.move hF rfl rfl rfl ?_
        refine L.move hF rfl rfl rfl ?_
        obtain ⟨b44, hb44, H⟩ := bindS H
        refine L.idxR (xs := v6) (e := eTimpl_Tlv) Try.underlying33 info63 hF rfl rfl rfl rfl rfl hb44 rfl rfl ?_
        refine L.fieldAddr Try.underlying63 rfl info24 rfl hF rfl rfl rfl rfl rfl ?_
        refine L.loadPe shape24 hF rfl rfl rfl rfl rfl ?_
        refine L.lenR (xs := b44.Kids) (e := eI) Try.underlying24 hF rfl rfl rfl rfl ?_
        refine L.move hF rfl rfl rfl ?_
        refine L.nil ?_
        refine WpC.block ?_
        refine WpC.loopL (P := Try.prog) (fun n σ => ∃ v66 : List Timpl_Tlv, ∃ v67 : Int, ∃ v68 : Int, ∃ v69 : List Int, ∃ v70 : List Int, ∃ v71 : Int, ∃ v72 : Int, n ≤ K ∧ Fimpl_ended.l4 (Fimpl_ended k) n v66 v67 v68 v69 v70 v71 v72 = some r ∧ σ = mkSt [(0, one (Cell.sl g0 (List.map eTimpl_Tlv v66))), (1, one (cI v67)), (2, one (cI v68)), (3, one (Cell.own 0)), (25, one (Cell.sl true (List.map eI v70))), (26, one (cI v71)), (27, one (cI v72))] [(0, ⟨1, List.map eI v69⟩)] [] 1) kj2 ⟨_, ⟨v6, v7, v8, v9, b44.Kids, (b44.Kids.length : Int), (0 : Int), by omega, H, rfl⟩, Le.mk [(0, 0)] hm rfl ⟨⟨_, rfl, rfl⟩, ⟨_, rfl, rfl⟩, ⟨_, rfl, rfl⟩, ⟨_, rfl, rfl⟩, ⟨_, rfl, rfl⟩, ⟨_, rfl, rfl⟩, ⟨_, rfl, rfl⟩, trivial⟩ ⟨⟨_, rfl, rfl⟩, trivial⟩ trivial⟩ ?_
        clear H
        rintro k4 _ ⟨v66, v67, v68, v69, v70, v71, v72, hk4, H, rfl⟩
        cases k4 with
        | zero => cases H
        | succ k4 =>
          rw [Fimpl_ended.l4] at H
          refine WpC.seq ?_
          refine WpC.regionL ?_
          refine L.bin hF rfl rfl rfl rfl rfl rfl ?_
          refine L.nil ?_
          refine WpC.seq ?_
          refine WpC.cond rfl (fun hc => ?_) (fun hc => ?_)
          · replace H := condT hc H
            refine WpC.skip ?_
            refine WpC.seq ?_
            refine WpC.block ?_
            refine WpC.seq ?_
            refine WpC.regionL ?_
            obtain ⟨b75, hb75, H⟩ := bindS H
            refine L.idxR (xs := v70) (e := eI) Try.underlying24 info3 hF rfl rfl rfl rfl rfl hb75 rfl rfl ?_
            refine L.loadPe shape3 hF rfl rfl rfl rfl rfl ?_
            refine L.assign hF rfl rfl rfl ?_
            refine L.nil ?_
            refine WpC.seq ?_
            refine WpC.regionL ?_
            refine L.move hF rfl rfl rfl ?_
            refine L.move hF rfl rfl rfl ?_
            refine L.move hF rfl rfl rfl ?_
            refine L.bin hF rfl rfl rfl rfl rfl rfl ?_
            refine L.move hF rfl rfl rfl ?_
            obtain ⟨r76, hr76, H⟩ := bindS H
            refine L.call [false, false, false, true] [] [] 1 hF rfl rfl rfl ent115 rfl rfl rfl rfl rfl (ih g0 v66 b75 (IntKind.i64.wrap (v68 + (1 : Int))) v69 r76 hr76) rfl ?_
            refine L.move hF rfl rfl rfl ?_
            refine L.extract hF rfl rfl rfl rfl ?_
            refine L.extract hF rfl rfl rfl rfl ?_
            refine L.assign hF rfl rfl rfl ?_
            refine L.assign hF rfl rfl rfl ?_
            refine L.nil ?_
            refine WpC.seq ?_
            refine WpC.regionL ?_
            refine L.move hF rfl rfl rfl ?_
            refine L.not hF rfl rfl rfl ?_
            refine L.nil ?_
            refine WpC.cond rfl (fun hc => ?_) (fun hc => ?_)
            · replace H := condT hc H
              refine WpC.seq ?_
              refine WpC.regionL ?_
              refine L.move hF rfl rfl rfl ?_
              refine L.assign hF rfl rfl rfl ?_
              refine L.assign hF rfl rfl rfl ?_
              refine L.nil ?_
              refine WpC.ret ?_
              cases H
              exact Leaves.ret rfl rfl rfl ⟨rfl, rfl⟩
            · replace H := condF hc H
              refine WpC.skip ?_
              refine WpC.regionL ?_
              refine L.bin hF rfl rfl rfl rfl rfl rfl ?_
              refine L.move hF rfl rfl rfl ?_
              refine L.nil ?_
              exact ⟨k4, _, by omega, ⟨v66, v67, v68, r76.1, v70, v71, (IntKind.i64.wrap (v72 + (1 : Int))), by omega, H, rfl⟩, Le.mk [(0, 1)] hm rfl ⟨⟨_, rfl, rfl⟩, ⟨_, rfl, rfl⟩, ⟨_, rfl, rfl⟩, ⟨_, rfl, rfl⟩, ⟨_, rfl, rfl⟩, ⟨_, rfl, rfl⟩, ⟨_, rfl, rfl⟩, trivial⟩ ⟨⟨_, rfl, rfl⟩, trivial⟩ trivial⟩
          · replace H := condF hc H
            refine WpC.exit ?_
            refine WpC.seq ?_
            refine WpC.regionL ?_
            refine L.move hF rfl rfl rfl ?_
            refine L.move hF rfl rfl rfl ?_
            refine L.buildSlice (e := eI) 1 ([v67] : List Int) Try.underlying24 info3 rfl rfl rfl hF rfl rfl rfl rfl rfl rfl rfl rfl ?_
            obtain ⟨h77, H⟩ := condG H
            refine L.append (xs := v69) (ys := ([v67] : List Int)) (e := eI) 2 Try.underlying24 info3 rfl rfl hF rfl rfl rfl rfl rfl rfl rfl rfl (fun _ => rfl) (fun _ _ h1 h2 => by cases h1; cases h2; rfl) ⟨_, Try.underlying24⟩ (of_decide_eq_true h77) rfl rfl ?_
            refine L.move hF rfl rfl rfl ?_
            refine L.lenR (xs := v69) (e := eI) Try.underlying24 hF rfl rfl rfl rfl ?_
            refine L.bin hF rfl rfl rfl rfl rfl rfl ?_
            refine L.assign hF rfl rfl rfl ?_
            refine L.assign hF rfl rfl rfl ?_
            refine L.nil ?_
            refine WpC.ret ?_
            cases H
            exact Leaves.ret rfl rfl rfl ⟨rfl, rfl⟩
    · refine WpC.regionL ?_
      refine L.move hF rfl rfl rfl ?_
      refine L.bin hF rfl rfl rfl rfl rfl rfl ?_
      refine L.move hF rfl rfl rfl ?_
      refine L.split (fun hc => ?_) (fun hc => ?_)
      · replace H := condT hc H
        refine L.off hF rfl rfl ?_
        refine L.off hF rfl rfl ?_
        refine L.off hF rfl rfl ?_
        refine L.pick hF rfl rfl rfl rfl ?_
        refine L.nil ?_
        exact ⟨_, ⟨k, a0, a1, a2, a3, true, by omega, H, rfl⟩, Le.mk [(0, 3)] hm rfl ⟨⟨_, rfl, rfl⟩, ⟨_, rfl, rfl⟩, ⟨_, rfl, rfl⟩, ⟨_, rfl, rfl⟩, ⟨_, rfl, rfl⟩, trivial⟩ ⟨⟨_, rfl, rfl⟩, trivial⟩ trivial⟩
      · replace H := condF hc H
        refine L.move hF rfl rfl rfl ?_
        refine L.lenR (xs := a3) (e := eI) Try.underlying24 hF rfl rfl rfl rfl ?_
        refine L.bin hF rfl rfl rfl rfl rfl rfl ?_
        refine L.pick hF rfl rfl rfl rfl ?_
        refine L.nil ?_
        exact ⟨_, ⟨k, a0, a1, a2, a3, (decide ((a3.length : Int) ≥ (60 : Int))), by omega, H, rfl⟩, Le.mk [(0, 3)] hm rfl ⟨⟨_, rfl, rfl⟩, ⟨_, rfl, rfl⟩, ⟨_, rfl, rfl⟩, ⟨_, rfl, rfl⟩, ⟨_, rfl, rfl⟩, trivial⟩ ⟨⟨_, rfl, rfl⟩, trivial⟩ trivial⟩
/-! ### Fimpl_Var -/
def Fimpl_Var.l2 : Nat → Int → (List UInt8) → Option (List UInt8)
  | 0, _, _ => none
  | k2 + 1, v16, v17 => cond (decide (v16 > (127 : Int))) (cond (decide ((2 * (v17.length + ([(ofI (Go.bits .or .i64 (Go.bits .and .i64 v16 (127 : Int)) (128 : Int)))] : List UInt8).length) + 192) * 1 ≤ 281474976710656)) ((Fimpl_Var.l2 k2) (shrI .i64 v16 (7 : Int)) (v17 ++ ([(ofI (Go.bits .or .i64 (Go.bits .and .i64 v16 (127 : Int)) (128 : Int)))] : List UInt8))) none) (cond (decide ((2 * (v17.length + ([(ofI v16)] : List UInt8).length) + 192) * 1 ≤ 281474976710656)) (some (v17 ++ ([(ofI v16)] : List UInt8))) none)
def Fimpl_Var (k : Nat) (a0 : Int) : Option (List UInt8) := (Fimpl_within k a0 (0 : Int) (562949953421311 : Int)).bind fun r2 => cond (!r2) (some ([] : List UInt8)) (Fimpl_Var.l2 k a0 ([] : List UInt8))
theorem ent124 : Enters Try.prog 124 := ⟨Try.f124, Try.func124, rfl, by decide⟩
set_option maxHeartbeats 8000000 in
set_option maxRecDepth 100000 in
theorem Fimpl_Var_gives (k : Nat) (a0 : Int) (r : List UInt8) (H : Fimpl_Var k a0 = some r) : Gives Try.prog 124 [V.one (cI a0)] [] [V.one (cS r)] [] := by
  refine Gives.intro Try.func124 rfl rfl rfl rfl ?_
  intro F hF hm
  unfold Fimpl_Var at H
  obtain ⟨K, hK⟩ : ∃ K, k ≤ K := ⟨k, Nat.le_refl k⟩
  refine WpC.seq ?_
  refine WpC.regionL ?_
  refine L.assign hF rfl rfl rfl ?_
  refine L.nil ?_
  refine WpC.seq ?_
  refine WpC.seq ?_
  refine WpC.regionL ?_
  refine L.move hF rfl rfl rfl ?_
  obtain ⟨r2, hr2, H⟩ := bindS H
  refine L.call [false, false, false] [] [] 1 hF rfl rfl rfl ent113 rfl rfl rfl rfl rfl (Fimpl_within_gives k  a0 (0 : Int) (562949953421311 : Int) r2 hr2) rfl ?_
  refine L.not hF rfl rfl rfl ?_
  refine L.nil ?_
  refine WpC.cond rfl (fun hc => ?_) (fun hc => ?_)
  · replace H := condT hc H
    refine WpC.seq ?_
    refine WpC.regionL ?_
    refine L.assign hF rfl rfl rfl ?_
    refine L.nil ?_
    refine WpC.ret ?_
    cases H
    exact Leaves.ret rfl rfl rfl ⟨rfl, rfl⟩
  · replace H := condF hc H
    refine WpC.skip ?_
    refine WpC.seq ?_
    refine WpC.regionL ?_
    refine L.buildSlice (e := eB) 2 ([] : List UInt8) Try.underlying50 info5 rfl rfl rfl hF rfl rfl rfl rfl rfl rfl rfl rfl ?_
    refine L.assign hF rfl rfl rfl ?_
    refine L.nil ?_
    refine WpC.seq ?_
    refine WpC.block ?_
    refine WpC.loopL (P := Try.prog) (fun n σ => ∃ v16 : Int, ∃ v17 : List UInt8, n ≤ K ∧ Fimpl_Var.l2 n v16 v17 = some r ∧ σ = mkSt [(0, one (cI v16)), (3, one (Cell.own 0))] [(0, ⟨1, List.map eB v17⟩)] [] 1) k ⟨_, ⟨a0, ([] : List UInt8), by omega, H, rfl⟩, Le.mk [(0, 2)] hm rfl ⟨⟨_, rfl, rfl⟩, ⟨_, rfl, rfl⟩, trivial⟩ ⟨⟨_, rfl, rfl⟩, trivial⟩ trivial⟩ ?_
    clear H
    rintro k2 _ ⟨v16, v17, hk2, H, rfl⟩
    cases k2 with
    | zero => cases H
    | succ k2 =>
      rw [Fimpl_Var.l2] at H
      refine WpC.seq ?_
      refine WpC.seq ?_
      refine WpC.regionL ?_
      refine L.move hF rfl rfl rfl ?_
      refine L.bin hF rfl rfl rfl rfl rfl rfl ?_
      refine L.nil ?_
      refine WpC.cond rfl (fun hc => ?_) (fun hc => ?_)
      · replace H := condT hc H
        refine WpC.skip ?_
        refine WpC.block ?_
        refine WpC.seq ?_
        refine WpC.regionL ?_
        refine L.move hF rfl rfl rfl ?_
        refine L.move hF rfl rfl rfl ?_
        refine L.bin hF rfl rfl rfl rfl rfl rfl ?_
        refine L.bin hF rfl rfl rfl rfl rfl rfl ?_
        refine L.toB Try.underlying3 Try.underlying5 hF rfl rfl rfl ?_
        refine L.buildSlice (e := eB) 1 ([(ofI (Go.bits .or .i64 (Go.bits .and .i64 v16 (127 : Int)) (128 : Int)))] : List UInt8) Try.underlying50 info5 rfl rfl rfl hF rfl rfl rfl rfl rfl rfl rfl rfl ?_
        obtain ⟨h18, H⟩ := condG H
        refine L.append (xs := v17) (ys := ([(ofI (Go.bits .or .i64 (Go.bits .and .i64 v16 (127 : Int)) (128 : Int)))] : List UInt8)) (e := eB) 2 Try.underlying50 info5 rfl rfl hF rfl rfl rfl rfl rfl rfl rfl rfl (fun _ => rfl) (fun _ _ h1 h2 => by cases h1; cases h2; rfl) ⟨_, Try.underlying50⟩ (of_decide_eq_true h18) rfl rfl ?_
        refine L.assign hF rfl rfl rfl ?_
        refine L.nil ?_
        refine WpC.regionL ?_
        refine L.move hF rfl rfl rfl ?_
        refine L.shr hF rfl rfl rfl rfl (by decide) ?_
        refine L.assign hF rfl rfl rfl ?_
        refine L.nil ?_
        exact ⟨k2, _, by omega, ⟨(shrI .i64 v16 (7 : Int)), (v17 ++ ([(ofI (Go.bits .or .i64 (Go.bits .and .i64 v16 (127 : Int)) (128 : Int)))] : List UInt8)), by omega, H, rfl⟩, Le.mk [(0, 2)] hm rfl ⟨⟨_, rfl, rfl⟩, ⟨_, rfl, rfl⟩, trivial⟩ ⟨⟨_, rfl, rfl⟩, trivial⟩ trivial⟩
      · replace H := condF hc H
        refine WpC.exit ?_
        refine WpC.seq ?_
        refine WpC.regionL ?_
        refine L.move hF rfl rfl rfl ?_
        refine L.move hF rfl rfl rfl ?_
        refine L.toB Try.underlying3 Try.underlying5 hF rfl rfl rfl ?_
        refine L.buildSlice (e := eB) 1 ([(ofI v16)] : List UInt8) Try.underlying50 info5 rfl rfl rfl hF rfl rfl rfl rfl rfl rfl rfl rfl ?_
        obtain ⟨h19, H⟩ := condG H
        refine L.append (xs := v17) (ys := ([(ofI v16)] : List UInt8)) (e := eB) 2 Try.underlying50 info5 rfl rfl hF rfl rfl rfl rfl rfl rfl rfl rfl (fun _ => rfl) (fun _ _ h1 h2 => by cases h1; cases h2; rfl) ⟨_, Try.underlying50⟩ (of_decide_eq_true h19) rfl rfl ?_
        refine L.b2s (xs := (v17 ++ ([(ofI v16)] : List UInt8))) Try.underlying50 Try.underlying5 Try.underlying9 hF rfl rfl rfl rfl ?_
        refine L.assign hF rfl rfl rfl ?_
        refine L.nil ?_
        refine WpC.ret ?_
        cases H
        exact Leaves.ret rfl rfl rfl ⟨rfl, rfl⟩
/-! ### Fimpl_tlvText -/
def Fimpl_tlvText.l2 (cREC : (List Timpl_Tlv) → Int → Option (List UInt8)) : Nat → (List Timpl_Tlv) → (List UInt8) → (List Int) → Int → Int → Int → Bool → (List UInt8) → Option (List UInt8)
  | 0, _, _, _, _, _, _, _, _ => none
  | k2 + 1, v74, v75, v76, v77, v78, v79, v80, v81 => cond (decide (v78 < v77)) ((at? v76 v78).bind fun b85 => (cREC v74 b85).bind fun r86 => cond (decide (v75.length + r86.length ≤ 9223372036854775807)) ((Fimpl_tlvText.l2 cREC k2) v74 (v75 ++ r86) v76 v77 (IntKind.i64.wrap (v78 + (1 : Int))) v79 v80 v81) none) ((Fimpl_Var k2 (v75.length : Int)).bind fun r88 => cond (decide (([(ofI (IntKind.i64.wrap (v79 + (128 : Int))))] : List UInt8).length + r88.length ≤ 9223372036854775807)) (cond (decide ((([(ofI (IntKind.i64.wrap (v79 + (128 : Int))))] : List UInt8) ++ r88).length + v75.length ≤ 9223372036854775807)) (some ((([(ofI (IntKind.i64.wrap (v79 + (128 : Int))))] : List UInt8) ++ r88) ++ v75)) none) none)
def Fimpl_tlvText : Nat → (List Timpl_Tlv) → Int → Option (List UInt8)
  | 0, _, _ => none
  | k + 1, a0, a1 => (at? a0 a1).bind fun b1 => cond b1.Leaf ((Fimpl_Var k (b1.Data.length : Int)).bind fun r5 => cond (decide (([(ofI b1.Tag)] : List UInt8).length + r5.length ≤ 9223372036854775807)) (cond (decide ((([(ofI b1.Tag)] : List UInt8) ++ r5).length + b1.Data.length ≤ 9223372036854775807)) (some ((([(ofI b1.Tag)] : List UInt8) ++ r5) ++ b1.Data)) none) none) (Fimpl_tlvText.l2 (Fimpl_tlvText k) k a0 ([] : List UInt8) b1.Kids (b1.Kids.length : Int) (0 : Int) b1.Tag b1.Leaf b1.Data)
theorem ent116 : Enters Try.prog 116 := ⟨Try.f116, Try.func116, rfl, by decide⟩
set_option maxHeartbeats 8000000 in
set_option maxRecDepth 100000 in
theorem Fimpl_tlvText_gives : ∀ (k : Nat) (g0 : Bool) (a0 : List Timpl_Tlv) (a1 : Int) (r : List UInt8) (H : Fimpl_tlvText k a0 a1 = some r), Gives Try.prog 116 [V.one (Cell.sl g0 (List.map eTimpl_Tlv a0)), V.one (cI a1)] [] [V.one (cS r)] [] := by
  intro k
  induction k with
  | zero => intros; rename_i H; cases H
  | succ k ih =>
    intro g0 a0 a1 r H
    refine Gives.intro Try.func116 rfl rfl rfl rfl ?_
    intro F hF hm
    rw [Fimpl_tlvText] at H
    obtain ⟨K, hK⟩ : ∃ K, k ≤ K := ⟨k, Nat.le_refl k⟩
    refine WpC.seq ?_
    refine WpC.regionL ?_
    refine L.assign hF rfl rfl rfl ?_
    refine L.nil ?_
    refine WpC.seq ?_
    refine WpC.regionL ?_
    refine L.move hF rfl rfl rfl ?_
    refine L.move hF rfl rfl rfl ?_
    obtain ⟨b1, hb1, H⟩ := bindS H
    refine L.idxR (xs := a0) (e := eTimpl_Tlv) Try.underlying33 info63 hF rfl rfl rfl rfl rfl hb1 rfl rfl ?_
    refine L.loadPe shape63 hF rfl rfl rfl rfl rfl ?_
    refine L.alloc 2 info63 rfl hF rfl rfl rfl rfl ?_
    refine L.storePtr shape63 hF rfl rfl rfl rfl rfl rfl rfl ?_
    refine L.nil ?_
    refine WpC.seq ?_
    refine WpC.seq ?_
    refine WpC.regionL ?_
    refine L.fieldAddr Try.underlying63 rfl info4 rfl hF rfl rfl rfl rfl rfl ?_
    refine L.loadPtr shape4 hF rfl rfl rfl rfl rfl rfl ?_
    refine L.nil ?_
    refine WpC.cond rfl (fun hc => ?_) (fun hc => ?_)
    · replace H := condT hc H
      refine WpC.seq ?_
      obtain ⟨r5, hr5, H⟩ := bindS H
      obtain ⟨h6, H⟩ := condG H
      obtain ⟨h7, H⟩ := condG H
      refine A.begin mixed rfl rfl ?_
      intro W hI hO
      have n16383 : W 0 #[true, true, true, true, true, true, true, true, true, true, true, true, true, true] (mkSt [(4, one (cS ((([(ofI b1.Tag)] : List UInt8) ++ r5) ++ b1.Data)))] [] [] 0) := by
        refine hI _ _ _ (A.done (by kernel_rfl) ?_)
        refine WpC.ret ?_
        cases H
        exact Leaves.ret rfl rfl rfl ⟨rfl, rfl⟩
      have n8191 : W 1 #[true, true, true, true, true, true, true, true, true, true, true, true, true, false] (mkSt [(4, one (cS ([] : List UInt8))), (27, one (cS ((([(ofI b1.Tag)] : List UInt8) ++ r5) ++ b1.Data)))] [] [] 0) := by
        refine hI _ _ _ ?_
        refine A.take 13 rfl (by kernel_rfl) (by kernel_rfl) (by kernel_rfl) rfl (Ca.assign) (fun Q0 k0 => L.assign hF rfl rfl rfl (L.nil k0)) ?_
        exact A.on (hO _ _ _ n16383) (Le.mk [] hm rfl ⟨⟨_, rfl, rfl⟩, trivial⟩ trivial trivial)
      have n4095 : W 2 #[true, true, true, true, true, true, true, true, true, true, true, true, false, false] (mkSt [(4, one (cS ([] : List UInt8))), (24, one (cS (([(ofI b1.Tag)] : List UInt8) ++ r5))), (26, one (cS b1.Data))] [] [] 0) := by
        refine hI _ _ _ ?_
        refine A.take 12 rfl (by kernel_rfl) (by kernel_rfl) (by kernel_rfl) rfl (Ca.bin rfl rfl (calm_str _ _ _ _ _ _)) (fun Q0 k0 => L.catS hF rfl rfl rfl rfl (of_decide_eq_true h7) (L.nil k0)) ?_
        exact A.on (hO _ _ _ n8191) (Le.mk [] hm rfl ⟨⟨_, rfl, rfl⟩, ⟨_, rfl, rfl⟩, trivial⟩ trivial trivial)
      have n2047 : W 3 #[true, true, true, true, true, true, true, true, true, true, true, false, false, false] (mkSt [(4, one (cS ([] : List UInt8))), (24, one (cS (([(ofI b1.Tag)] : List UInt8) ++ r5))), (25, one (Cell.ptr 0 2))] [] [(0, [cI b1.Tag, cL b1.Leaf, cS b1.Data, Cell.sl true (List.map eI b1.Kids)])] 1) := by
        refine hI _ _ _ ?_
        refine A.all [11] (by kernel_rfl) rfl ⟨⟨_, rfl, ?_⟩, trivial⟩
        · refine L.loadPtr shape9 hF rfl rfl rfl rfl rfl rfl ?_
          refine L.nil ?_
          exact A.on (hO _ _ _ n4095) (Le.mk [] hm rfl ⟨⟨_, rfl, rfl⟩, ⟨_, rfl, rfl⟩, ⟨_, rfl, rfl⟩, trivial⟩ trivial trivial)
      have n3583 : W 3 #[true, true, true, true, true, true, true, true, true, false, true, true, false, false] (mkSt [(4, one (cS ([] : List UInt8))), (19, one (cS ([(ofI b1.Tag)] : List UInt8))), (23, one (cS r5)), (26, one (cS b1.Data))] [] [] 0) := by
        refine hI _ _ _ ?_
        refine A.take 9 rfl (by kernel_rfl) (by kernel_rfl) (by kernel_rfl) rfl (Ca.bin rfl rfl (calm_str _ _ _ _ _ _)) (fun Q0 k0 => L.catS hF rfl rfl rfl rfl (of_decide_eq_true h6) (L.nil k0)) ?_
        exact A.on (hO _ _ _ n4095) (Le.mk [] hm rfl ⟨⟨_, rfl, rfl⟩, ⟨_, rfl, rfl⟩, ⟨_, rfl, rfl⟩, trivial⟩ trivial trivial)
      have n1535 : W 4 #[true, true, true, true, true, true, true, true, true, false, true, false, false, false] (mkSt [(4, one (cS ([] : List UInt8))), (19, one (cS ([(ofI b1.Tag)] : List UInt8))), (23, one (cS r5)), (25, one (Cell.ptr 0 2))] [] [(0, [cI b1.Tag, cL b1.Leaf, cS b1.Data, Cell.sl true (List.map eI b1.Kids)])] 1) := by
        refine hI _ _ _ ?_
        refine A.take 9 rfl (by kernel_rfl) (by kernel_rfl) (by kernel_rfl) rfl (Ca.bin rfl rfl (calm_str _ _ _ _ _ _)) (fun Q0 k0 => L.catS hF rfl rfl rfl rfl (of_decide_eq_true h6) (L.nil k0)) ?_
        exact A.on (hO _ _ _ n2047) (Le.mk [(0, 0)] hm rfl ⟨⟨_, rfl, rfl⟩, ⟨_, rfl, rfl⟩, ⟨_, rfl, rfl⟩, trivial⟩ trivial ⟨⟨_, _, rfl, rfl, rfl⟩, trivial⟩)
      have n3327 : W 4 #[true, true, true, true, true, true, true, true, false, false, true, true, false, false] (mkSt [(4, one (cS ([] : List UInt8))), (19, one (cS ([(ofI b1.Tag)] : List UInt8))), (22, one (cI (b1.Data.length : Int))), (26, one (cS b1.Data))] [] [] 0) := by
        refine hI _ _ _ ?_
        refine A.all [8] (by kernel_rfl) rfl ⟨⟨_, rfl, ?_⟩, trivial⟩
        · refine L.call [false] [] [] 0 hF rfl rfl rfl ent124 rfl rfl rfl rfl rfl (Fimpl_Var_gives k  (b1.Data.length : Int) r5 hr5) rfl ?_
          refine L.nil ?_
          exact A.on (hO _ _ _ n3583) (Le.mk [] hm rfl ⟨⟨_, rfl, rfl⟩, ⟨_, rfl, rfl⟩, ⟨_, rfl, rfl⟩, ⟨_, rfl, rfl⟩, trivial⟩ trivial trivial)
      have n3567 : W 4 #[true, true, true, true, false, true, true, true, true, false, true, true, false, false] (mkSt [(4, one (cS ([] : List UInt8))), (18, one (Cell.own 0)), (23, one (cS r5)), (26, one (cS b1.Data))] [(0, ⟨1, List.map eB ([(ofI b1.Tag)] : List UInt8)⟩)] [] 1) := by
        refine hI _ _ _ ?_
        refine A.all [4] (by kernel_rfl) rfl ⟨⟨_, rfl, ?_⟩, trivial⟩
        · refine L.b2s (xs := ([(ofI b1.Tag)] : List UInt8)) Try.underlying50 Try.underlying5 Try.underlying9 hF rfl rfl rfl rfl ?_
          refine L.nil ?_
          exact A.on (hO _ _ _ n3583) (Le.mk [] hm rfl ⟨⟨_, rfl, rfl⟩, ⟨_, rfl, rfl⟩, ⟨_, rfl, rfl⟩, ⟨_, rfl, rfl⟩, trivial⟩ trivial trivial)
      have n1279 : W 5 #[true, true, true, true, true, true, true, true, false, false, true, false, false, false] (mkSt [(4, one (cS ([] : List UInt8))), (19, one (cS ([(ofI b1.Tag)] : List UInt8))), (22, one (cI (b1.Data.length : Int))), (25, one (Cell.ptr 0 2))] [] [(0, [cI b1.Tag, cL b1.Leaf, cS b1.Data, Cell.sl true (List.map eI b1.Kids)])] 1) := by
        refine hI _ _ _ ?_
        refine A.all [8, 11] (by kernel_rfl) rfl ⟨⟨_, rfl, ?_⟩, ⟨_, rfl, ?_⟩, trivial⟩
        · refine L.call [false] [] [] 1 hF rfl rfl rfl ent124 rfl rfl rfl rfl rfl (Fimpl_Var_gives k  (b1.Data.length : Int) r5 hr5) rfl ?_
          refine L.nil ?_
          exact A.on (hO _ _ _ n1535) (Le.mk [(0, 0)] hm rfl ⟨⟨_, rfl, rfl⟩, ⟨_, rfl, rfl⟩, ⟨_, rfl, rfl⟩, ⟨_, rfl, rfl⟩, trivial⟩ trivial ⟨⟨_, _, rfl, rfl, rfl⟩, trivial⟩)
        · refine L.loadPtr shape9 hF rfl rfl rfl rfl rfl rfl ?_
          refine L.nil ?_
          exact A.on (hO _ _ _ n3327) (Le.mk [] hm rfl ⟨⟨_, rfl, rfl⟩, ⟨_, rfl, rfl⟩, ⟨_, rfl, rfl⟩, ⟨_, rfl, rfl⟩, trivial⟩ trivial trivial)
      have n3199 : W 5 #[true, true, true, true, true, true, true, false, false, false, true, true, false, false] (mkSt [(4, one (cS ([] : List UInt8))), (19, one (cS ([(ofI b1.Tag)] : List UInt8))), (21, one (cS b1.Data)), (26, one (cS b1.Data))] [] [] 0) := by
        refine hI _ _ _ ?_
        refine A.take 7 rfl (by kernel_rfl) (by kernel_rfl) (by kernel_rfl) rfl (Ca.lenS Try.underlying9 rfl) (fun Q0 k0 => L.lenS Try.underlying9 hF rfl rfl rfl (L.nil k0)) ?_
        exact A.on (hO _ _ _ n3327) (Le.mk [] hm rfl ⟨⟨_, rfl, rfl⟩, ⟨_, rfl, rfl⟩, ⟨_, rfl, rfl⟩, ⟨_, rfl, rfl⟩, trivial⟩ trivial trivial)
      have n3559 : W 5 #[true, true, true, false, false, true, true, true, true, false, true, true, false, false] (mkSt [(4, one (cS ([] : List UInt8))), (17, one (cU (ofI b1.Tag))), (23, one (cS r5)), (26, one (cS b1.Data))] [] [] 0) := by
        refine hI _ _ _ ?_
        refine A.all [3] (by kernel_rfl) rfl ⟨⟨_, rfl, ?_⟩, trivial⟩
        · refine L.buildSlice (e := eB) 0 ([(ofI b1.Tag)] : List UInt8) Try.underlying50 info5 rfl rfl rfl hF rfl rfl rfl rfl rfl rfl rfl rfl ?_
          refine L.nil ?_
          exact A.on (hO _ _ _ n3567) (Le.mk [(0, 0)] hm rfl ⟨⟨_, rfl, rfl⟩, ⟨_, rfl, rfl⟩, ⟨_, rfl, rfl⟩, ⟨_, rfl, rfl⟩, trivial⟩ ⟨⟨_, rfl, rfl⟩, trivial⟩ trivial)
      have n3311 : W 5 #[true, true, true, true, false, true, true, true, false, false, true, true, false, false] (mkSt [(4, one (cS ([] : List UInt8))), (18, one (Cell.own 0)), (22, one (cI (b1.Data.length : Int))), (26, one (cS b1.Data))] [(0, ⟨1, List.map eB ([(ofI b1.Tag)] : List UInt8)⟩)] [] 1) := by
        refine hI _ _ _ ?_
        refine A.all [4, 8] (by kernel_rfl) rfl ⟨⟨_, rfl, ?_⟩, ⟨_, rfl, ?_⟩, trivial⟩
        · refine L.b2s (xs := ([(ofI b1.Tag)] : List UInt8)) Try.underlying50 Try.underlying5 Try.underlying9 hF rfl rfl rfl rfl ?_
          refine L.nil ?_
          exact A.on (hO _ _ _ n3327) (Le.mk [] hm rfl ⟨⟨_, rfl, rfl⟩, ⟨_, rfl, rfl⟩, ⟨_, rfl, rfl⟩, ⟨_, rfl, rfl⟩, trivial⟩ trivial trivial)
        · refine L.call [false] [] [] 1 hF rfl rfl rfl ent124 rfl rfl rfl rfl rfl (Fimpl_Var_gives k  (b1.Data.length : Int) r5 hr5) rfl ?_
          refine L.nil ?_
          exact A.on (hO _ _ _ n3567) (Le.mk [(0, 0)] hm rfl ⟨⟨_, rfl, rfl⟩, ⟨_, rfl, rfl⟩, ⟨_, rfl, rfl⟩, ⟨_, rfl, rfl⟩, trivial⟩ ⟨⟨_, rfl, rfl⟩, trivial⟩ trivial)
      have n1519 : W 5 #[true, true, true, true, false, true, true, true, true, false, true, false, false, false] (mkSt [(4, one (cS ([] : List UInt8))), (18, one (Cell.own 0)), (23, one (cS r5)), (25, one (Cell.ptr 1 2))] [(0, ⟨1, List.map eB ([(ofI b1.Tag)] : List UInt8)⟩)] [(1, [cI b1.Tag, cL b1.Leaf, cS b1.Data, Cell.sl true (List.map eI b1.Kids)])] 2) := by
        refine hI _ _ _ ?_
        refine A.all [4, 11] (by kernel_rfl) rfl ⟨⟨_, rfl, ?_⟩, ⟨_, rfl, ?_⟩, trivial⟩
        · refine L.b2s (xs := ([(ofI b1.Tag)] : List UInt8)) Try.underlying50 Try.underlying5 Try.underlying9 hF rfl rfl rfl rfl ?_
          refine L.nil ?_
          exact A.on (hO _ _ _ n1535) (Le.mk [(0, 1)] hm rfl ⟨⟨_, rfl, rfl⟩, ⟨_, rfl, rfl⟩, ⟨_, rfl, rfl⟩, ⟨_, rfl, rfl⟩, trivial⟩ trivial ⟨⟨_, _, rfl, rfl, rfl⟩, trivial⟩)
        · refine L.loadPtr shape9 hF rfl rfl rfl rfl rfl rfl ?_
          refine L.nil ?_
          exact A.on (hO _ _ _ n3567) (Le.mk [(0, 0)] hm rfl ⟨⟨_, rfl, rfl⟩, ⟨_, rfl, rfl⟩, ⟨_, rfl, rfl⟩, ⟨_, rfl, rfl⟩, trivial⟩ ⟨⟨_, rfl, rfl⟩, trivial⟩ trivial)
      have n1151 : W 6 #[true, true, true, true, true, true, true, false, false, false, true, false, false, false] (mkSt [(4, one (cS ([] : List UInt8))), (19, one (cS ([(ofI b1.Tag)] : List UInt8))), (21, one (cS b1.Data)), (25, one (Cell.ptr 0 2))] [] [(0, [cI b1.Tag, cL b1.Leaf, cS b1.Data, Cell.sl true (List.map eI b1.Kids)])] 1) := by
        refine hI _ _ _ ?_
        refine A.take 7 rfl (by kernel_rfl) (by kernel_rfl) (by kernel_rfl) rfl (Ca.lenS Try.underlying9 rfl) (fun Q0 k0 => L.lenS Try.underlying9 hF rfl rfl rfl (L.nil k0)) ?_
        exact A.on (hO _ _ _ n1279) (Le.mk [(0, 0)] hm rfl ⟨⟨_, rfl, rfl⟩, ⟨_, rfl, rfl⟩, ⟨_, rfl, rfl⟩, ⟨_, rfl, rfl⟩, trivial⟩ trivial ⟨⟨_, _, rfl, rfl, rfl⟩, trivial⟩)
      have n3135 : W 6 #[true, true, true, true, true, true, false, false, false, false, true, true, false, false] (mkSt [(4, one (cS ([] : List UInt8))), (19, one (cS ([(ofI b1.Tag)] : List UInt8))), (20, one (Cell.ptr 0 2)), (26, one (cS b1.Data))] [] [(0, [cI b1.Tag, cL b1.Leaf, cS b1.Data, Cell.sl true (List.map eI b1.Kids)])] 1) := by
        refine hI _ _ _ ?_
        refine A.all [6] (by kernel_rfl) rfl ⟨⟨_, rfl, ?_⟩, trivial⟩
        · refine L.loadPtr shape9 hF rfl rfl rfl rfl rfl rfl ?_
          refine L.nil ?_
          exact A.on (hO _ _ _ n3199) (Le.mk [] hm rfl ⟨⟨_, rfl, rfl⟩, ⟨_, rfl, rfl⟩, ⟨_, rfl, rfl⟩, ⟨_, rfl, rfl⟩, trivial⟩ trivial trivial)
      have n3555 : W 6 #[true, true, false, false, false, true, true, true, true, false, true, true, false, false] (mkSt [(4, one (cS ([] : List UInt8))), (16, one (cI b1.Tag)), (23, one (cS r5)), (26, one (cS b1.Data))] [] [] 0) := by
        refine hI _ _ _ ?_
        refine A.take 2 rfl (by kernel_rfl) (by kernel_rfl) (by kernel_rfl) rfl (Ca.conv Try.underlying3 Try.underlying5 rfl) (fun Q0 k0 => L.toB Try.underlying3 Try.underlying5 hF rfl rfl rfl (L.nil k0)) ?_
        exact A.on (hO _ _ _ n3559) (Le.mk [] hm rfl ⟨⟨_, rfl, rfl⟩, ⟨_, rfl, rfl⟩, ⟨_, rfl, rfl⟩, ⟨_, rfl, rfl⟩, trivial⟩ trivial trivial)
      have n3303 : W 6 #[true, true, true, false, false, true, true, true, false, false, true, true, false, false] (mkSt [(4, one (cS ([] : List UInt8))), (17, one (cU (ofI b1.Tag))), (22, one (cI (b1.Data.length : Int))), (26, one (cS b1.Data))] [] [] 0) := by
        refine hI _ _ _ ?_
        refine A.all [3, 8] (by kernel_rfl) rfl ⟨⟨_, rfl, ?_⟩, ⟨_, rfl, ?_⟩, trivial⟩
        · refine L.buildSlice (e := eB) 0 ([(ofI b1.Tag)] : List UInt8) Try.underlying50 info5 rfl rfl rfl hF rfl rfl rfl rfl rfl rfl rfl rfl ?_
          refine L.nil ?_
          exact A.on (hO _ _ _ n3311) (Le.mk [(0, 0)] hm rfl ⟨⟨_, rfl, rfl⟩, ⟨_, rfl, rfl⟩, ⟨_, rfl, rfl⟩, ⟨_, rfl, rfl⟩, trivial⟩ ⟨⟨_, rfl, rfl⟩, trivial⟩ trivial)
        · refine L.call [false] [] [] 0 hF rfl rfl rfl ent124 rfl rfl rfl rfl rfl (Fimpl_Var_gives k  (b1.Data.length : Int) r5 hr5) rfl ?_
          refine L.nil ?_
          exact A.on (hO _ _ _ n3559) (Le.mk [] hm rfl ⟨⟨_, rfl, rfl⟩, ⟨_, rfl, rfl⟩, ⟨_, rfl, rfl⟩, ⟨_, rfl, rfl⟩, trivial⟩ trivial trivial)
      have n1511 : W 6 #[true, true, true, false, false, true, true, true, true, false, true, false, false, false] (mkSt [(4, one (cS ([] : List UInt8))), (17, one (cU (ofI b1.Tag))), (23, one (cS r5)), (25, one (Cell.ptr 0 2))] [] [(0, [cI b1.Tag, cL b1.Leaf, cS b1.Data, Cell.sl true (List.map eI b1.Kids)])] 1) := by
        refine hI _ _ _ ?_
        refine A.all [3, 11] (by kernel_rfl) rfl ⟨⟨_, rfl, ?_⟩, ⟨_, rfl, ?_⟩, trivial⟩
        · refine L.buildSlice (e := eB) 1 ([(ofI b1.Tag)] : List UInt8) Try.underlying50 info5 rfl rfl rfl hF rfl rfl rfl rfl rfl rfl rfl rfl ?_
          refine L.nil ?_
          exact A.on (hO _ _ _ n1519) (Le.mk [(0, 1), (1, 0)] hm rfl ⟨⟨_, rfl, rfl⟩, ⟨_, rfl, rfl⟩, ⟨_, rfl, rfl⟩, ⟨_, rfl, rfl⟩, trivial⟩ ⟨⟨_, rfl, rfl⟩, trivial⟩ ⟨⟨_, _, rfl, rfl, rfl⟩, trivial⟩)
        · refine L.loadPtr shape9 hF rfl rfl rfl rfl rfl rfl ?_
          refine L.nil ?_
          exact A.on (hO _ _ _ n3559) (Le.mk [] hm rfl ⟨⟨_, rfl, rfl⟩, ⟨_, rfl, rfl⟩, ⟨_, rfl, rfl⟩, ⟨_, rfl, rfl⟩, trivial⟩ trivial trivial)
      have n3183 : W 6 #[true, true, true, true, false, true, true, false, false, false, true, true, false, false] (mkSt [(4, one (cS ([] : List UInt8))), (18, one (Cell.own 0)), (21, one (cS b1.Data)), (26, one (cS b1.Data))] [(0, ⟨1, List.map eB ([(ofI b1.Tag)] : List UInt8)⟩)] [] 1) := by
        refine hI _ _ _ ?_
        refine A.take 7 rfl (by kernel_rfl) (by kernel_rfl) (by kernel_rfl) rfl (Ca.lenS Try.underlying9 rfl) (fun Q0 k0 => L.lenS Try.underlying9 hF rfl rfl rfl (L.nil k0)) ?_
        exact A.on (hO _ _ _ n3311) (Le.mk [(0, 0)] hm rfl ⟨⟨_, rfl, rfl⟩, ⟨_, rfl, rfl⟩, ⟨_, rfl, rfl⟩, ⟨_, rfl, rfl⟩, trivial⟩ ⟨⟨_, rfl, rfl⟩, trivial⟩ trivial)
      have n1263 : W 6 #[true, true, true, true, false, true, true, true, false, false, true, false, false, false] (mkSt [(4, one (cS ([] : List UInt8))), (18, one (Cell.own 0)), (22, one (cI (b1.Data.length : Int))), (25, one (Cell.ptr 1 2))] [(0, ⟨1, List.map eB ([(ofI b1.Tag)] : List UInt8)⟩)] [(1, [cI b1.Tag, cL b1.Leaf, cS b1.Data, Cell.sl true (List.map eI b1.Kids)])] 2) := by
        refine hI _ _ _ ?_
        refine A.all [4, 8, 11] (by kernel_rfl) rfl ⟨⟨_, rfl, ?_⟩, ⟨_, rfl, ?_⟩, ⟨_, rfl, ?_⟩, trivial⟩
        · refine L.b2s (xs := ([(ofI b1.Tag)] : List UInt8)) Try.underlying50 Try.underlying5 Try.underlying9 hF rfl rfl rfl rfl ?_
          refine L.nil ?_
          exact A.on (hO _ _ _ n1279) (Le.mk [(0, 1)] hm rfl ⟨⟨_, rfl, rfl⟩, ⟨_, rfl, rfl⟩, ⟨_, rfl, rfl⟩, ⟨_, rfl, rfl⟩, trivial⟩ trivial ⟨⟨_, _, rfl, rfl, rfl⟩, trivial⟩)
        · refine L.call [false] [] [] 2 hF rfl rfl rfl ent124 rfl rfl rfl rfl rfl (Fimpl_Var_gives k  (b1.Data.length : Int) r5 hr5) rfl ?_
          refine L.nil ?_
          exact A.on (hO _ _ _ n1519) (Le.mk [(0, 0), (1, 1)] hm rfl ⟨⟨_, rfl, rfl⟩, ⟨_, rfl, rfl⟩, ⟨_, rfl, rfl⟩, ⟨_, rfl, rfl⟩, trivial⟩ ⟨⟨_, rfl, rfl⟩, trivial⟩ ⟨⟨_, _, rfl, rfl, rfl⟩, trivial⟩)
        · refine L.loadPtr shape9 hF rfl rfl rfl rfl rfl rfl ?_
          refine L.nil ?_
          exact A.on (hO _ _ _ n3311) (Le.mk [(0, 0)] hm rfl ⟨⟨_, rfl, rfl⟩, ⟨_, rfl, rfl⟩, ⟨_, rfl, rfl⟩, ⟨_, rfl, rfl⟩, trivial⟩ ⟨⟨_, rfl, rfl⟩, trivial⟩ trivial)
      have n1507 : W 7 #[true, true, false, false, false, true, true, true, true, false, true, false, false, false] (mkSt [(4, one (cS ([] : List UInt8))), (16, one (cI b1.Tag)), (23, one (cS r5)), (25, one (Cell.ptr 0 2))] [] [(0, [cI b1.Tag, cL b1.Leaf, cS b1.Data, Cell.sl true (List.map eI b1.Kids)])] 1) := by
        refine hI _ _ _ ?_
        refine A.take 2 rfl (by kernel_rfl) (by kernel_rfl) (by kernel_rfl) rfl (Ca.conv Try.underlying3 Try.underlying5 rfl) (fun Q0 k0 => L.toB Try.underlying3 Try.underlying5 hF rfl rfl rfl (L.nil k0)) ?_
        exact A.on (hO _ _ _ n1511) (Le.mk [(0, 0)] hm rfl ⟨⟨_, rfl, rfl⟩, ⟨_, rfl, rfl⟩, ⟨_, rfl, rfl⟩, ⟨_, rfl, rfl⟩, trivial⟩ trivial ⟨⟨_, _, rfl, rfl, rfl⟩, trivial⟩)
      have n3119 : W 7 #[true, true, true, true, false, true, false, false, false, false, true, true, false, false] (mkSt [(4, one (cS ([] : List UInt8))), (18, one (Cell.own 0)), (20, one (Cell.ptr 1 2)), (26, one (cS b1.Data))] [(0, ⟨1, List.map eB ([(ofI b1.Tag)] : List UInt8)⟩)] [(1, [cI b1.Tag, cL b1.Leaf, cS b1.Data, Cell.sl true (List.map eI b1.Kids)])] 2) := by
        refine hI _ _ _ ?_
        refine A.all [4, 6] (by kernel_rfl) rfl ⟨⟨_, rfl, ?_⟩, ⟨_, rfl, ?_⟩, trivial⟩
        · refine L.b2s (xs := ([(ofI b1.Tag)] : List UInt8)) Try.underlying50 Try.underlying5 Try.underlying9 hF rfl rfl rfl rfl ?_
          refine L.nil ?_
          exact A.on (hO _ _ _ n3135) (Le.mk [(0, 1)] hm rfl ⟨⟨_, rfl, rfl⟩, ⟨_, rfl, rfl⟩, ⟨_, rfl, rfl⟩, ⟨_, rfl, rfl⟩, trivial⟩ trivial ⟨⟨_, _, rfl, rfl, rfl⟩, trivial⟩)
        · refine L.loadPtr shape9 hF rfl rfl rfl rfl rfl rfl ?_
          refine L.nil ?_
          exact A.on (hO _ _ _ n3183) (Le.mk [(0, 0)] hm rfl ⟨⟨_, rfl, rfl⟩, ⟨_, rfl, rfl⟩, ⟨_, rfl, rfl⟩, ⟨_, rfl, rfl⟩, trivial⟩ ⟨⟨_, rfl, rfl⟩, trivial⟩ trivial)
      have n1087 : W 7 #[true, true, true, true, true, true, false, false, false, false, true, false, false, false] (mkSt [(4, one (cS ([] : List UInt8))), (19, one (cS ([(ofI b1.Tag)] : List UInt8))), (20, one (Cell.ptr 0 2)), (25, one (Cell.ptr 0 2))] [] [(0, [cI b1.Tag, cL b1.Leaf, cS b1.Data, Cell.sl true (List.map eI b1.Kids)])] 1) := by
        refine hI _ _ _ ?_
        refine A.all [6, 11] (by kernel_rfl) rfl ⟨⟨_, rfl, ?_⟩, ⟨_, rfl, ?_⟩, trivial⟩
        · refine L.loadPtr shape9 hF rfl rfl rfl rfl rfl rfl ?_
          refine L.nil ?_
          exact A.on (hO _ _ _ n1151) (Le.mk [(0, 0)] hm rfl ⟨⟨_, rfl, rfl⟩, ⟨_, rfl, rfl⟩, ⟨_, rfl, rfl⟩, ⟨_, rfl, rfl⟩, trivial⟩ trivial ⟨⟨_, _, rfl, rfl, rfl⟩, trivial⟩)
        · refine L.loadPtr shape9 hF rfl rfl rfl rfl rfl rfl ?_
          refine L.nil ?_
          exact A.on (hO _ _ _ n3135) (Le.mk [(0, 0)] hm rfl ⟨⟨_, rfl, rfl⟩, ⟨_, rfl, rfl⟩, ⟨_, rfl, rfl⟩, ⟨_, rfl, rfl⟩, trivial⟩ trivial ⟨⟨_, _, rfl, rfl, rfl⟩, trivial⟩)
      have n3299 : W 7 #[true, true, false, false, false, true, true, true, false, false, true, true, false, false] (mkSt [(4, one (cS ([] : List UInt8))), (16, one (cI b1.Tag)), (22, one (cI (b1.Data.length : Int))), (26, one (cS b1.Data))] [] [] 0) := by
        refine hI _ _ _ ?_
        refine A.take 2 rfl (by kernel_rfl) (by kernel_rfl) (by kernel_rfl) rfl (Ca.conv Try.underlying3 Try.underlying5 rfl) (fun Q0 k0 => L.toB Try.underlying3 Try.underlying5 hF rfl rfl rfl (L.nil k0)) ?_
        exact A.on (hO _ _ _ n3303) (Le.mk [] hm rfl ⟨⟨_, rfl, rfl⟩, ⟨_, rfl, rfl⟩, ⟨_, rfl, rfl⟩, ⟨_, rfl, rfl⟩, trivial⟩ trivial trivial)
      have n3553 : W 7 #[true, false, false, false, false, true, true, true, true, false, true, true, false, false] (mkSt [(4, one (cS ([] : List UInt8))), (15, one (Cell.ptr 0 0)), (23, one (cS r5)), (26, one (cS b1.Data))] [] [(0, [cI b1.Tag, cL b1.Leaf, cS b1.Data, Cell.sl true (List.map eI b1.Kids)])] 1) := by
        refine hI _ _ _ ?_
        refine A.all [1] (by kernel_rfl) rfl ⟨⟨_, rfl, ?_⟩, trivial⟩
        · refine L.loadPtr shape3 hF rfl rfl rfl rfl rfl rfl ?_
          refine L.nil ?_
          exact A.on (hO _ _ _ n3555) (Le.mk [] hm rfl ⟨⟨_, rfl, rfl⟩, ⟨_, rfl, rfl⟩, ⟨_, rfl, rfl⟩, ⟨_, rfl, rfl⟩, trivial⟩ trivial trivial)
      have n3175 : W 7 #[true, true, true, false, false, true, true, false, false, false, true, true, false, false] (mkSt [(4, one (cS ([] : List UInt8))), (17, one (cU (ofI b1.Tag))), (21, one (cS b1.Data)), (26, one (cS b1.Data))] [] [] 0) := by
        refine hI _ _ _ ?_
        refine A.take 7 rfl (by kernel_rfl) (by kernel_rfl) (by kernel_rfl) rfl (Ca.lenS Try.underlying9 rfl) (fun Q0 k0 => L.lenS Try.underlying9 hF rfl rfl rfl (L.nil k0)) ?_
        exact A.on (hO _ _ _ n3303) (Le.mk [] hm rfl ⟨⟨_, rfl, rfl⟩, ⟨_, rfl, rfl⟩, ⟨_, rfl, rfl⟩, ⟨_, rfl, rfl⟩, trivial⟩ trivial trivial)
      have n1255 : W 7 #[true, true, true, false, false, true, true, true, false, false, true, false, false, false] (mkSt [(4, one (cS ([] : List UInt8))), (17, one (cU (ofI b1.Tag))), (22, one (cI (b1.Data.length : Int))), (25, one (Cell.ptr 0 2))] [] [(0, [cI b1.Tag, cL b1.Leaf, cS b1.Data, Cell.sl true (List.map eI b1.Kids)])] 1) := by
        refine hI _ _ _ ?_
        refine A.all [3, 8, 11] (by kernel_rfl) rfl ⟨⟨_, rfl, ?_⟩, ⟨_, rfl, ?_⟩, ⟨_, rfl, ?_⟩, trivial⟩
        · refine L.buildSlice (e := eB) 1 ([(ofI b1.Tag)] : List UInt8) Try.underlying50 info5 rfl rfl rfl hF rfl rfl rfl rfl rfl rfl rfl rfl ?_
          refine L.nil ?_
          exact A.on (hO _ _ _ n1263) (Le.mk [(0, 1), (1, 0)] hm rfl ⟨⟨_, rfl, rfl⟩, ⟨_, rfl, rfl⟩, ⟨_, rfl, rfl⟩, ⟨_, rfl, rfl⟩, trivial⟩ ⟨⟨_, rfl, rfl⟩, trivial⟩ ⟨⟨_, _, rfl, rfl, rfl⟩, trivial⟩)
        · refine L.call [false] [] [] 1 hF rfl rfl rfl ent124 rfl rfl rfl rfl rfl (Fimpl_Var_gives k  (b1.Data.length : Int) r5 hr5) rfl ?_
          refine L.nil ?_
          exact A.on (hO _ _ _ n1511) (Le.mk [(0, 0)] hm rfl ⟨⟨_, rfl, rfl⟩, ⟨_, rfl, rfl⟩, ⟨_, rfl, rfl⟩, ⟨_, rfl, rfl⟩, trivial⟩ trivial ⟨⟨_, _, rfl, rfl, rfl⟩, trivial⟩)
        · refine L.loadPtr shape9 hF rfl rfl rfl rfl rfl rfl ?_
          refine L.nil ?_
          exact A.on (hO _ _ _ n3303) (Le.mk [] hm rfl ⟨⟨_, rfl, rfl⟩, ⟨_, rfl, rfl⟩, ⟨_, rfl, rfl⟩, ⟨_, rfl, rfl⟩, trivial⟩ trivial trivial)
      have n1135 : W 7 #[true, true, true, true, false, true, true, false, false, false, true, false, false, false] (mkSt [(4, one (cS ([] : List UInt8))), (18, one (Cell.own 0)), (21, one (cS b1.Data)), (25, one (Cell.ptr 1 2))] [(0, ⟨1, List.map eB ([(ofI b1.Tag)] : List UInt8)⟩)] [(1, [cI b1.Tag, cL b1.Leaf, cS b1.Data, Cell.sl true (List.map eI b1.Kids)])] 2) := by
        refine hI _ _ _ ?_
        refine A.take 7 rfl (by kernel_rfl) (by kernel_rfl) (by kernel_rfl) rfl (Ca.lenS Try.underlying9 rfl) (fun Q0 k0 => L.lenS Try.underlying9 hF rfl rfl rfl (L.nil k0)) ?_
        exact A.on (hO _ _ _ n1263) (Le.mk [(0, 0), (1, 1)] hm rfl ⟨⟨_, rfl, rfl⟩, ⟨_, rfl, rfl⟩, ⟨_, rfl, rfl⟩, ⟨_, rfl, rfl⟩, trivial⟩ ⟨⟨_, rfl, rfl⟩, trivial⟩ ⟨⟨_, _, rfl, rfl, rfl⟩, trivial⟩)
      have n1505 : W 8 #[true, false, false, false, false, true, true, true, true, false, true, false, false, false] (mkSt [(4, one (cS ([] : List UInt8))), (15, one (Cell.ptr 0 0)), (23, one (cS r5)), (25, one (Cell.ptr 0 2))] [] [(0, [cI b1.Tag, cL b1.Leaf, cS b1.Data, Cell.sl true (List.map eI b1.Kids)])] 1) := by
        refine hI _ _ _ ?_
        refine A.all [1, 11] (by kernel_rfl) rfl ⟨⟨_, rfl, ?_⟩, ⟨_, rfl, ?_⟩, trivial⟩
        · refine L.loadPtr shape3 hF rfl rfl rfl rfl rfl rfl ?_
          refine L.nil ?_
          exact A.on (hO _ _ _ n1507) (Le.mk [(0, 0)] hm rfl ⟨⟨_, rfl, rfl⟩, ⟨_, rfl, rfl⟩, ⟨_, rfl, rfl⟩, ⟨_, rfl, rfl⟩, trivial⟩ trivial ⟨⟨_, _, rfl, rfl, rfl⟩, trivial⟩)
        · refine L.loadPtr shape9 hF rfl rfl rfl rfl rfl rfl ?_
          refine L.nil ?_
          exact A.on (hO _ _ _ n3553) (Le.mk [(0, 0)] hm rfl ⟨⟨_, rfl, rfl⟩, ⟨_, rfl, rfl⟩, ⟨_, rfl, rfl⟩, ⟨_, rfl, rfl⟩, trivial⟩ trivial ⟨⟨_, _, rfl, rfl, rfl⟩, trivial⟩)
      have n1251 : W 8 #[true, true, false, false, false, true, true, true, false, false, true, false, false, false] (mkSt [(4, one (cS ([] : List UInt8))), (16, one (cI b1.Tag)), (22, one (cI (b1.Data.length : Int))), (25, one (Cell.ptr 0 2))] [] [(0, [cI b1.Tag, cL b1.Leaf, cS b1.Data, Cell.sl true (List.map eI b1.Kids)])] 1) := by
        refine hI _ _ _ ?_
        refine A.take 2 rfl (by kernel_rfl) (by kernel_rfl) (by kernel_rfl) rfl (Ca.conv Try.underlying3 Try.underlying5 rfl) (fun Q0 k0 => L.toB Try.underlying3 Try.underlying5 hF rfl rfl rfl (L.nil k0)) ?_
        exact A.on (hO _ _ _ n1255) (Le.mk [(0, 0)] hm rfl ⟨⟨_, rfl, rfl⟩, ⟨_, rfl, rfl⟩, ⟨_, rfl, rfl⟩, ⟨_, rfl, rfl⟩, trivial⟩ trivial ⟨⟨_, _, rfl, rfl, rfl⟩, trivial⟩)
      have n3111 : W 8 #[true, true, true, false, false, true, false, false, false, false, true, true, false, false] (mkSt [(4, one (cS ([] : List UInt8))), (17, one (cU (ofI b1.Tag))), (20, one (Cell.ptr 0 2)), (26, one (cS b1.Data))] [] [(0, [cI b1.Tag, cL b1.Leaf, cS b1.Data, Cell.sl true (List.map eI b1.Kids)])] 1) := by
        refine hI _ _ _ ?_
        refine A.all [3, 6] (by kernel_rfl) rfl ⟨⟨_, rfl, ?_⟩, ⟨_, rfl, ?_⟩, trivial⟩
        · refine L.buildSlice (e := eB) 1 ([(ofI b1.Tag)] : List UInt8) Try.underlying50 info5 rfl rfl rfl hF rfl rfl rfl rfl rfl rfl rfl rfl ?_
          refine L.nil ?_
          exact A.on (hO _ _ _ n3119) (Le.mk [(0, 1), (1, 0)] hm rfl ⟨⟨_, rfl, rfl⟩, ⟨_, rfl, rfl⟩, ⟨_, rfl, rfl⟩, ⟨_, rfl, rfl⟩, trivial⟩ ⟨⟨_, rfl, rfl⟩, trivial⟩ ⟨⟨_, _, rfl, rfl, rfl⟩, trivial⟩)
        · refine L.loadPtr shape9 hF rfl rfl rfl rfl rfl rfl ?_
          refine L.nil ?_
          exact A.on (hO _ _ _ n3175) (Le.mk [] hm rfl ⟨⟨_, rfl, rfl⟩, ⟨_, rfl, rfl⟩, ⟨_, rfl, rfl⟩, ⟨_, rfl, rfl⟩, trivial⟩ trivial trivial)
      have n1127 : W 8 #[true, true, true, false, false, true, true, false, false, false, true, false, false, false] (mkSt [(4, one (cS ([] : List UInt8))), (17, one (cU (ofI b1.Tag))), (21, one (cS b1.Data)), (25, one (Cell.ptr 0 2))] [] [(0, [cI b1.Tag, cL b1.Leaf, cS b1.Data, Cell.sl true (List.map eI b1.Kids)])] 1) := by
        refine hI _ _ _ ?_
        refine A.take 7 rfl (by kernel_rfl) (by kernel_rfl) (by kernel_rfl) rfl (Ca.lenS Try.underlying9 rfl) (fun Q0 k0 => L.lenS Try.underlying9 hF rfl rfl rfl (L.nil k0)) ?_
        exact A.on (hO _ _ _ n1255) (Le.mk [(0, 0)] hm rfl ⟨⟨_, rfl, rfl⟩, ⟨_, rfl, rfl⟩, ⟨_, rfl, rfl⟩, ⟨_, rfl, rfl⟩, trivial⟩ trivial ⟨⟨_, _, rfl, rfl, rfl⟩, trivial⟩)
      have n1071 : W 8 #[true, true, true, true, false, true, false, false, false, false, true, false, false, false] (mkSt [(4, one (cS ([] : List UInt8))), (18, one (Cell.own 0)), (20, one (Cell.ptr 1 2)), (25, one (Cell.ptr 1 2))] [(0, ⟨1, List.map eB ([(ofI b1.Tag)] : List UInt8)⟩)] [(1, [cI b1.Tag, cL b1.Leaf, cS b1.Data, Cell.sl true (List.map eI b1.Kids)])] 2) := by
        refine hI _ _ _ ?_
        refine A.all [4, 6, 11] (by kernel_rfl) rfl ⟨⟨_, rfl, ?_⟩, ⟨_, rfl, ?_⟩, ⟨_, rfl, ?_⟩, trivial⟩
        · refine L.b2s (xs := ([(ofI b1.Tag)] : List UInt8)) Try.underlying50 Try.underlying5 Try.underlying9 hF rfl rfl rfl rfl ?_
          refine L.nil ?_
          exact A.on (hO _ _ _ n1087) (Le.mk [(0, 1)] hm rfl ⟨⟨_, rfl, rfl⟩, ⟨_, rfl, rfl⟩, ⟨_, rfl, rfl⟩, ⟨_, rfl, rfl⟩, trivial⟩ trivial ⟨⟨_, _, rfl, rfl, rfl⟩, trivial⟩)
        · refine L.loadPtr shape9 hF rfl rfl rfl rfl rfl rfl ?_
          refine L.nil ?_
          exact A.on (hO _ _ _ n1135) (Le.mk [(0, 0), (1, 1)] hm rfl ⟨⟨_, rfl, rfl⟩, ⟨_, rfl, rfl⟩, ⟨_, rfl, rfl⟩, ⟨_, rfl, rfl⟩, trivial⟩ ⟨⟨_, rfl, rfl⟩, trivial⟩ ⟨⟨_, _, rfl, rfl, rfl⟩, trivial⟩)
        · refine L.loadPtr shape9 hF rfl rfl rfl rfl rfl rfl ?_
          refine L.nil ?_
          exact A.on (hO _ _ _ n3119) (Le.mk [(0, 0), (1, 1)] hm rfl ⟨⟨_, rfl, rfl⟩, ⟨_, rfl, rfl⟩, ⟨_, rfl, rfl⟩, ⟨_, rfl, rfl⟩, trivial⟩ ⟨⟨_, rfl, rfl⟩, trivial⟩ ⟨⟨_, _, rfl, rfl, rfl⟩, trivial⟩)
      have n3297 : W 8 #[true, false, false, false, false, true, true, true, false, false, true, true, false, false] (mkSt [(4, one (cS ([] : List UInt8))), (15, one (Cell.ptr 0 0)), (22, one (cI (b1.Data.length : Int))), (26, one (cS b1.Data))] [] [(0, [cI b1.Tag, cL b1.Leaf, cS b1.Data, Cell.sl true (List.map eI b1.Kids)])] 1) := by
        refine hI _ _ _ ?_
        refine A.all [1, 8] (by kernel_rfl) rfl ⟨⟨_, rfl, ?_⟩, ⟨_, rfl, ?_⟩, trivial⟩
        · refine L.loadPtr shape3 hF rfl rfl rfl rfl rfl rfl ?_
          refine L.nil ?_
          exact A.on (hO _ _ _ n3299) (Le.mk [] hm rfl ⟨⟨_, rfl, rfl⟩, ⟨_, rfl, rfl⟩, ⟨_, rfl, rfl⟩, ⟨_, rfl, rfl⟩, trivial⟩ trivial trivial)
        · refine L.call [false] [] [] 1 hF rfl rfl rfl ent124 rfl rfl rfl rfl rfl (Fimpl_Var_gives k  (b1.Data.length : Int) r5 hr5) rfl ?_
          refine L.nil ?_
          exact A.on (hO _ _ _ n3553) (Le.mk [(0, 0)] hm rfl ⟨⟨_, rfl, rfl⟩, ⟨_, rfl, rfl⟩, ⟨_, rfl, rfl⟩, ⟨_, rfl, rfl⟩, trivial⟩ trivial ⟨⟨_, _, rfl, rfl, rfl⟩, trivial⟩)
      have n1249 : W 9 #[true, false, false, false, false, true, true, true, false, false, true, false, false, false] (mkSt [(4, one (cS ([] : List UInt8))), (15, one (Cell.ptr 0 0)), (22, one (cI (b1.Data.length : Int))), (25, one (Cell.ptr 0 2))] [] [(0, [cI b1.Tag, cL b1.Leaf, cS b1.Data, Cell.sl true (List.map eI b1.Kids)])] 1) := by
        refine hI _ _ _ ?_
        refine A.all [1, 8, 11] (by kernel_rfl) rfl ⟨⟨_, rfl, ?_⟩, ⟨_, rfl, ?_⟩, ⟨_, rfl, ?_⟩, trivial⟩
        · refine L.loadPtr shape3 hF rfl rfl rfl rfl rfl rfl ?_
          refine L.nil ?_
          exact A.on (hO _ _ _ n1251) (Le.mk [(0, 0)] hm rfl ⟨⟨_, rfl, rfl⟩, ⟨_, rfl, rfl⟩, ⟨_, rfl, rfl⟩, ⟨_, rfl, rfl⟩, trivial⟩ trivial ⟨⟨_, _, rfl, rfl, rfl⟩, trivial⟩)
        · refine L.call [false] [] [] 1 hF rfl rfl rfl ent124 rfl rfl rfl rfl rfl (Fimpl_Var_gives k  (b1.Data.length : Int) r5 hr5) rfl ?_
          refine L.nil ?_
          exact A.on (hO _ _ _ n1505) (Le.mk [(0, 0)] hm rfl ⟨⟨_, rfl, rfl⟩, ⟨_, rfl, rfl⟩, ⟨_, rfl, rfl⟩, ⟨_, rfl, rfl⟩, trivial⟩ trivial ⟨⟨_, _, rfl, rfl, rfl⟩, trivial⟩)
        · refine L.loadPtr shape9 hF rfl rfl rfl rfl rfl rfl ?_
          refine L.nil ?_
          exact A.on (hO _ _ _ n3297) (Le.mk [(0, 0)] hm rfl ⟨⟨_, rfl, rfl⟩, ⟨_, rfl, rfl⟩, ⟨_, rfl, rfl⟩, ⟨_, rfl, rfl⟩, trivial⟩ trivial ⟨⟨_, _, rfl, rfl, rfl⟩, trivial⟩)
      have n3107 : W 9 #[true, true, false, false, false, true, false, false, false, false, true, true, false, false] (mkSt [(4, one (cS ([] : List UInt8))), (16, one (cI b1.Tag)), (20, one (Cell.ptr 0 2)), (26, one (cS b1.Data))] [] [(0, [cI b1.Tag, cL b1.Leaf, cS b1.Data, Cell.sl true (List.map eI b1.Kids)])] 1) := by
        refine hI _ _ _ ?_
        refine A.take 2 rfl (by kernel_rfl) (by kernel_rfl) (by kernel_rfl) rfl (Ca.conv Try.underlying3 Try.underlying5 rfl) (fun Q0 k0 => L.toB Try.underlying3 Try.underlying5 hF rfl rfl rfl (L.nil k0)) ?_
        exact A.on (hO _ _ _ n3111) (Le.mk [(0, 0)] hm rfl ⟨⟨_, rfl, rfl⟩, ⟨_, rfl, rfl⟩, ⟨_, rfl, rfl⟩, ⟨_, rfl, rfl⟩, trivial⟩ trivial ⟨⟨_, _, rfl, rfl, rfl⟩, trivial⟩)
      have n1063 : W 9 #[true, true, true, false, false, true, false, false, false, false, true, false, false, false] (mkSt [(4, one (cS ([] : List UInt8))), (17, one (cU (ofI b1.Tag))), (20, one (Cell.ptr 0 2)), (25, one (Cell.ptr 0 2))] [] [(0, [cI b1.Tag, cL b1.Leaf, cS b1.Data, Cell.sl true (List.map eI b1.Kids)])] 1) := by
        refine hI _ _ _ ?_
        refine A.all [3, 6, 11] (by kernel_rfl) rfl ⟨⟨_, rfl, ?_⟩, ⟨_, rfl, ?_⟩, ⟨_, rfl, ?_⟩, trivial⟩
        · refine L.buildSlice (e := eB) 1 ([(ofI b1.Tag)] : List UInt8) Try.underlying50 info5 rfl rfl rfl hF rfl rfl rfl rfl rfl rfl rfl rfl ?_
          refine L.nil ?_
          exact A.on (hO _ _ _ n1071) (Le.mk [(0, 1), (1, 0)] hm rfl ⟨⟨_, rfl, rfl⟩, ⟨_, rfl, rfl⟩, ⟨_, rfl, rfl⟩, ⟨_, rfl, rfl⟩, trivial⟩ ⟨⟨_, rfl, rfl⟩, trivial⟩ ⟨⟨_, _, rfl, rfl, rfl⟩, trivial⟩)
        · refine L.loadPtr shape9 hF rfl rfl rfl rfl rfl rfl ?_
          refine L.nil ?_
          exact A.on (hO _ _ _ n1127) (Le.mk [(0, 0)] hm rfl ⟨⟨_, rfl, rfl⟩, ⟨_, rfl, rfl⟩, ⟨_, rfl, rfl⟩, ⟨_, rfl, rfl⟩, trivial⟩ trivial ⟨⟨_, _, rfl, rfl, rfl⟩, trivial⟩)
        · refine L.loadPtr shape9 hF rfl rfl rfl rfl rfl rfl ?_
          refine L.nil ?_
          exact A.on (hO _ _ _ n3111) (Le.mk [(0, 0)] hm rfl ⟨⟨_, rfl, rfl⟩, ⟨_, rfl, rfl⟩, ⟨_, rfl, rfl⟩, ⟨_, rfl, rfl⟩, trivial⟩ trivial ⟨⟨_, _, rfl, rfl, rfl⟩, trivial⟩)
      have n3169 : W 9 #[true, false, false, false, false, true, true, false, false, false, true, true, false, false] (mkSt [(4, one (cS ([] : List UInt8))), (15, one (Cell.ptr 0 0)), (21, one (cS b1.Data)), (26, one (cS b1.Data))] [] [(0, [cI b1.Tag, cL b1.Leaf, cS b1.Data, Cell.sl true (List.map eI b1.Kids)])] 1) := by
        refine hI _ _ _ ?_
        refine A.take 7 rfl (by kernel_rfl) (by kernel_rfl) (by kernel_rfl) rfl (Ca.lenS Try.underlying9 rfl) (fun Q0 k0 => L.lenS Try.underlying9 hF rfl rfl rfl (L.nil k0)) ?_
        exact A.on (hO _ _ _ n3297) (Le.mk [(0, 0)] hm rfl ⟨⟨_, rfl, rfl⟩, ⟨_, rfl, rfl⟩, ⟨_, rfl, rfl⟩, ⟨_, rfl, rfl⟩, trivial⟩ trivial ⟨⟨_, _, rfl, rfl, rfl⟩, trivial⟩)
      have n1059 : W 10 #[true, true, false, false, false, true, false, false, false, false, true, false, false, false] (mkSt [(4, one (cS ([] : List UInt8))), (16, one (cI b1.Tag)), (20, one (Cell.ptr 0 2)), (25, one (Cell.ptr 0 2))] [] [(0, [cI b1.Tag, cL b1.Leaf, cS b1.Data, Cell.sl true (List.map eI b1.Kids)])] 1) := by
        refine hI _ _ _ ?_
        refine A.take 2 rfl (by kernel_rfl) (by kernel_rfl) (by kernel_rfl) rfl (Ca.conv Try.underlying3 Try.underlying5 rfl) (fun Q0 k0 => L.toB Try.underlying3 Try.underlying5 hF rfl rfl rfl (L.nil k0)) ?_
        exact A.on (hO _ _ _ n1063) (Le.mk [(0, 0)] hm rfl ⟨⟨_, rfl, rfl⟩, ⟨_, rfl, rfl⟩, ⟨_, rfl, rfl⟩, ⟨_, rfl, rfl⟩, trivial⟩ trivial ⟨⟨_, _, rfl, rfl, rfl⟩, trivial⟩)
      have n3105 : W 10 #[true, false, false, false, false, true, false, false, false, false, true, true, false, false] (mkSt [(4, one (cS ([] : List UInt8))), (15, one (Cell.ptr 0 0)), (20, one (Cell.ptr 0 2)), (26, one (cS b1.Data))] [] [(0, [cI b1.Tag, cL b1.Leaf, cS b1.Data, Cell.sl true (List.map eI b1.Kids)])] 1) := by
        refine hI _ _ _ ?_
        refine A.all [1, 6] (by kernel_rfl) rfl ⟨⟨_, rfl, ?_⟩, ⟨_, rfl, ?_⟩, trivial⟩
        · refine L.loadPtr shape3 hF rfl rfl rfl rfl rfl rfl ?_
          refine L.nil ?_
          exact A.on (hO _ _ _ n3107) (Le.mk [(0, 0)] hm rfl ⟨⟨_, rfl, rfl⟩, ⟨_, rfl, rfl⟩, ⟨_, rfl, rfl⟩, ⟨_, rfl, rfl⟩, trivial⟩ trivial ⟨⟨_, _, rfl, rfl, rfl⟩, trivial⟩)
        · refine L.loadPtr shape9 hF rfl rfl rfl rfl rfl rfl ?_
          refine L.nil ?_
          exact A.on (hO _ _ _ n3169) (Le.mk [(0, 0)] hm rfl ⟨⟨_, rfl, rfl⟩, ⟨_, rfl, rfl⟩, ⟨_, rfl, rfl⟩, ⟨_, rfl, rfl⟩, trivial⟩ trivial ⟨⟨_, _, rfl, rfl, rfl⟩, trivial⟩)
      have n1121 : W 10 #[true, false, false, false, false, true, true, false, false, false, true, false, false, false] (mkSt [(4, one (cS ([] : List UInt8))), (15, one (Cell.ptr 0 0)), (21, one (cS b1.Data)), (25, one (Cell.ptr 0 2))] [] [(0, [cI b1.Tag, cL b1.Leaf, cS b1.Data, Cell.sl true (List.map eI b1.Kids)])] 1) := by
        refine hI _ _ _ ?_
        refine A.take 7 rfl (by kernel_rfl) (by kernel_rfl) (by kernel_rfl) rfl (Ca.lenS Try.underlying9 rfl) (fun Q0 k0 => L.lenS Try.underlying9 hF rfl rfl rfl (L.nil k0)) ?_
        exact A.on (hO _ _ _ n1249) (Le.mk [(0, 0)] hm rfl ⟨⟨_, rfl, rfl⟩, ⟨_, rfl, rfl⟩, ⟨_, rfl, rfl⟩, ⟨_, rfl, rfl⟩, trivial⟩ trivial ⟨⟨_, _, rfl, rfl, rfl⟩, trivial⟩)
      have n1057 : W 11 #[true, false, false, false, false, true, false, false, false, false, true, false, false, false] (mkSt [(4, one (cS ([] : List UInt8))), (15, one (Cell.ptr 0 0)), (20, one (Cell.ptr 0 2)), (25, one (Cell.ptr 0 2))] [] [(0, [cI b1.Tag, cL b1.Leaf, cS b1.Data, Cell.sl true (List.map eI b1.Kids)])] 1) := by
        refine hI _ _ _ ?_
        refine A.all [1, 6, 11] (by kernel_rfl) rfl ⟨⟨_, rfl, ?_⟩, ⟨_, rfl, ?_⟩, ⟨_, rfl, ?_⟩, trivial⟩
        · refine L.loadPtr shape3 hF rfl rfl rfl rfl rfl rfl ?_
          refine L.nil ?_
          exact A.on (hO _ _ _ n1059) (Le.mk [(0, 0)] hm rfl ⟨⟨_, rfl, rfl⟩, ⟨_, rfl, rfl⟩, ⟨_, rfl, rfl⟩, ⟨_, rfl, rfl⟩, trivial⟩ trivial ⟨⟨_, _, rfl, rfl, rfl⟩, trivial⟩)
        · refine L.loadPtr shape9 hF rfl rfl rfl rfl rfl rfl ?_
          refine L.nil ?_
          exact A.on (hO _ _ _ n1121) (Le.mk [(0, 0)] hm rfl ⟨⟨_, rfl, rfl⟩, ⟨_, rfl, rfl⟩, ⟨_, rfl, rfl⟩, ⟨_, rfl, rfl⟩, trivial⟩ trivial ⟨⟨_, _, rfl, rfl, rfl⟩, trivial⟩)
        · refine L.loadPtr shape9 hF rfl rfl rfl rfl rfl rfl ?_
          refine L.nil ?_
          exact A.on (hO _ _ _ n3105) (Le.mk [(0, 0)] hm rfl ⟨⟨_, rfl, rfl⟩, ⟨_, rfl, rfl⟩, ⟨_, rfl, rfl⟩, ⟨_, rfl, rfl⟩, trivial⟩ trivial ⟨⟨_, _, rfl, rfl, rfl⟩, trivial⟩)
      have n33 : W 12 #[true, false, false, false, false, true, false, false, false, false, false, false, false, false] (mkSt [(4, one (cS ([] : List UInt8))), (5, one (Cell.ptr 0 0)), (15, one (Cell.ptr 0 0)), (20, one (Cell.ptr 0 2))] [] [(0, [cI b1.Tag, cL b1.Leaf, cS b1.Data, Cell.sl true (List.map eI b1.Kids)])] 1) := by
        refine hI _ _ _ ?_
        refine A.take 10 rfl (by kernel_rfl) (by kernel_rfl) (by kernel_rfl) rfl (Ca.fieldAddr Try.underlying63 rfl info9 rfl) (fun Q0 k0 => L.fieldAddr Try.underlying63 rfl info9 rfl hF rfl rfl rfl rfl rfl (L.nil k0)) ?_
        exact A.on (hO _ _ _ n1057) (Le.mk [(0, 0)] hm rfl ⟨⟨_, rfl, rfl⟩, ⟨_, rfl, rfl⟩, ⟨_, rfl, rfl⟩, ⟨_, rfl, rfl⟩, trivial⟩ trivial ⟨⟨_, _, rfl, rfl, rfl⟩, trivial⟩)
      have n1 : W 13 #[true, false, false, false, false, false, false, false, false, false, false, false, false, false] (mkSt [(4, one (cS ([] : List UInt8))), (5, one (Cell.ptr 0 0)), (15, one (Cell.ptr 0 0))] [] [(0, [cI b1.Tag, cL b1.Leaf, cS b1.Data, Cell.sl true (List.map eI b1.Kids)])] 1) := by
        refine hI _ _ _ ?_
        refine A.take 5 rfl (by kernel_rfl) (by kernel_rfl) (by kernel_rfl) rfl (Ca.fieldAddr Try.underlying63 rfl info9 rfl) (fun Q0 k0 => L.fieldAddr Try.underlying63 rfl info9 rfl hF rfl rfl rfl rfl rfl (L.nil k0)) ?_
        exact A.on (hO _ _ _ n33) (Le.mk [(0, 0)] hm rfl ⟨⟨_, rfl, rfl⟩, ⟨_, rfl, rfl⟩, ⟨_, rfl, rfl⟩, ⟨_, rfl, rfl⟩, trivial⟩ trivial ⟨⟨_, _, rfl, rfl, rfl⟩, trivial⟩)
      have n0 : W 14 #[false, false, false, false, false, false, false, false, false, false, false, false, false, false] (mkSt [(4, one (cS ([] : List UInt8))), (5, one (Cell.ptr 0 0))] [] [(0, [cI b1.Tag, cL b1.Leaf, cS b1.Data, Cell.sl true (List.map eI b1.Kids)])] 1) := by
        refine hI _ _ _ ?_
        refine A.take 0 rfl (by kernel_rfl) (by kernel_rfl) (by kernel_rfl) rfl (Ca.fieldAddr Try.underlying63 rfl info3 rfl) (fun Q0 k0 => L.fieldAddr Try.underlying63 rfl info3 rfl hF rfl rfl rfl rfl rfl (L.nil k0)) ?_
        exact A.on (hO _ _ _ n1) (Le.mk [(0, 0)] hm rfl ⟨⟨_, rfl, rfl⟩, ⟨_, rfl, rfl⟩, ⟨_, rfl, rfl⟩, trivial⟩ trivial ⟨⟨_, _, rfl, rfl, rfl⟩, trivial⟩)
      exact hI _ _ _ (A.on (hO _ _ _ n0) (Le.mk [(0, 2)] hm rfl ⟨⟨_, rfl, rfl⟩, ⟨_, rfl, rfl⟩, trivial⟩ trivial ⟨⟨_, _, rfl, rfl, rfl⟩, trivial⟩))
    · replace H := condF hc H
      refine WpC.skip ?_
      refine WpC.seq ?_
      refine WpC.regionL ?_
      refine L.assign hF rfl rfl rfl ?_
      refine L.nil ?_
      refine WpC.seq ?_
      refine WpC.seq ?_
      refine WpC.regionL ?_
      refine L.fieldAddr Try.underlying63 rfl info24 rfl hF rfl rfl rfl rfl rfl ?_
      refine L.loadPtr shape24 hF rfl rfl rfl rfl rfl rfl ?_
      refine L.lenR (xs := b1.Kids) (e := eI) Try.underlying24 hF rfl rfl rfl rfl ?_
      refine L.move hF rfl rfl rfl ?_
      refine L.nil ?_
      refine WpC.block ?_
      refine WpC.loopL (P := Try.prog) (fun n σ => ∃ v74 : List Timpl_Tlv, ∃ v75 : List UInt8, ∃ v76 : List Int, ∃ v77 : Int, ∃ v78 : Int, ∃ v79 : Int, ∃ v80 : Bool, ∃ v81 : List UInt8, n ≤ K ∧ Fimpl_tlvText.l2 (Fimpl_tlvText k) n v74 v75 v76 v77 v78 v79 v80 v81 = some r ∧ σ = mkSt [(0, one (Cell.sl g0 (List.map eTimpl_Tlv v74))), (5, one (Cell.ptr 0 0)), (6, one (cS v75)), (29, one (Cell.sl true (List.map eI v76))), (30, one (cI v77)), (31, one (cI v78))] [] [(0, [cI v79, cL v80, cS v81, Cell.sl true (List.map eI v76)])] 1) k ⟨_, ⟨a0, ([] : List UInt8), b1.Kids, (b1.Kids.length : Int), (0 : Int), b1.Tag, b1.Leaf, b1.Data, by omega, H, rfl⟩, Le.mk [(0, 2)] hm rfl ⟨⟨_, rfl, rfl⟩, ⟨_, rfl, rfl⟩, ⟨_, rfl, rfl⟩, ⟨_, rfl, rfl⟩, ⟨_, rfl, rfl⟩, ⟨_, rfl, rfl⟩, trivial⟩ trivial ⟨⟨_, _, rfl, rfl, rfl⟩, trivial⟩⟩ ?_
      clear H
      rintro k2 _ ⟨v74, v75, v76, v77, v78, v79, v80, v81, hk2, H, rfl⟩
      cases k2 with
      | zero => cases H
      | succ k2 =>
        rw [Fimpl_tlvText.l2] at H
        refine WpC.seq ?_
        refine WpC.regionL ?_
        refine L.bin hF rfl rfl rfl rfl rfl rfl ?_
        refine L.nil ?_
        refine WpC.seq ?_
        refine WpC.cond rfl (fun hc => ?_) (fun hc => ?_)
        · replace H := condT hc H
          refine WpC.skip ?_
          refine WpC.seq ?_
          refine WpC.block ?_
          refine WpC.seq ?_
          refine WpC.regionL ?_
          obtain ⟨b85, hb85, H⟩ := bindS H
          refine L.idxR (xs := v76) (e := eI) Try.underlying24 info3 hF rfl rfl rfl rfl rfl hb85 rfl rfl ?_
          refine L.loadPe shape3 hF rfl rfl rfl rfl rfl ?_
          refine L.assign hF rfl rfl rfl ?_
          refine L.nil ?_
          refine WpC.regionL ?_
          refine L.move hF rfl rfl rfl ?_
          refine L.move hF rfl rfl rfl ?_
          refine L.move hF rfl rfl rfl ?_
          obtain ⟨r86, hr86, H⟩ := bindS H
          refine L.call [false, false] [] [] 1 hF rfl rfl rfl ent116 rfl rfl rfl rfl rfl (ih g0 v74 b85 r86 hr86) rfl ?_
          obtain ⟨h87, H⟩ := condG H
          refine L.catS hF rfl rfl rfl rfl (of_decide_eq_true h87) ?_
          refine L.assign hF rfl rfl rfl ?_
          refine L.nil ?_
          refine WpC.regionL ?_
          refine L.bin hF rfl rfl rfl rfl rfl rfl ?_
          refine L.move hF rfl rfl rfl ?_
          refine L.nil ?_
          exact ⟨k2, _, by omega, ⟨v74, (v75 ++ r86), v76, v77, (IntKind.i64.wrap (v78 + (1 : Int))), v79, v80, v81, by omega, H, rfl⟩, Le.mk [(0, 0)] hm rfl ⟨⟨_, rfl, rfl⟩, ⟨_, rfl, rfl⟩, ⟨_, rfl, rfl⟩, ⟨_, rfl, rfl⟩, ⟨_, rfl, rfl⟩, ⟨_, rfl, rfl⟩, trivial⟩ trivial ⟨⟨_, _, rfl, rfl, rfl⟩, trivial⟩⟩
        · replace H := condF hc H
          refine WpC.exit ?_
          refine WpC.seq ?_
          obtain ⟨r88, hr88, H⟩ := bindS H
          obtain ⟨h89, H⟩ := condG H
          obtain ⟨h90, H⟩ := condG H
          refine A.begin mixed rfl rfl ?_
          intro W hI hO
          have n8191 : W 0 #[true, true, true, true, true, true, true, true, true, true, true, true, true] (mkSt [(4, one (cS ((([(ofI (IntKind.i64.wrap (v79 + (128 : Int))))] : List UInt8) ++ r88) ++ v75)))] [] [] 0) := by
            refine hI _ _ _ (A.done (by kernel_rfl) ?_)
            refine WpC.ret ?_
            cases H
            exact Leaves.ret rfl rfl rfl ⟨rfl, rfl⟩
          have n4095 : W 1 #[true, true, true, true, true, true, true, true, true, true, true, true, false] (mkSt [(52, one (cS ((([(ofI (IntKind.i64.wrap (v79 + (128 : Int))))] : List UInt8) ++ r88) ++ v75)))] [] [] 0) := by
            refine hI _ _ _ ?_
            refine A.take 12 rfl (by kernel_rfl) (by kernel_rfl) (by kernel_rfl) rfl (Ca.assign) (fun Q0 k0 => L.assign hF rfl rfl rfl (L.nil k0)) ?_
            exact A.on (hO _ _ _ n8191) (Le.mk [] hm rfl ⟨⟨_, rfl, rfl⟩, trivial⟩ trivial trivial)
          have n2047 : W 2 #[true, true, true, true, true, true, true, true, true, true, true, false, false] (mkSt [(50, one (cS (([(ofI (IntKind.i64.wrap (v79 + (128 : Int))))] : List UInt8) ++ r88))), (51, one (cS v75))] [] [] 0) := by
            refine hI _ _ _ ?_
            refine A.take 11 rfl (by kernel_rfl) (by kernel_rfl) (by kernel_rfl) rfl (Ca.bin rfl rfl (calm_str _ _ _ _ _ _)) (fun Q0 k0 => L.catS hF rfl rfl rfl rfl (of_decide_eq_true h90) (L.nil k0)) ?_
            exact A.on (hO _ _ _ n4095) (Le.mk [] hm rfl ⟨⟨_, rfl, rfl⟩, trivial⟩ trivial trivial)
          have n1535 : W 3 #[true, true, true, true, true, true, true, true, true, false, true, false, false] (mkSt [(46, one (cS ([(ofI (IntKind.i64.wrap (v79 + (128 : Int))))] : List UInt8))), (49, one (cS r88)), (51, one (cS v75))] [] [] 0) := by
            refine hI _ _ _ ?_
            refine A.take 9 rfl (by kernel_rfl) (by kernel_rfl) (by kernel_rfl) rfl (Ca.bin rfl rfl (calm_str _ _ _ _ _ _)) (fun Q0 k0 => L.catS hF rfl rfl rfl rfl (of_decide_eq_true h89) (L.nil k0)) ?_
            exact A.on (hO _ _ _ n2047) (Le.mk [] hm rfl ⟨⟨_, rfl, rfl⟩, ⟨_, rfl, rfl⟩, trivial⟩ trivial trivial)
          have n1503 : W 4 #[true, true, true, true, true, false, true, true, true, false, true, false, false] (mkSt [(45, one (Cell.own 0)), (49, one (cS r88)), (51, one (cS v75))] [(0, ⟨1, List.map eB ([(ofI (IntKind.i64.wrap (v79 + (128 : Int))))] : List UInt8)⟩)] [] 1) := by
            refine hI _ _ _ ?_
            refine A.all [5] (by kernel_rfl) rfl ⟨⟨_, rfl, ?_⟩, trivial⟩
            · refine L.b2s (xs := ([(ofI (IntKind.i64.wrap (v79 + (128 : Int))))] : List UInt8)) Try.underlying50 Try.underlying5 Try.underlying9 hF rfl rfl rfl rfl ?_
              refine L.nil ?_
              exact A.on (hO _ _ _ n1535) (Le.mk [] hm rfl ⟨⟨_, rfl, rfl⟩, ⟨_, rfl, rfl⟩, ⟨_, rfl, rfl⟩, trivial⟩ trivial trivial)
          have n1279 : W 4 #[true, true, true, true, true, true, true, true, false, false, true, false, false] (mkSt [(46, one (cS ([(ofI (IntKind.i64.wrap (v79 + (128 : Int))))] : List UInt8))), (48, one (cI (v75.length : Int))), (51, one (cS v75))] [] [] 0) := by
            refine hI _ _ _ ?_
            refine A.all [8] (by kernel_rfl) rfl ⟨⟨_, rfl, ?_⟩, trivial⟩
            · refine L.call [false] [] [] 0 hF rfl rfl rfl ent124 rfl rfl rfl rfl rfl (Fimpl_Var_gives k2  (v75.length : Int) r88 hr88) rfl ?_
              refine L.nil ?_
              exact A.on (hO _ _ _ n1535) (Le.mk [] hm rfl ⟨⟨_, rfl, rfl⟩, ⟨_, rfl, rfl⟩, ⟨_, rfl, rfl⟩, trivial⟩ trivial trivial)
          have n1487 : W 5 #[true, true, true, true, false, false, true, true, true, false, true, false, false] (mkSt [(44, one (cU (ofI (IntKind.i64.wrap (v79 + (128 : Int)))))), (49, one (cS r88)), (51, one (cS v75))] [] [] 0) := by
            refine hI _ _ _ ?_
            refine A.all [4] (by kernel_rfl) rfl ⟨⟨_, rfl, ?_⟩, trivial⟩
            · refine L.buildSlice (e := eB) 0 ([(ofI (IntKind.i64.wrap (v79 + (128 : Int))))] : List UInt8) Try.underlying50 info5 rfl rfl rfl hF rfl rfl rfl rfl rfl rfl rfl rfl ?_
              refine L.nil ?_
              exact A.on (hO _ _ _ n1503) (Le.mk [(0, 0)] hm rfl ⟨⟨_, rfl, rfl⟩, ⟨_, rfl, rfl⟩, ⟨_, rfl, rfl⟩, trivial⟩ ⟨⟨_, rfl, rfl⟩, trivial⟩ trivial)
          have n1247 : W 5 #[true, true, true, true, true, false, true, true, false, false, true, false, false] (mkSt [(45, one (Cell.own 0)), (48, one (cI (v75.length : Int))), (51, one (cS v75))] [(0, ⟨1, List.map eB ([(ofI (IntKind.i64.wrap (v79 + (128 : Int))))] : List UInt8)⟩)] [] 1) := by
            refine hI _ _ _ ?_
            refine A.all [5, 8] (by kernel_rfl) rfl ⟨⟨_, rfl, ?_⟩, ⟨_, rfl, ?_⟩, trivial⟩
            · refine L.b2s (xs := ([(ofI (IntKind.i64.wrap (v79 + (128 : Int))))] : List UInt8)) Try.underlying50 Try.underlying5 Try.underlying9 hF rfl rfl rfl rfl ?_
              refine L.nil ?_
              exact A.on (hO _ _ _ n1279) (Le.mk [] hm rfl ⟨⟨_, rfl, rfl⟩, ⟨_, rfl, rfl⟩, ⟨_, rfl, rfl⟩, trivial⟩ trivial trivial)
            · refine L.call [false] [] [] 1 hF rfl rfl rfl ent124 rfl rfl rfl rfl rfl (Fimpl_Var_gives k2  (v75.length : Int) r88 hr88) rfl ?_
              refine L.nil ?_
              exact A.on (hO _ _ _ n1503) (Le.mk [(0, 0)] hm rfl ⟨⟨_, rfl, rfl⟩, ⟨_, rfl, rfl⟩, ⟨_, rfl, rfl⟩, trivial⟩ ⟨⟨_, rfl, rfl⟩, trivial⟩ trivial)
          have n1479 : W 6 #[true, true, true, false, false, false, true, true, true, false, true, false, false] (mkSt [(43, one (cI (IntKind.i64.wrap (v79 + (128 : Int))))), (49, one (cS r88)), (51, one (cS v75))] [] [] 0) := by
            refine hI _ _ _ ?_
            refine A.take 3 rfl (by kernel_rfl) (by kernel_rfl) (by kernel_rfl) rfl (Ca.conv Try.underlying3 Try.underlying5 rfl) (fun Q0 k0 => L.toB Try.underlying3 Try.underlying5 hF rfl rfl rfl (L.nil k0)) ?_
            exact A.on (hO _ _ _ n1487) (Le.mk [] hm rfl ⟨⟨_, rfl, rfl⟩, ⟨_, rfl, rfl⟩, ⟨_, rfl, rfl⟩, trivial⟩ trivial trivial)
          have n1231 : W 6 #[true, true, true, true, false, false, true, true, false, false, true, false, false] (mkSt [(44, one (cU (ofI (IntKind.i64.wrap (v79 + (128 : Int)))))), (48, one (cI (v75.length : Int))), (51, one (cS v75))] [] [] 0) := by
            refine hI _ _ _ ?_
            refine A.all [4, 8] (by kernel_rfl) rfl ⟨⟨_, rfl, ?_⟩, ⟨_, rfl, ?_⟩, trivial⟩
            · refine L.buildSlice (e := eB) 0 ([(ofI (IntKind.i64.wrap (v79 + (128 : Int))))] : List UInt8) Try.underlying50 info5 rfl rfl rfl hF rfl rfl rfl rfl rfl rfl rfl rfl ?_
              refine L.nil ?_
              exact A.on (hO _ _ _ n1247) (Le.mk [(0, 0)] hm rfl ⟨⟨_, rfl, rfl⟩, ⟨_, rfl, rfl⟩, ⟨_, rfl, rfl⟩, trivial⟩ ⟨⟨_, rfl, rfl⟩, trivial⟩ trivial)
            · refine L.call [false] [] [] 0 hF rfl rfl rfl ent124 rfl rfl rfl rfl rfl (Fimpl_Var_gives k2  (v75.length : Int) r88 hr88) rfl ?_
              refine L.nil ?_
              exact A.on (hO _ _ _ n1487) (Le.mk [] hm rfl ⟨⟨_, rfl, rfl⟩, ⟨_, rfl, rfl⟩, ⟨_, rfl, rfl⟩, trivial⟩ trivial trivial)
          have n1475 : W 7 #[true, true, false, false, false, false, true, true, true, false, true, false, false] (mkSt [(42, one (cI v79)), (49, one (cS r88)), (51, one (cS v75))] [] [] 0) := by
            refine hI _ _ _ ?_
            refine A.take 2 rfl (by kernel_rfl) (by kernel_rfl) (by kernel_rfl) rfl (Ca.bin rfl rfl (calm_int _ _ _ _ _ _ _ _)) (fun Q0 k0 => L.bin hF rfl rfl rfl rfl rfl rfl (L.nil k0)) ?_
            exact A.on (hO _ _ _ n1479) (Le.mk [] hm rfl ⟨⟨_, rfl, rfl⟩, ⟨_, rfl, rfl⟩, ⟨_, rfl, rfl⟩, trivial⟩ trivial trivial)
          have n1223 : W 7 #[true, true, true, false, false, false, true, true, false, false, true, false, false] (mkSt [(43, one (cI (IntKind.i64.wrap (v79 + (128 : Int))))), (48, one (cI (v75.length : Int))), (51, one (cS v75))] [] [] 0) := by
            refine hI _ _ _ ?_
            refine A.take 3 rfl (by kernel_rfl) (by kernel_rfl) (by kernel_rfl) rfl (Ca.conv Try.underlying3 Try.underlying5 rfl) (fun Q0 k0 => L.toB Try.underlying3 Try.underlying5 hF rfl rfl rfl (L.nil k0)) ?_
            exact A.on (hO _ _ _ n1231) (Le.mk [] hm rfl ⟨⟨_, rfl, rfl⟩, ⟨_, rfl, rfl⟩, ⟨_, rfl, rfl⟩, trivial⟩ trivial trivial)
          have n1219 : W 8 #[true, true, false, false, false, false, true, true, false, false, true, false, false] (mkSt [(42, one (cI v79)), (48, one (cI (v75.length : Int))), (51, one (cS v75))] [] [] 0) := by
            refine hI _ _ _ ?_
            refine A.take 2 rfl (by kernel_rfl) (by kernel_rfl) (by kernel_rfl) rfl (Ca.bin rfl rfl (calm_int _ _ _ _ _ _ _ _)) (fun Q0 k0 => L.bin hF rfl rfl rfl rfl rfl rfl (L.nil k0)) ?_
            exact A.on (hO _ _ _ n1223) (Le.mk [] hm rfl ⟨⟨_, rfl, rfl⟩, ⟨_, rfl, rfl⟩, ⟨_, rfl, rfl⟩, trivial⟩ trivial trivial)
          have n1473 : W 8 #[true, false, false, false, false, false, true, true, true, false, true, false, false] (mkSt [(41, one (Cell.ptr 0 0)), (49, one (cS r88)), (51, one (cS v75))] [] [(0, [cI v79, cL v80, cS v81, Cell.sl true (List.map eI v76)])] 1) := by
            refine hI _ _ _ ?_
            refine A.all [1] (by kernel_rfl) rfl ⟨⟨_, rfl, ?_⟩, trivial⟩
            · refine L.loadPtr shape3 hF rfl rfl rfl rfl rfl rfl ?_
              refine L.nil ?_
              exact A.on (hO _ _ _ n1475) (Le.mk [] hm rfl ⟨⟨_, rfl, rfl⟩, ⟨_, rfl, rfl⟩, ⟨_, rfl, rfl⟩, trivial⟩ trivial trivial)
          have n1217 : W 9 #[true, false, false, false, false, false, true, true, false, false, true, false, false] (mkSt [(41, one (Cell.ptr 0 0)), (48, one (cI (v75.length : Int))), (51, one (cS v75))] [] [(0, [cI v79, cL v80, cS v81, Cell.sl true (List.map eI v76)])] 1) := by
            refine hI _ _ _ ?_
            refine A.all [1, 8] (by kernel_rfl) rfl ⟨⟨_, rfl, ?_⟩, ⟨_, rfl, ?_⟩, trivial⟩
            · refine L.loadPtr shape3 hF rfl rfl rfl rfl rfl rfl ?_
              refine L.nil ?_
              exact A.on (hO _ _ _ n1219) (Le.mk [] hm rfl ⟨⟨_, rfl, rfl⟩, ⟨_, rfl, rfl⟩, ⟨_, rfl, rfl⟩, trivial⟩ trivial trivial)
            · refine L.call [false] [] [] 1 hF rfl rfl rfl ent124 rfl rfl rfl rfl rfl (Fimpl_Var_gives k2  (v75.length : Int) r88 hr88) rfl ?_
              refine L.nil ?_
              exact A.on (hO _ _ _ n1473) (Le.mk [(0, 0)] hm rfl ⟨⟨_, rfl, rfl⟩, ⟨_, rfl, rfl⟩, ⟨_, rfl, rfl⟩, trivial⟩ trivial ⟨⟨_, _, rfl, rfl, rfl⟩, trivial⟩)
          have n193 : W 10 #[true, false, false, false, false, false, true, true, false, false, false, false, false] (mkSt [(6, one (cS v75)), (41, one (Cell.ptr 0 0)), (48, one (cI (v75.length : Int)))] [] [(0, [cI v79, cL v80, cS v81, Cell.sl true (List.map eI v76)])] 1) := by
            refine hI _ _ _ ?_
            refine A.take 10 rfl (by kernel_rfl) (by kernel_rfl) (by kernel_rfl) rfl (Ca.move) (fun Q0 k0 => L.move hF rfl rfl rfl (L.nil k0)) ?_
            exact A.on (hO _ _ _ n1217) (Le.mk [(0, 0)] hm rfl ⟨⟨_, rfl, rfl⟩, ⟨_, rfl, rfl⟩, ⟨_, rfl, rfl⟩, trivial⟩ trivial ⟨⟨_, _, rfl, rfl, rfl⟩, trivial⟩)
          have n65 : W 11 #[true, false, false, false, false, false, true, false, false, false, false, false, false] (mkSt [(6, one (cS v75)), (41, one (Cell.ptr 0 0)), (47, one (cS v75))] [] [(0, [cI v79, cL v80, cS v81, Cell.sl true (List.map eI v76)])] 1) := by
            refine hI _ _ _ ?_
            refine A.take 7 rfl (by kernel_rfl) (by kernel_rfl) (by kernel_rfl) rfl (Ca.lenS Try.underlying9 rfl) (fun Q0 k0 => L.lenS Try.underlying9 hF rfl rfl rfl (L.nil k0)) ?_
            exact A.on (hO _ _ _ n193) (Le.mk [(0, 0)] hm rfl ⟨⟨_, rfl, rfl⟩, ⟨_, rfl, rfl⟩, ⟨_, rfl, rfl⟩, trivial⟩ trivial ⟨⟨_, _, rfl, rfl, rfl⟩, trivial⟩)
          have n1 : W 12 #[true, false, false, false, false, false, false, false, false, false, false, false, false] (mkSt [(6, one (cS v75)), (41, one (Cell.ptr 0 0))] [] [(0, [cI v79, cL v80, cS v81, Cell.sl true (List.map eI v76)])] 1) := by
            refine hI _ _ _ ?_
            refine A.take 6 rfl (by kernel_rfl) (by kernel_rfl) (by kernel_rfl) rfl (Ca.move) (fun Q0 k0 => L.move hF rfl rfl rfl (L.nil k0)) ?_
            exact A.on (hO _ _ _ n65) (Le.mk [(0, 0)] hm rfl ⟨⟨_, rfl, rfl⟩, ⟨_, rfl, rfl⟩, ⟨_, rfl, rfl⟩, trivial⟩ trivial ⟨⟨_, _, rfl, rfl, rfl⟩, trivial⟩)
          have n0 : W 13 #[false, false, false, false, false, false, false, false, false, false, false, false, false] (mkSt [(5, one (Cell.ptr 0 0)), (6, one (cS v75))] [] [(0, [cI v79, cL v80, cS v81, Cell.sl true (List.map eI v76)])] 1) := by
            refine hI _ _ _ ?_
            refine A.take 0 rfl (by kernel_rfl) (by kernel_rfl) (by kernel_rfl) rfl (Ca.fieldAddr Try.underlying63 rfl info3 rfl) (fun Q0 k0 => L.fieldAddr Try.underlying63 rfl info3 rfl hF rfl rfl rfl rfl rfl (L.nil k0)) ?_
            exact A.on (hO _ _ _ n1) (Le.mk [(0, 0)] hm rfl ⟨⟨_, rfl, rfl⟩, ⟨_, rfl, rfl⟩, trivial⟩ trivial ⟨⟨_, _, rfl, rfl, rfl⟩, trivial⟩)
          exact hI _ _ _ (A.on (hO _ _ _ n0) (Le.mk [(0, 0)] hm rfl ⟨⟨_, rfl, rfl⟩, ⟨_, rfl, rfl⟩, trivial⟩ trivial ⟨⟨_, _, rfl, rfl, rfl⟩, trivial⟩))
/-! ### Fimpl_TlvOk -/
def Fimpl_TlvOk.l4 : Nat → (List Timpl_Tlv) → Int → (List Int) → Int → Int → Option Bool
  | 0, _, _, _, _, _ => none
  | k4 + 1, v65, v66, v67, v68, v69 => cond (decide (v69 < v68)) ((at? v67 v69).bind fun b71 => cond (v69 != b71) (some false) ((Fimpl_TlvOk.l4 k4) v65 v66 v67 v68 (IntKind.i64.wrap (v69 + (1 : Int))))) ((Fimpl_tlvText k4 v65 (IntKind.i64.wrap (v66 - (1 : Int)))).bind fun r72 => some (decide ((r72.length : Int) ≤ (900 : Int))))
def Fimpl_TlvOk.l2 : Nat → (List Timpl_Tlv) → Int → Int → Option Bool
  | 0, _, _, _ => none
  | k2 + 1, v26, v27, v28 => cond (decide (v28 < v27)) ((Fimpl_nodeOk k2 v26 v28).bind fun r30 => cond (!r30) (some false) ((Fimpl_TlvOk.l2 k2) v26 v27 (IntKind.i64.wrap (v28 + (1 : Int))))) ((Fimpl_ended k2 v26 (IntKind.i64.wrap (v27 - (1 : Int))) (1 : Int) ([] : List Int)).bind fun r31 => cond (!r31.2) (some false) (cond ((r31.1.length : Int) != v27) (some false) (Fimpl_TlvOk.l4 k2 v26 v27 r31.1 (r31.1.length : Int) (0 : Int))))
def Fimpl_TlvOk (k : Nat) (a0 : List Timpl_Tlv) : Option Bool := (Fimpl_within k (a0.length : Int) (1 : Int) (60 : Int)).bind fun r2 => cond (!r2) (some false) (Fimpl_TlvOk.l2 k a0 (a0.length : Int) (0 : Int))
theorem ent39 : Enters Try.prog 39 := ⟨Try.f39, Try.func39, rfl, by decide⟩
set_option maxHeartbeats 8000000 in
set_option maxRecDepth 100000 in
theorem Fimpl_TlvOk_gives (k : Nat) (g0 : Bool) (a0 : List Timpl_Tlv) (r : Bool) (H : Fimpl_TlvOk k a0 = some r) : Gives Try.prog 39 [V.one (Cell.sl g0 (List.map eTimpl_Tlv a0))] [] [V.one (cL r)] [] := by
  refine Gives.intro Try.func39 rfl rfl rfl rfl ?_
  intro F hF hm
  unfold Fimpl_TlvOk at H
  obtain ⟨K, hK⟩ : ∃ K, k ≤ K := ⟨k, Nat.le_refl k⟩
  refine WpC.seq ?_
  refine WpC.regionL ?_
  refine L.assign hF rfl rfl rfl ?_
  refine L.nil ?_
  refine WpC.seq ?_
  refine WpC.regionL ?_
  refine L.move hF rfl rfl rfl ?_
  refine L.lenR (xs := a0) (e := eTimpl_Tlv) Try.underlying33 hF rfl rfl rfl rfl ?_
  refine L.assign hF rfl rfl rfl ?_
  refine L.nil ?_
  refine WpC.seq ?_
  refine WpC.seq ?_
  refine WpC.regionL ?_
  refine L.move hF rfl rfl rfl ?_
  obtain ⟨r2, hr2, H⟩ := bindS H
  refine L.call [false, false, false] [] [] 1 hF rfl rfl rfl ent113 rfl rfl rfl rfl rfl (Fimpl_within_gives k  (a0.length : Int) (1 : Int) (60 : Int) r2 hr2) rfl ?_
  refine L.not hF rfl rfl rfl ?_
  refine L.nil ?_
  refine WpC.cond rfl (fun hc => ?_) (fun hc => ?_)
  · replace H := condT hc H
    refine WpC.seq ?_
    refine WpC.regionL ?_
    refine L.assign hF rfl rfl rfl ?_
    refine L.nil ?_
    refine WpC.ret ?_
    cases H
    exact Leaves.ret rfl rfl rfl ⟨rfl, rfl⟩
  · replace H := condF hc H
    refine WpC.skip ?_
    refine WpC.seq ?_
    refine WpC.seq ?_
    refine WpC.regionL ?_
    refine L.move hF rfl rfl rfl ?_
    refine L.lenR (xs := a0) (e := eTimpl_Tlv) Try.underlying33 hF rfl rfl rfl rfl ?_
    refine L.move hF rfl rfl rfl ?_
    refine L.nil ?_
    refine WpC.block ?_
    refine WpC.loopL (P := Try.prog) (fun n σ => ∃ v26 : List Timpl_Tlv, ∃ v27 : Int, ∃ v28 : Int, n ≤ K ∧ Fimpl_TlvOk.l2 n v26 v27 v28 = some r ∧ σ = mkSt [(0, one (Cell.sl g0 (List.map eTimpl_Tlv v26))), (3, one (cI v27)), (15, one (cI v27)), (16, one (cI v28))] [] [] 0) k ⟨_, ⟨a0, (a0.length : Int), (0 : Int), by omega, H, rfl⟩, Le.mk [] hm rfl ⟨⟨_, rfl, rfl⟩, ⟨_, rfl, rfl⟩, ⟨_, rfl, rfl⟩, ⟨_, rfl, rfl⟩, trivial⟩ trivial trivial⟩ ?_
    clear H
    rintro k2 _ ⟨v26, v27, v28, hk2, H, rfl⟩
    cases k2 with
    | zero => cases H
    | succ k2 =>
      rw [Fimpl_TlvOk.l2] at H
      refine WpC.seq ?_
      refine WpC.regionL ?_
      refine L.bin hF rfl rfl rfl rfl rfl rfl ?_
      refine L.nil ?_
      refine WpC.seq ?_
      refine WpC.cond rfl (fun hc => ?_) (fun hc => ?_)
      · replace H := condT hc H
        refine WpC.skip ?_
        refine WpC.seq ?_
        refine WpC.block ?_
        refine WpC.seq ?_
        refine WpC.regionL ?_
        refine L.move hF rfl rfl rfl ?_
        refine L.assign hF rfl rfl rfl ?_
        refine L.nil ?_
        refine WpC.seq ?_
        refine WpC.regionL ?_
        refine L.move hF rfl rfl rfl ?_
        refine L.move hF rfl rfl rfl ?_
        obtain ⟨r30, hr30, H⟩ := bindS H
        refine L.call [false, false] [] [] 0 hF rfl rfl rfl ent114 rfl rfl rfl rfl rfl (Fimpl_nodeOk_gives k2 g0 v26 v28 r30 hr30) rfl ?_
        refine L.not hF rfl rfl rfl ?_
        refine L.nil ?_
        refine WpC.cond rfl (fun hc => ?_) (fun hc => ?_)
        · replace H := condT hc H
          refine WpC.seq ?_
          refine WpC.regionL ?_
          refine L.assign hF rfl rfl rfl ?_
          refine L.nil ?_
          refine WpC.ret ?_
          cases H
          exact Leaves.ret rfl rfl rfl ⟨rfl, rfl⟩
        · replace H := condF hc H
          refine WpC.skip ?_
          refine WpC.regionL ?_
          refine L.bin hF rfl rfl rfl rfl rfl rfl ?_
          refine L.move hF rfl rfl rfl ?_
          refine L.nil ?_
          exact ⟨k2, _, by omega, ⟨v26, v27, (IntKind.i64.wrap (v28 + (1 : Int))), by omega, H, rfl⟩, Le.mk [] hm rfl ⟨⟨_, rfl, rfl⟩, ⟨_, rfl, rfl⟩, ⟨_, rfl, rfl⟩, ⟨_, rfl, rfl⟩, trivial⟩ trivial trivial⟩
      · replace H := condF hc H
        refine WpC.exit ?_
        refine WpC.seq ?_
        refine WpC.regionL ?_
        refine L.move hF rfl rfl rfl ?_
        refine L.move hF rfl rfl rfl ?_
        refine L.bin hF rfl rfl rfl rfl rfl rfl ?_
        refine L.buildSlice (e := eI) 0 ([] : List Int) Try.underlying24 info3 rfl rfl rfl hF rfl rfl rfl rfl rfl rfl rfl rfl ?_
        obtain ⟨r31, hr31, H⟩ := bindS H
        refine L.call [false, false, false, true] [] [] 1 hF rfl rfl rfl ent115 rfl rfl rfl rfl rfl (Fimpl_ended_gives k2 g0 v26 (IntKind.i64.wrap (v27 - (1 : Int))) (1 : Int) ([] : List Int) r31 hr31) rfl ?_
        refine L.move hF rfl rfl rfl ?_
        refine L.extract hF rfl rfl rfl rfl ?_
        refine L.extract hF rfl rfl rfl rfl ?_
        refine L.assign hF rfl rfl rfl ?_
        refine L.assign hF rfl rfl rfl ?_
        refine L.nil ?_
        refine WpC.seq ?_
        refine WpC.seq ?_
        refine WpC.regionL ?_
        refine L.move hF rfl rfl rfl ?_
        refine L.not hF rfl rfl rfl ?_
        refine L.move hF rfl rfl rfl ?_
        refine L.split (fun hc => ?_) (fun hc => ?_)
        · replace H := condT hc H
          refine L.off hF rfl rfl ?_
          refine L.off hF rfl rfl ?_
          refine L.off hF rfl rfl ?_
          refine L.off hF rfl rfl ?_
          refine L.pick hF rfl rfl rfl rfl ?_
          refine L.nil ?_
          refine WpC.cond rfl (fun _ => ?_) (fun hc => by cases hc)
          refine WpC.seq ?_
          refine WpC.regionL ?_
          refine L.assign hF rfl rfl rfl ?_
          refine L.nil ?_
          refine WpC.ret ?_
          cases H
          exact Leaves.ret rfl rfl rfl ⟨rfl, rfl⟩
        · replace H := condF hc H
          refine L.move hF rfl rfl rfl ?_
          refine L.lenR (xs := r31.1) (e := eI) Try.underlying24 hF rfl rfl rfl rfl ?_
          refine L.move hF rfl rfl rfl ?_
          refine L.bin hF rfl rfl rfl rfl rfl rfl ?_
          refine L.pick hF rfl rfl rfl rfl ?_
          refine L.nil ?_
          refine WpC.cond rfl (fun hc => ?_) (fun hc => ?_)
          · replace H := condT hc H
            refine WpC.seq ?_
            refine WpC.regionL ?_
            refine L.assign hF rfl rfl rfl ?_
            refine L.nil ?_
            refine WpC.ret ?_
            cases H
            exact Leaves.ret rfl rfl rfl ⟨rfl, rfl⟩
          · replace H := condF hc H
            refine WpC.skip ?_
            refine WpC.seq ?_
            refine WpC.seq ?_
            refine WpC.regionL ?_
            refine L.move hF rfl rfl rfl ?_
            refine L.lenR (xs := r31.1) (e := eI) Try.underlying24 hF rfl rfl rfl rfl ?_
            refine L.move hF rfl rfl rfl ?_
            refine L.nil ?_
            refine WpC.block ?_
            refine WpC.loopL (P := Try.prog) (fun n σ => ∃ v65 : List Timpl_Tlv, ∃ v66 : Int, ∃ v67 : List Int, ∃ v68 : Int, ∃ v69 : Int, n ≤ K ∧ Fimpl_TlvOk.l4 n v65 v66 v67 v68 v69 = some r ∧ σ = mkSt [(0, one (Cell.sl g0 (List.map eTimpl_Tlv v65))), (3, one (cI v66)), (40, one (Cell.own 0)), (41, one (cI v68)), (42, one (cI v69))] [(0, ⟨1, List.map eI v67⟩)] [] 1) k2 ⟨_, ⟨v26, v27, r31.1, (r31.1.length : Int), (0 : Int), by omega, H, rfl⟩, Le.mk [(0, 1)] hm rfl ⟨⟨_, rfl, rfl⟩, ⟨_, rfl, rfl⟩, ⟨_, rfl, rfl⟩, ⟨_, rfl, rfl⟩, ⟨_, rfl, rfl⟩, trivial⟩ ⟨⟨_, rfl, rfl⟩, trivial⟩ trivial⟩ ?_
            clear H
            rintro k4 _ ⟨v65, v66, v67, v68, v69, hk4, H, rfl⟩
            cases k4 with
            | zero => cases H
            | succ k4 =>
              rw [Fimpl_TlvOk.l4] at H
              refine WpC.seq ?_
              refine WpC.regionL ?_
              refine L.bin hF rfl rfl rfl rfl rfl rfl ?_
              refine L.nil ?_
              refine WpC.seq ?_
              refine WpC.cond rfl (fun hc => ?_) (fun hc => ?_)
              · replace H := condT hc H
                refine WpC.skip ?_
                refine WpC.seq ?_
                refine WpC.block ?_
                refine WpC.seq ?_
                refine WpC.regionL ?_
                refine L.move hF rfl rfl rfl ?_
                obtain ⟨b71, hb71, H⟩ := bindS H
                refine L.idxR (xs := v67) (e := eI) Try.underlying24 info3 hF rfl rfl rfl rfl rfl hb71 rfl rfl ?_
                refine L.loadEp (xs := v67) (e := eI) shape3 hF rfl rfl rfl rfl (at?_get hb71).2 rfl rfl ?_
                refine L.assign hF rfl rfl rfl ?_
                refine L.assign hF rfl rfl rfl ?_
                refine L.nil ?_
                refine WpC.seq ?_
                refine WpC.regionL ?_
                refine L.move hF rfl rfl rfl ?_
                refine L.move hF rfl rfl rfl ?_
                refine L.bin hF rfl rfl rfl rfl rfl rfl ?_
                refine L.nil ?_
                refine WpC.cond rfl (fun hc => ?_) (fun hc => ?_)
                · replace H := condT hc H
                  refine WpC.seq ?_
                  refine WpC.regionL ?_
                  refine L.assign hF rfl rfl rfl ?_
                  refine L.nil ?_
                  refine WpC.ret ?_
                  cases H
                  exact Leaves.ret rfl rfl rfl ⟨rfl, rfl⟩
                · replace H := condF hc H
                  refine WpC.skip ?_
                  refine WpC.regionL ?_
                  refine L.bin hF rfl rfl rfl rfl rfl rfl ?_
                  refine L.move hF rfl rfl rfl ?_
                  refine L.nil ?_
                  exact ⟨k4, _, by omega, ⟨v65, v66, v67, v68, (IntKind.i64.wrap (v69 + (1 : Int))), by omega, H, rfl⟩, Le.mk [(0, 0)] hm rfl ⟨⟨_, rfl, rfl⟩, ⟨_, rfl, rfl⟩, ⟨_, rfl, rfl⟩, ⟨_, rfl, rfl⟩, ⟨_, rfl, rfl⟩, trivial⟩ ⟨⟨_, rfl, rfl⟩, trivial⟩ trivial⟩
              · replace H := condF hc H
                refine WpC.exit ?_
                refine WpC.seq ?_
                refine WpC.regionL ?_
                refine L.move hF rfl rfl rfl ?_
                refine L.move hF rfl rfl rfl ?_
                refine L.bin hF rfl rfl rfl rfl rfl rfl ?_
                obtain ⟨r72, hr72, H⟩ := bindS H
                refine L.call [false, false] [] [] 1 hF rfl rfl rfl ent116 rfl rfl rfl rfl rfl (Fimpl_tlvText_gives k4 g0 v65 (IntKind.i64.wrap (v66 - (1 : Int))) r72 hr72) rfl ?_
                refine L.lenS Try.underlying9 hF rfl rfl rfl ?_
                refine L.bin hF rfl rfl rfl rfl rfl rfl ?_
                refine L.assign hF rfl rfl rfl ?_
                refine L.nil ?_
                refine WpC.ret ?_
                cases H
                exact Leaves.ret rfl rfl rfl ⟨rfl, rfl⟩
/-! ### Fimpl_TlvFind_1 -/
def Fimpl_TlvFind_1 (k : Nat) (a0 : Int) (o0 : List Timpl_Tlv) (o1 : Int) : Option Bool := (at? o0 a0).bind fun b1 => some (b1.Tag == o1)
theorem ent130 : Enters Try.prog 130 := ⟨Try.f130, Try.func130, rfl, by decide⟩
set_option maxHeartbeats 8000000 in
set_option maxRecDepth 100000 in
theorem Fimpl_TlvFind_1_gives (k : Nat) (a0 : Int) (o0 : List Timpl_Tlv) (o1 : Int) (r : Bool) (H : Fimpl_TlvFind_1 k a0 o0 o1 = some r) : Gives Try.prog 130 [V.one (cI a0), V.one (Cell.ptr 0 0), V.one (Cell.ptr 1 0)] [[Cell.sl true (List.map eTimpl_Tlv o0)], [cI o1]] [V.one (cL r)] [[Cell.sl true (List.map eTimpl_Tlv o0)], [cI o1]] := by
  refine Gives.intro Try.func130 rfl rfl rfl rfl ?_
  intro F hF hm
  unfold Fimpl_TlvFind_1 at H
  obtain ⟨K, hK⟩ : ∃ K, k ≤ K := ⟨k, Nat.le_refl k⟩
  refine WpC.seq ?_
  refine WpC.regionL ?_
  refine L.assign hF rfl rfl rfl ?_
  refine L.nil ?_
  refine WpC.seq ?_
  refine S.begin mixed (by kernel_rfl) ?_
  refine S.st 0 rfl rfl (Qu.load) (fun Q0 k0 => L.loadPtr shape33 hF rfl rfl rfl rfl rfl rfl (L.nil k0)) ?_
  refine S.st 1 rfl rfl ((Ca.move).quiet) (fun Q0 k0 => L.move hF rfl rfl rfl (L.nil k0)) ?_
  obtain ⟨b1, hb1, H⟩ := bindS H
  refine S.st 2 rfl rfl ((Ca.indexAddr).quiet) (fun Q0 k0 => L.idxR (xs := o0) (e := eTimpl_Tlv) Try.underlying33 info63 hF rfl rfl rfl rfl rfl hb1 rfl rfl (L.nil k0)) ?_
  refine S.st 3 rfl rfl ((Ca.fieldAddr Try.underlying63 rfl info3 rfl).quiet) (fun Q0 k0 => L.fieldAddr Try.underlying63 rfl info3 rfl hF rfl rfl rfl rfl rfl (L.nil k0)) ?_
  refine S.st 4 rfl rfl (Qu.load) (fun Q0 k0 => L.loadPe shape3 hF rfl rfl rfl rfl rfl (L.nil k0)) ?_
  refine S.st 5 rfl rfl (Qu.load) (fun Q0 k0 => L.loadPtr shape3 hF rfl rfl rfl rfl rfl rfl (L.nil k0)) ?_
  refine S.st 6 rfl rfl ((Ca.bin rfl rfl (calm_int _ _ _ _ _ _ _ _)).quiet) (fun Q0 k0 => L.bin hF rfl rfl rfl rfl rfl rfl (L.nil k0)) ?_
  refine S.st 7 rfl rfl ((Ca.assign).quiet) (fun Q0 k0 => L.assign hF rfl rfl rfl (L.nil k0)) ?_
  refine S.nil ?_
  refine WpC.ret ?_
  cases H
  exact Leaves.ret rfl rfl rfl ⟨rfl, rfl⟩
/-! ### Fslices_IndexFunc_int__impl_TlvFind_1 -/
def Fslices_IndexFunc_int__impl_TlvFind_1.l2 : Nat → (List Int) → Int → Int → (List Timpl_Tlv) → Int → Option (Int × List Timpl_Tlv × Int)
  | 0, _, _, _, _, _ => none
  | k2 + 1, v44, v45, v46, v47, v48 => cond (decide (v46 < v45)) ((at? v44 v46).bind fun b51 => (Fimpl_TlvFind_1 k2 b51 v47 v48).bind fun r52 => cond r52 (some (v46, v47, v48)) ((Fslices_IndexFunc_int__impl_TlvFind_1.l2 k2) v44 v45 (IntKind.i64.wrap (v46 + (1 : Int))) v47 v48)) (some ((-1 : Int), v47, v48))
def Fslices_IndexFunc_int__impl_TlvFind_1 (k : Nat) (a0 : List Int) (o0 : List Timpl_Tlv) (o1 : Int) : Option (Int × List Timpl_Tlv × Int) := Fslices_IndexFunc_int__impl_TlvFind_1.l2 k a0 (a0.length : Int) (0 : Int) o0 o1
theorem ent129 : Enters Try.prog 129 := ⟨Try.f129, Try.func129, rfl, by decide⟩
set_option maxHeartbeats 8000000 in
set_option maxRecDepth 100000 in
theorem Fslices_IndexFunc_int__impl_TlvFind_1_gives (k : Nat) (g0 : Bool) (a0 : List Int) (o0 : List Timpl_Tlv) (o1 : Int) (r : Int × List Timpl_Tlv × Int) (H : Fslices_IndexFunc_int__impl_TlvFind_1 k a0 o0 o1 = some r) : Gives Try.prog 129 [V.one (Cell.sl g0 (List.map eI a0)), V.one (Cell.clo 130 [Cell.ptr 0 0, Cell.ptr 1 0])] [[Cell.sl true (List.map eTimpl_Tlv o0)], [cI o1]] [V.one (cI r.1)] [[Cell.sl true (List.map eTimpl_Tlv r.2.1)], [cI r.2.2]] := by
  refine Gives.intro Try.func129 rfl rfl rfl rfl ?_
  intro F hF hm
  unfold Fslices_IndexFunc_int__impl_TlvFind_1 at H
  obtain ⟨K, hK⟩ : ∃ K, k ≤ K := ⟨k, Nat.le_refl k⟩
  refine WpC.seq ?_
  refine WpC.regionL ?_
  refine L.assign hF rfl rfl rfl ?_
  refine L.nil ?_
  refine WpC.seq ?_
  refine WpC.seq ?_
  refine WpC.regionL ?_
  refine L.move hF rfl rfl rfl ?_
  refine L.lenR (xs := a0) (e := eI) Try.underlying24 hF rfl rfl rfl rfl ?_
  refine L.move hF rfl rfl rfl ?_
  refine L.nil ?_
  refine WpC.block ?_
  refine WpC.loopL (P := Try.prog) (fun n σ => ∃ v44 : List Int, ∃ v45 : Int, ∃ v46 : Int, ∃ v47 : List Timpl_Tlv, ∃ v48 : Int, n ≤ K ∧ Fslices_IndexFunc_int__impl_TlvFind_1.l2 n v44 v45 v46 v47 v48 = some r ∧ σ = mkSt [(0, one (Cell.sl g0 (List.map eI v44))), (1, one (Cell.clo 130 [Cell.ptr 0 0, Cell.ptr 1 0])), (7, one (cI v45)), (8, one (cI v46))] [] [(0, [Cell.sl true (List.map eTimpl_Tlv v47)]), (1, [cI v48])] 2) k ⟨_, ⟨a0, (a0.length : Int), (0 : Int), o0, o1, by omega, H, rfl⟩, Le.mk [(0, 0), (1, 1)] hm rfl ⟨⟨_, rfl, rfl⟩, ⟨_, rfl, rfl⟩, ⟨_, rfl, rfl⟩, ⟨_, rfl, rfl⟩, trivial⟩ trivial ⟨⟨_, _, rfl, rfl, rfl⟩, ⟨_, _, rfl, rfl, rfl⟩, trivial⟩⟩ ?_
  clear H
  rintro k2 _ ⟨v44, v45, v46, v47, v48, hk2, H, rfl⟩
  cases k2 with
  | zero => cases H
  | succ k2 =>
    rw [Fslices_IndexFunc_int__impl_TlvFind_1.l2] at H
    refine WpC.seq ?_
    refine WpC.regionL ?_
    refine L.bin hF rfl rfl rfl rfl rfl rfl ?_
    refine L.nil ?_
    refine WpC.seq ?_
    refine WpC.cond rfl (fun hc => ?_) (fun hc => ?_)
    · replace H := condT hc H
      refine WpC.skip ?_
      refine WpC.seq ?_
      refine WpC.block ?_
      refine WpC.seq ?_
      refine WpC.regionL ?_
      refine L.move hF rfl rfl rfl ?_
      refine L.assign hF rfl rfl rfl ?_
      refine L.nil ?_
      refine WpC.seq ?_
      refine WpC.regionL ?_
      refine L.move hF rfl rfl rfl ?_
      refine L.move hF rfl rfl rfl ?_
      refine L.move hF rfl rfl rfl ?_
      obtain ⟨b51, hb51, H⟩ := bindS H
      refine L.idxR (xs := v44) (e := eI) Try.underlying24 info3 hF rfl rfl rfl rfl rfl hb51 rfl rfl ?_
      refine L.loadPe shape3 hF rfl rfl rfl rfl rfl ?_
      obtain ⟨r52, hr52, H⟩ := bindS H
      refine L.call [false] [] [0, 1] 2 hF rfl rfl rfl ent130 rfl rfl rfl rfl rfl (Fimpl_TlvFind_1_gives k2  b51 v47 v48 r52 hr52) rfl ?_
      refine L.nil ?_
      refine WpC.cond rfl (fun hc => ?_) (fun hc => ?_)
      · replace H := condT hc H
        refine WpC.seq ?_
        refine WpC.regionL ?_
        refine L.move hF rfl rfl rfl ?_
        refine L.assign hF rfl rfl rfl ?_
        refine L.nil ?_
        refine WpC.ret ?_
        cases H
        exact Leaves.ret rfl rfl rfl ⟨rfl, rfl⟩
      · replace H := condF hc H
        refine WpC.skip ?_
        refine WpC.regionL ?_
        refine L.bin hF rfl rfl rfl rfl rfl rfl ?_
        refine L.move hF rfl rfl rfl ?_
        refine L.nil ?_
        exact ⟨k2, _, by omega, ⟨v44, v45, (IntKind.i64.wrap (v46 + (1 : Int))), v47, v48, by omega, H, rfl⟩, Le.mk [(0, 0), (1, 1)] hm rfl ⟨⟨_, rfl, rfl⟩, ⟨_, rfl, rfl⟩, ⟨_, rfl, rfl⟩, ⟨_, rfl, rfl⟩, trivial⟩ trivial ⟨⟨_, _, rfl, rfl, rfl⟩, ⟨_, _, rfl, rfl, rfl⟩, trivial⟩⟩
    · replace H := condF hc H
      refine WpC.exit ?_
      refine WpC.seq ?_
      refine WpC.regionL ?_
      refine L.assign hF rfl rfl rfl ?_
      refine L.nil ?_
      refine WpC.ret ?_
      cases H
      exact Leaves.ret rfl rfl rfl ⟨rfl, rfl⟩
/-! ### Fimpl_TlvFind -/
def Fimpl_TlvFind.l2 : Nat → Int → (List Int) → Int → Int → (List Timpl_Tlv) → Option (List UInt8 × Bool)
  | 0, _, _, _, _, _ => none
  | k2 + 1, v76, v77, v78, v79, v80 => cond (decide (v79 < v78)) ((at? v77 v79).bind fun b86 => (at? v80 v76).bind fun b87 => (Fslices_IndexFunc_int__impl_TlvFind_1 k2 b87.Kids v80 b86).bind fun r88 => cond (decide (r88.1 < (0 : Int))) (some (([] : List UInt8), false)) ((at? r88.2.1 v76).bind fun b89 => (at? b89.Kids r88.1).bind fun b90 => (Fimpl_TlvFind.l2 k2) b90 v77 v78 (IntKind.i64.wrap (v79 + (1 : Int))) r88.2.1)) ((at? v80 v76).bind fun b91 => (at? v80 v76).bind fun b92 => some (b91.Data, b92.Leaf))
def Fimpl_TlvFind (k : Nat) (a0 : List Timpl_Tlv) (a1 : List Int) : Option (List UInt8 × Bool) := (Fimpl_TlvOk k a0).bind fun r2 => cond (!r2) (some (([] : List UInt8), false)) (Fimpl_TlvFind.l2 k (IntKind.i64.wrap ((a0.length : Int) - (1 : Int))) a1 (a1.length : Int) (0 : Int) a0)
theorem ent55 : Enters Try.prog 55 := ⟨Try.f55, Try.func55, rfl, by decide⟩
set_option maxHeartbeats 8000000 in
set_option maxRecDepth 100000 in
theorem Fimpl_TlvFind_gives (k : Nat) (g0 : Bool) (a0 : List Timpl_Tlv) (a1 : List Int) (r : List UInt8 × Bool) (H : Fimpl_TlvFind k a0 a1 = some r) : Gives Try.prog 55 [V.one (Cell.sl true (List.map eTimpl_Tlv a0)), V.one (Cell.sl g0 (List.map eI a1))] [] [V.one (cS r.1), V.one (cL r.2)] [] := by
  refine Gives.intro Try.func55 rfl rfl rfl rfl ?_
  intro F hF hm
  unfold Fimpl_TlvFind at H
  obtain ⟨K, hK⟩ : ∃ K, k ≤ K := ⟨k, Nat.le_refl k⟩
  refine WpC.seq ?_
  refine WpC.regionL ?_
  refine L.box 2 hF rfl rfl rfl rfl ?_
  refine L.assign hF rfl rfl rfl ?_
  refine L.assign hF rfl rfl rfl ?_
  refine L.nil ?_
  refine WpC.seq ?_
  refine WpC.seq ?_
  refine WpC.regionL ?_
  refine L.loadPtr shape33 hF rfl rfl rfl rfl rfl rfl ?_
  obtain ⟨r2, hr2, H⟩ := bindS H
  refine L.call [false] [] [] 3 hF rfl rfl rfl ent39 rfl rfl rfl rfl rfl (Fimpl_TlvOk_gives k true a0 r2 hr2) rfl ?_
  refine L.not hF rfl rfl rfl ?_
  refine L.nil ?_
  refine WpC.cond rfl (fun hc => ?_) (fun hc => ?_)
  · replace H := condT hc H
    refine WpC.seq ?_
    refine WpC.regionL ?_
    refine L.assign hF rfl rfl rfl ?_
    refine L.assign hF rfl rfl rfl ?_
    refine L.nil ?_
    refine WpC.ret ?_
    cases H
    exact Leaves.ret rfl rfl rfl ⟨rfl, rfl⟩
  · replace H := condF hc H
    refine WpC.skip ?_
    refine WpC.seq ?_
    refine WpC.regionL ?_
    refine L.loadPtr shape33 hF rfl rfl rfl rfl rfl rfl ?_
    refine L.lenR (xs := a0) (e := eTimpl_Tlv) Try.underlying33 hF rfl rfl rfl rfl ?_
    refine L.bin hF rfl rfl rfl rfl rfl rfl ?_
    refine L.assign hF rfl rfl rfl ?_
    refine L.nil ?_
    refine WpC.seq ?_
    refine WpC.seq ?_
    refine WpC.regionL ?_
    refine L.move hF rfl rfl rfl ?_
    refine L.lenR (xs := a1) (e := eI) Try.underlying24 hF rfl rfl rfl rfl ?_
    refine L.move hF rfl rfl rfl ?_
    refine L.nil ?_
    refine WpC.block ?_
    refine WpC.loopL (P := Try.prog) (fun n σ => ∃ v76 : Int, ∃ v77 : List Int, ∃ v78 : Int, ∃ v79 : Int, ∃ v80 : List Timpl_Tlv, n ≤ K ∧ Fimpl_TlvFind.l2 n v76 v77 v78 v79 v80 = some r ∧ σ = mkSt [(2, one (Cell.ptr 0 0)), (6, one (cI v76)), (16, one (Cell.sl g0 (List.map eI v77))), (17, one (cI v78)), (18, one (cI v79))] [] [(0, [Cell.sl true (List.map eTimpl_Tlv v80)])] 1) k ⟨_, ⟨(IntKind.i64.wrap ((a0.length : Int) - (1 : Int))), a1, (a1.length : Int), (0 : Int), a0, by omega, H, rfl⟩, Le.mk [(0, 2)] hm rfl ⟨⟨_, rfl, rfl⟩, ⟨_, rfl, rfl⟩, ⟨_, rfl, rfl⟩, ⟨_, rfl, rfl⟩, ⟨_, rfl, rfl⟩, trivial⟩ trivial ⟨⟨_, _, rfl, rfl, rfl⟩, trivial⟩⟩ ?_
    clear H
    rintro k2 _ ⟨v76, v77, v78, v79, v80, hk2, H, rfl⟩
    cases k2 with
    | zero => cases H
    | succ k2 =>
      rw [Fimpl_TlvFind.l2] at H
      refine WpC.seq ?_
      refine WpC.regionL ?_
      refine L.bin hF rfl rfl rfl rfl rfl rfl ?_
      refine L.nil ?_
      refine WpC.seq ?_
      refine WpC.cond rfl (fun hc => ?_) (fun hc => ?_)
      · replace H := condT hc H
        refine WpC.skip ?_
        refine WpC.seq ?_
        refine WpC.block ?_
        refine WpC.seq ?_
        refine WpC.regionL ?_
        obtain ⟨b86, hb86, H⟩ := bindS H
        refine L.idxR (xs := v77) (e := eI) Try.underlying24 info3 hF rfl rfl rfl rfl rfl hb86 rfl rfl ?_
        refine L.loadPe shape3 hF rfl rfl rfl rfl rfl ?_
        refine L.alloc 1 info3 rfl hF rfl rfl rfl rfl ?_
        refine L.storePtr shape3 hF rfl rfl rfl rfl rfl rfl rfl ?_
        refine L.nil ?_
        refine WpC.seq ?_
        refine WpC.regionL ?_
        refine L.loadPtr shape33 hF rfl rfl rfl rfl rfl rfl ?_
        refine L.move hF rfl rfl rfl ?_
        obtain ⟨b87, hb87, H⟩ := bindS H
        refine L.idxR (xs := v80) (e := eTimpl_Tlv) Try.underlying33 info63 hF rfl rfl rfl rfl rfl hb87 rfl rfl ?_
        refine L.fieldAddr Try.underlying63 rfl info24 rfl hF rfl rfl rfl rfl rfl ?_
        refine L.loadPe shape24 hF rfl rfl rfl rfl rfl ?_
        refine L.makeFunc hF rfl rfl rfl ?_
        obtain ⟨r88, hr88, H⟩ := bindS H
        refine L.call [false, false] [] [0, 1] 2 hF rfl rfl rfl ent129 rfl rfl rfl rfl rfl (Fslices_IndexFunc_int__impl_TlvFind_1_gives k2 true b87.Kids v80 b86 r88 hr88) rfl ?_
        refine L.assign hF rfl rfl rfl ?_
        refine L.nil ?_
        refine WpC.seq ?_
        refine WpC.seq ?_
        refine WpC.regionL ?_
        refine L.move hF rfl rfl rfl ?_
        refine L.bin hF rfl rfl rfl rfl rfl rfl ?_
        refine L.nil ?_
        refine WpC.cond rfl (fun hc => ?_) (fun hc => ?_)
        · replace H := condT hc H
          refine WpC.seq ?_
          refine WpC.regionL ?_
          refine L.assign hF rfl rfl rfl ?_
          refine L.assign hF rfl rfl rfl ?_
          refine L.nil ?_
          refine WpC.ret ?_
          cases H
          exact Leaves.ret rfl rfl rfl ⟨rfl, rfl⟩
        · replace H := condF hc H
          refine WpC.skip ?_
          refine WpC.regionL ?_
          refine L.loadPtr shape33 hF rfl rfl rfl rfl rfl rfl ?_
          refine L.move hF rfl rfl rfl ?_
          obtain ⟨b89, hb89, H⟩ := bindS H
          refine L.idxR (xs := r88.2.1) (e := eTimpl_Tlv) Try.underlying33 info63 hF rfl rfl rfl rfl rfl hb89 rfl rfl ?_
          refine L.fieldAddr Try.underlying63 rfl info24 rfl hF rfl rfl rfl rfl rfl ?_
          refine L.loadPe shape24 hF rfl rfl rfl rfl rfl ?_
          refine L.move hF rfl rfl rfl ?_
          obtain ⟨b90, hb90, H⟩ := bindS H
          refine L.idxR (xs := b89.Kids) (e := eI) Try.underlying24 info3 hF rfl rfl rfl rfl rfl hb90 rfl rfl ?_
          refine L.loadPe shape3 hF rfl rfl rfl rfl rfl ?_
          refine L.assign hF rfl rfl rfl ?_
          refine L.nil ?_
          refine WpC.regionL ?_
          refine L.bin hF rfl rfl rfl rfl rfl rfl ?_
          refine L.move hF rfl rfl rfl ?_
          refine L.nil ?_
          exact ⟨k2, _, by omega, ⟨b90, v77, v78, (IntKind.i64.wrap (v79 + (1 : Int))), r88.2.1, by omega, H, rfl⟩, Le.mk [(0, 0)] hm rfl ⟨⟨_, rfl, rfl⟩, ⟨_, rfl, rfl⟩, ⟨_, rfl, rfl⟩, ⟨_, rfl, rfl⟩, ⟨_, rfl, rfl⟩, trivial⟩ trivial ⟨⟨_, _, rfl, rfl, rfl⟩, trivial⟩⟩
      · replace H := condF hc H
        refine WpC.exit ?_
        refine WpC.seq ?_
        refine S.begin mixed (by kernel_rfl) ?_
        refine S.st 0 rfl rfl (Qu.load) (fun Q0 k0 => L.loadPtr shape33 hF rfl rfl rfl rfl rfl rfl (L.nil k0)) ?_
        refine S.st 1 rfl rfl ((Ca.move).quiet) (fun Q0 k0 => L.move hF rfl rfl rfl (L.nil k0)) ?_
        obtain ⟨b91, hb91, H⟩ := bindS H
        refine S.st 2 rfl rfl ((Ca.indexAddr).quiet) (fun Q0 k0 => L.idxR (xs := v80) (e := eTimpl_Tlv) Try.underlying33 info63 hF rfl rfl rfl rfl rfl hb91 rfl rfl (L.nil k0)) ?_
        refine S.st 3 rfl rfl ((Ca.fieldAddr Try.underlying63 rfl info9 rfl).quiet) (fun Q0 k0 => L.fieldAddr Try.underlying63 rfl info9 rfl hF rfl rfl rfl rfl rfl (L.nil k0)) ?_
        refine S.st 4 rfl rfl (Qu.load) (fun Q0 k0 => L.loadPe shape9 hF rfl rfl rfl rfl rfl (L.nil k0)) ?_
        refine S.st 5 rfl rfl (Qu.load) (fun Q0 k0 => L.loadPtr shape33 hF rfl rfl rfl rfl rfl rfl (L.nil k0)) ?_
        refine S.st 6 rfl rfl ((Ca.move).quiet) (fun Q0 k0 => L.move hF rfl rfl rfl (L.nil k0)) ?_
        obtain ⟨b92, hb92, H⟩ := bindS H
        refine S.st 7 rfl rfl ((Ca.indexAddr).quiet) (fun Q0 k0 => L.idxR (xs := v80) (e := eTimpl_Tlv) Try.underlying33 info63 hF rfl rfl rfl rfl rfl hb92 rfl rfl (L.nil k0)) ?_
        refine S.st 8 rfl rfl ((Ca.fieldAddr Try.underlying63 rfl info4 rfl).quiet) (fun Q0 k0 => L.fieldAddr Try.underlying63 rfl info4 rfl hF rfl rfl rfl rfl rfl (L.nil k0)) ?_
        refine S.st 9 rfl rfl (Qu.load) (fun Q0 k0 => L.loadPe shape4 hF rfl rfl rfl rfl rfl (L.nil k0)) ?_
        refine S.st 10 rfl rfl ((Ca.assign).quiet) (fun Q0 k0 => L.assign hF rfl rfl rfl (L.nil k0)) ?_
        refine S.st 11 rfl rfl ((Ca.assign).quiet) (fun Q0 k0 => L.assign hF rfl rfl rfl (L.nil k0)) ?_
        refine S.nil ?_
        refine WpC.ret ?_
        cases H
        exact Leaves.ret rfl rfl rfl ⟨rfl, rfl⟩
/-! ### Flaws_eqIntS -/
def Flaws_eqIntS.l2 : Nat → (List Int) → (List Int) → Int → Option Bool
  | 0, _, _, _ => none
  | k2 + 1, v34, v35, v36 => cond (decide (v36 < (v34.length : Int))) ((at? v34 v36).bind fun b39 => (at? v35 v36).bind fun b40 => cond (b39 != b40) (some false) ((Flaws_eqIntS.l2 k2) v34 v35 (IntKind.i64.wrap (v36 + (1 : Int))))) (some true)
def Flaws_eqIntS (k : Nat) (a0 : List Int) (a1 : List Int) : Option Bool := cond ((a0.length : Int) != (a1.length : Int)) (some false) (Flaws_eqIntS.l2 k a0 a1 (0 : Int))
theorem ent26 : Enters Try.prog 26 := ⟨Try.f26, Try.func26, rfl, by decide⟩
set_option maxHeartbeats 8000000 in
set_option maxRecDepth 100000 in
theorem Flaws_eqIntS_gives (k : Nat) (g0 : Bool) (g1 : Bool) (a0 : List Int) (a1 : List Int) (r : Bool) (H : Flaws_eqIntS k a0 a1 = some r) : Gives Try.prog 26 [V.one (Cell.sl g0 (List.map eI a0)), V.one (Cell.sl g1 (List.map eI a1))] [] [V.one (cL r)] [] := by
  refine Gives.intro Try.func26 rfl rfl rfl rfl ?_
  intro F hF hm
  unfold Flaws_eqIntS at H
  obtain ⟨K, hK⟩ : ∃ K, k ≤ K := ⟨k, Nat.le_refl k⟩
  refine WpC.seq ?_
  refine WpC.regionL ?_
  refine L.assign hF rfl rfl rfl ?_
  refine L.nil ?_
  refine WpC.seq ?_
  refine WpC.seq ?_
  refine WpC.regionL ?_
  refine L.move hF rfl rfl rfl ?_
  refine L.lenR (xs := a0) (e := eI) Try.underlying24 hF rfl rfl rfl rfl ?_
  refine L.move hF rfl rfl rfl ?_
  refine L.lenR (xs := a1) (e := eI) Try.underlying24 hF rfl rfl rfl rfl ?_
  refine L.bin hF rfl rfl rfl rfl rfl rfl ?_
  refine L.nil ?_
  refine WpC.cond rfl (fun hc => ?_) (fun hc => ?_)
  · replace H := condT hc H
    refine WpC.seq ?_
    refine WpC.regionL ?_
    refine L.assign hF rfl rfl rfl ?_
    refine L.nil ?_
    refine WpC.ret ?_
    cases H
    exact Leaves.ret rfl rfl rfl ⟨rfl, rfl⟩
  · replace H := condF hc H
    refine WpC.skip ?_
    refine WpC.seq ?_
    refine WpC.seq ?_
    refine WpC.regionL ?_
    refine L.assign hF rfl rfl rfl ?_
    refine L.nil ?_
    refine WpC.block ?_
    refine WpC.loopL (P := Try.prog) (fun n σ => ∃ v34 : List Int, ∃ v35 : List Int, ∃ v36 : Int, n ≤ K ∧ Flaws_eqIntS.l2 n v34 v35 v36 = some r ∧ σ = mkSt [(0, one (Cell.sl g0 (List.map eI v34))), (1, one (Cell.sl g1 (List.map eI v35))), (5, one (cI v36))] [] [] 0) k ⟨_, ⟨a0, a1, (0 : Int), by omega, H, rfl⟩, Le.mk [] hm rfl ⟨⟨_, rfl, rfl⟩, ⟨_, rfl, rfl⟩, ⟨_, rfl, rfl⟩, trivial⟩ trivial trivial⟩ ?_
    clear H
    rintro k2 _ ⟨v34, v35, v36, hk2, H, rfl⟩
    cases k2 with
    | zero => cases H
    | succ k2 =>
      rw [Flaws_eqIntS.l2] at H
      refine WpC.seq ?_
      refine WpC.seq ?_
      refine WpC.regionL ?_
      refine L.move hF rfl rfl rfl ?_
      refine L.move hF rfl rfl rfl ?_
      refine L.lenR (xs := v34) (e := eI) Try.underlying24 hF rfl rfl rfl rfl ?_
      refine L.bin hF rfl rfl rfl rfl rfl rfl ?_
      refine L.nil ?_
      refine WpC.cond rfl (fun hc => ?_) (fun hc => ?_)
      · replace H := condT hc H
        refine WpC.skip ?_
        refine WpC.seq ?_
        refine WpC.block ?_
        refine WpC.seq ?_
        refine S.begin mixed (by kernel_rfl) ?_
        refine S.st 0 rfl rfl ((Ca.move).quiet) (fun Q0 k0 => L.move hF rfl rfl rfl (L.nil k0)) ?_
        refine S.st 1 rfl rfl ((Ca.move).quiet) (fun Q0 k0 => L.move hF rfl rfl rfl (L.nil k0)) ?_
        obtain ⟨b39, hb39, H⟩ := bindS H
        refine S.st 2 rfl rfl ((Ca.indexAddr).quiet) (fun Q0 k0 => L.idxR (xs := v34) (e := eI) Try.underlying24 info3 hF rfl rfl rfl rfl rfl hb39 rfl rfl (L.nil k0)) ?_
        refine S.st 3 rfl rfl (Qu.load) (fun Q0 k0 => L.loadPe shape3 hF rfl rfl rfl rfl rfl (L.nil k0)) ?_
        refine S.st 4 rfl rfl ((Ca.move).quiet) (fun Q0 k0 => L.move hF rfl rfl rfl (L.nil k0)) ?_
        refine S.st 5 rfl rfl ((Ca.move).quiet) (fun Q0 k0 => L.move hF rfl rfl rfl (L.nil k0)) ?_
        obtain ⟨b40, hb40, H⟩ := bindS H
        refine S.st 6 rfl rfl ((Ca.indexAddr).quiet) (fun Q0 k0 => L.idxR (xs := v35) (e := eI) Try.underlying24 info3 hF rfl rfl rfl rfl rfl hb40 rfl rfl (L.nil k0)) ?_
        refine S.st 7 rfl rfl (Qu.load) (fun Q0 k0 => L.loadPe shape3 hF rfl rfl rfl rfl rfl (L.nil k0)) ?_
        refine S.st 8 rfl rfl ((Ca.bin rfl rfl (calm_int _ _ _ _ _ _ _ _)).quiet) (fun Q0 k0 => L.bin hF rfl rfl rfl rfl rfl rfl (L.nil k0)) ?_
        refine S.nil ?_
        refine WpC.cond rfl (fun hc => ?_) (fun hc => ?_)
        · replace H := condT hc H
          refine WpC.seq ?_
          refine WpC.regionL ?_
          refine L.assign hF rfl rfl rfl ?_
          refine L.nil ?_
          refine WpC.ret ?_
          cases H
          exact Leaves.ret rfl rfl rfl ⟨rfl, rfl⟩
        · replace H := condF hc H
          refine WpC.skip ?_
          refine WpC.regionL ?_
          refine L.move hF rfl rfl rfl ?_
          refine L.bin hF rfl rfl rfl rfl rfl rfl ?_
          refine L.assign hF rfl rfl rfl ?_
          refine L.nil ?_
          exact ⟨k2, _, by omega, ⟨v34, v35, (IntKind.i64.wrap (v36 + (1 : Int))), by omega, H, rfl⟩, Le.mk [] hm rfl ⟨⟨_, rfl, rfl⟩, ⟨_, rfl, rfl⟩, ⟨_, rfl, rfl⟩, trivial⟩ trivial trivial⟩
      · replace H := condF hc H
        refine WpC.exit ?_
        refine WpC.seq ?_
        refine WpC.regionL ?_
        refine L.assign hF rfl rfl rfl ?_
        refine L.nil ?_
        refine WpC.ret ?_
        cases H
        exact Leaves.ret rfl rfl rfl ⟨rfl, rfl⟩
/-! ### Flaws_eqTlv -/
def Flaws_eqTlv (k : Nat) (a0 : Timpl_Tlv) (a1 : Timpl_Tlv) : Option Bool := cond (a0.Tag != a1.Tag) (some false) (cond (a0.Leaf != a1.Leaf) (some false) (cond (a0.Data != a1.Data) (some false) ((Flaws_eqIntS k a0.Kids a1.Kids).bind fun r2 => cond (!r2) (some false) (some true))))
theorem ent106 : Enters Try.prog 106 := ⟨Try.f106, Try.func106, rfl, by decide⟩
set_option maxHeartbeats 8000000 in
set_option maxRecDepth 100000 in
theorem Flaws_eqTlv_gives (k : Nat) (g0 : Bool) (g1 : Bool) (a0 : Timpl_Tlv) (a1 : Timpl_Tlv) (r : Bool) (H : Flaws_eqTlv k a0 a1 = some r) : Gives Try.prog 106 [V.agg [cI a0.Tag, cL a0.Leaf, cS a0.Data, Cell.sl g0 (List.map eI a0.Kids)], V.agg [cI a1.Tag, cL a1.Leaf, cS a1.Data, Cell.sl g1 (List.map eI a1.Kids)]] [] [V.one (cL r)] [] := by
  refine Gives.intro Try.func106 rfl rfl rfl rfl ?_
  intro F hF hm
  unfold Flaws_eqTlv at H
  obtain ⟨K, hK⟩ : ∃ K, k ≤ K := ⟨k, Nat.le_refl k⟩
  refine WpC.seq ?_
  refine WpC.regionL ?_
  refine L.box 8 hF rfl rfl rfl rfl ?_
  refine L.box 9 hF rfl rfl rfl rfl ?_
  refine L.assign hF rfl rfl rfl ?_
  refine L.nil ?_
  refine WpC.seq ?_
  refine WpC.seq ?_
  refine WpC.regionL ?_
  refine L.fieldAddr Try.underlying63 rfl info3 rfl hF rfl rfl rfl rfl rfl ?_
  refine L.loadPtr shape3 hF rfl rfl rfl rfl rfl rfl ?_
  refine L.fieldAddr Try.underlying63 rfl info3 rfl hF rfl rfl rfl rfl rfl ?_
  refine L.loadPtr shape3 hF rfl rfl rfl rfl rfl rfl ?_
  refine L.bin hF rfl rfl rfl rfl rfl rfl ?_
  refine L.nil ?_
  refine WpC.cond rfl (fun hc => ?_) (fun hc => ?_)
  · replace H := condT hc H
    refine WpC.seq ?_
    refine WpC.regionL ?_
    refine L.assign hF rfl rfl rfl ?_
    refine L.nil ?_
    refine WpC.ret ?_
    cases H
    exact Leaves.ret rfl rfl rfl ⟨rfl, rfl⟩
  · replace H := condF hc H
    refine WpC.skip ?_
    refine WpC.seq ?_
    refine WpC.seq ?_
    refine WpC.regionL ?_
    refine L.fieldAddr Try.underlying63 rfl info4 rfl hF rfl rfl rfl rfl rfl ?_
    refine L.loadPtr shape4 hF rfl rfl rfl rfl rfl rfl ?_
    refine L.fieldAddr Try.underlying63 rfl info4 rfl hF rfl rfl rfl rfl rfl ?_
    refine L.loadPtr shape4 hF rfl rfl rfl rfl rfl rfl ?_
    refine L.neL Try.underlying4 hF rfl rfl rfl rfl ?_
    refine L.nil ?_
    refine WpC.cond rfl (fun hc => ?_) (fun hc => ?_)
    · replace H := condT hc H
      refine WpC.seq ?_
      refine WpC.regionL ?_
      refine L.assign hF rfl rfl rfl ?_
      refine L.nil ?_
      refine WpC.ret ?_
      cases H
      exact Leaves.ret rfl rfl rfl ⟨rfl, rfl⟩
    · replace H := condF hc H
      refine WpC.skip ?_
      refine WpC.seq ?_
      refine WpC.seq ?_
      refine WpC.regionL ?_
      refine L.fieldAddr Try.underlying63 rfl info9 rfl hF rfl rfl rfl rfl rfl ?_
      refine L.loadPtr shape9 hF rfl rfl rfl rfl rfl rfl ?_
      refine L.fieldAddr Try.underlying63 rfl info9 rfl hF rfl rfl rfl rfl rfl ?_
      refine L.loadPtr shape9 hF rfl rfl rfl rfl rfl rfl ?_
      refine L.binS hF rfl rfl rfl rfl rfl ?_
      refine L.nil ?_
      refine WpC.cond rfl (fun hc => ?_) (fun hc => ?_)
      · replace H := condT hc H
        refine WpC.seq ?_
        refine WpC.regionL ?_
        refine L.assign hF rfl rfl rfl ?_
        refine L.nil ?_
        refine WpC.ret ?_
        cases H
        exact Leaves.ret rfl rfl rfl ⟨rfl, rfl⟩
      · replace H := condF hc H
        refine WpC.skip ?_
        refine WpC.seq ?_
        refine WpC.seq ?_
        refine WpC.regionL ?_
        refine L.fieldAddr Try.underlying63 rfl info24 rfl hF rfl rfl rfl rfl rfl ?_
        refine L.loadPtr shape24 hF rfl rfl rfl rfl rfl rfl ?_
        refine L.fieldAddr Try.underlying63 rfl info24 rfl hF rfl rfl rfl rfl rfl ?_
        refine L.loadPtr shape24 hF rfl rfl rfl rfl rfl rfl ?_
        obtain ⟨r2, hr2, H⟩ := bindS H
        refine L.call [false, false] [] [] 10 hF rfl rfl rfl ent26 rfl rfl rfl rfl rfl (Flaws_eqIntS_gives k g0 g1 a0.Kids a1.Kids r2 hr2) rfl ?_
        refine L.not hF rfl rfl rfl ?_
        refine L.nil ?_
        refine WpC.cond rfl (fun hc => ?_) (fun hc => ?_)
        · replace H := condT hc H
          refine WpC.seq ?_
          refine WpC.regionL ?_
          refine L.assign hF rfl rfl rfl ?_
          refine L.nil ?_
          refine WpC.ret ?_
          cases H
          exact Leaves.ret rfl rfl rfl ⟨rfl, rfl⟩
        · replace H := condF hc H
          refine WpC.skip ?_
          refine WpC.seq ?_
          refine WpC.regionL ?_
          refine L.assign hF rfl rfl rfl ?_
          refine L.nil ?_
          refine WpC.ret ?_
          cases H
          exact Leaves.ret rfl rfl rfl ⟨rfl, rfl⟩
/-! ### Flaws_eqTlvS -/
def Flaws_eqTlvS.l2 : Nat → (List Timpl_Tlv) → (List Timpl_Tlv) → Int → Option Bool
  | 0, _, _, _ => none
  | k2 + 1, v44, v45, v46 => cond (decide (v46 < (v44.length : Int))) ((at? v44 v46).bind fun b50 => (at? v45 v46).bind fun b51 => (Flaws_eqTlv k2 b50 b51).bind fun r52 => cond (!r52) (some false) ((Flaws_eqTlvS.l2 k2) v44 v45 (IntKind.i64.wrap (v46 + (1 : Int))))) (some true)
def Flaws_eqTlvS (k : Nat) (a0 : List Timpl_Tlv) (a1 : List Timpl_Tlv) : Option Bool := cond ((a0.length : Int) != (a1.length : Int)) (some false) (Flaws_eqTlvS.l2 k a0 a1 (0 : Int))
theorem ent33 : Enters Try.prog 33 := ⟨Try.f33, Try.func33, rfl, by decide⟩
set_option maxHeartbeats 8000000 in
set_option maxRecDepth 100000 in
theorem Flaws_eqTlvS_gives (k : Nat) (g0 : Bool) (g1 : Bool) (a0 : List Timpl_Tlv) (a1 : List Timpl_Tlv) (r : Bool) (H : Flaws_eqTlvS k a0 a1 = some r) : Gives Try.prog 33 [V.one (Cell.sl g0 (List.map eTimpl_Tlv a0)), V.one (Cell.sl g1 (List.map eTimpl_Tlv a1))] [] [V.one (cL r)] [] := by
  refine Gives.intro Try.func33 rfl rfl rfl rfl ?_
  intro F hF hm
  unfold Flaws_eqTlvS at H
  obtain ⟨K, hK⟩ : ∃ K, k ≤ K := ⟨k, Nat.le_refl k⟩
  refine WpC.seq ?_
  refine WpC.regionL ?_
  refine L.assign hF rfl rfl rfl ?_
  refine L.nil ?_
  refine WpC.seq ?_
  refine WpC.seq ?_
  refine WpC.regionL ?_
  refine L.move hF rfl rfl rfl ?_
  refine L.lenR (xs := a0) (e := eTimpl_Tlv) Try.underlying33 hF rfl rfl rfl rfl ?_
  refine L.move hF rfl rfl rfl ?_
  refine L.lenR (xs := a1) (e := eTimpl_Tlv) Try.underlying33 hF rfl rfl rfl rfl ?_
  refine L.bin hF rfl rfl rfl rfl rfl rfl ?_
  refine L.nil ?_
  refine WpC.cond rfl (fun hc => ?_) (fun hc => ?_)
  · replace H := condT hc H
    refine WpC.seq ?_
    refine WpC.regionL ?_
    refine L.assign hF rfl rfl rfl ?_
    refine L.nil ?_
    refine WpC.ret ?_
    cases H
    exact Leaves.ret rfl rfl rfl ⟨rfl, rfl⟩
  · replace H := condF hc H
    refine WpC.skip ?_
    refine WpC.seq ?_
    refine WpC.seq ?_
    refine WpC.regionL ?_
    refine L.assign hF rfl rfl rfl ?_
    refine L.nil ?_
    refine WpC.block ?_
    refine WpC.loopL (P := Try.prog) (fun n σ => ∃ v44 : List Timpl_Tlv, ∃ v45 : List Timpl_Tlv, ∃ v46 : Int, n ≤ K ∧ Flaws_eqTlvS.l2 n v44 v45 v46 = some r ∧ σ = mkSt [(0, one (Cell.sl g0 (List.map eTimpl_Tlv v44))), (1, one (Cell.sl g1 (List.map eTimpl_Tlv v45))), (5, one (cI v46))] [] [] 0) k ⟨_, ⟨a0, a1, (0 : Int), by omega, H, rfl⟩, Le.mk [] hm rfl ⟨⟨_, rfl, rfl⟩, ⟨_, rfl, rfl⟩, ⟨_, rfl, rfl⟩, trivial⟩ trivial trivial⟩ ?_
    clear H
    rintro k2 _ ⟨v44, v45, v46, hk2, H, rfl⟩
    cases k2 with
    | zero => cases H
    | succ k2 =>
      rw [Flaws_eqTlvS.l2] at H
      refine WpC.seq ?_
      refine WpC.seq ?_
      refine WpC.regionL ?_
      refine L.move hF rfl rfl rfl ?_
      refine L.move hF rfl rfl rfl ?_
      refine L.lenR (xs := v44) (e := eTimpl_Tlv) Try.underlying33 hF rfl rfl rfl rfl ?_
      refine L.bin hF rfl rfl rfl rfl rfl rfl ?_
      refine L.nil ?_
      refine WpC.cond rfl (fun hc => ?_) (fun hc => ?_)
      · replace H := condT hc H
        refine WpC.skip ?_
        refine WpC.seq ?_
        refine WpC.block ?_
        refine WpC.seq ?_
        obtain ⟨b50, hb50, H⟩ := bindS H
        obtain ⟨b51, hb51, H⟩ := bindS H
        obtain ⟨r52, hr52, H⟩ := bindS H
        refine A.begin mixed rfl rfl ?_
        intro W hI hO
        have n1023 : W 0 #[true, true, true, true, true, true, true, true, true, true] (mkSt [(0, one (Cell.sl g0 (List.map eTimpl_Tlv v44))), (1, one (Cell.sl g1 (List.map eTimpl_Tlv v45))), (5, one (cI v46)), (26, one (cL (!r52)))] [] [] 0) := by
          refine hI _ _ _ (A.done (by kernel_rfl) ?_)
          refine WpC.cond rfl (fun hc => ?_) (fun hc => ?_)
          · replace H := condT hc H
            refine WpC.seq ?_
            refine WpC.regionL ?_
            refine L.assign hF rfl rfl rfl ?_
            refine L.nil ?_
            refine WpC.ret ?_
            cases H
            exact Leaves.ret rfl rfl rfl ⟨rfl, rfl⟩
          · replace H := condF hc H
            refine WpC.skip ?_
            refine WpC.regionL ?_
            refine L.move hF rfl rfl rfl ?_
            refine L.bin hF rfl rfl rfl rfl rfl rfl ?_
            refine L.assign hF rfl rfl rfl ?_
            refine L.nil ?_
            exact ⟨k2, _, by omega, ⟨v44, v45, (IntKind.i64.wrap (v46 + (1 : Int))), by omega, H, rfl⟩, Le.mk [] hm rfl ⟨⟨_, rfl, rfl⟩, ⟨_, rfl, rfl⟩, ⟨_, rfl, rfl⟩, trivial⟩ trivial trivial⟩
        have n511 : W 1 #[true, true, true, true, true, true, true, true, true, false] (mkSt [(0, one (Cell.sl g0 (List.map eTimpl_Tlv v44))), (1, one (Cell.sl g1 (List.map eTimpl_Tlv v45))), (5, one (cI v46)), (25, one (cL r52))] [] [] 0) := by
          refine hI _ _ _ ?_
          refine A.take 9 rfl (by kernel_rfl) (by kernel_rfl) (by kernel_rfl) rfl (Ca.un rfl rfl) (fun Q0 k0 => L.not hF rfl rfl rfl (L.nil k0)) ?_
          exact A.on (hO _ _ _ n1023) (Le.mk [] hm rfl ⟨⟨_, rfl, rfl⟩, ⟨_, rfl, rfl⟩, ⟨_, rfl, rfl⟩, ⟨_, rfl, rfl⟩, trivial⟩ trivial trivial)
        have n255 : W 2 #[true, true, true, true, true, true, true, true, false, false] (mkSt [(0, one (Cell.sl g0 (List.map eTimpl_Tlv v44))), (1, one (Cell.sl g1 (List.map eTimpl_Tlv v45))), (5, one (cI v46)), (20, agg [cI b50.Tag, cL b50.Leaf, cS b50.Data, Cell.sl true (List.map eI b50.Kids)]), (24, agg [cI b51.Tag, cL b51.Leaf, cS b51.Data, Cell.sl true (List.map eI b51.Kids)])] [] [] 0) := by
          refine hI _ _ _ ?_
          refine A.all [8] (by kernel_rfl) rfl ⟨⟨_, rfl, ?_⟩, trivial⟩
          · refine L.call [false, false] [] [] 0 hF rfl rfl rfl ent106 rfl rfl rfl rfl rfl (Flaws_eqTlv_gives k2 true true b50 b51 r52 hr52) rfl ?_
            refine L.nil ?_
            exact A.on (hO _ _ _ n511) (Le.mk [] hm rfl ⟨⟨_, rfl, rfl⟩, ⟨_, rfl, rfl⟩, ⟨_, rfl, rfl⟩, ⟨_, rfl, rfl⟩, trivial⟩ trivial trivial)
        have n247 : W 3 #[true, true, true, false, true, true, true, true, false, false] (mkSt [(0, one (Cell.sl g0 (List.map eTimpl_Tlv v44))), (1, one (Cell.sl g1 (List.map eTimpl_Tlv v45))), (5, one (cI v46)), (19, one (Cell.pe g0 (eTimpl_Tlv b50) 0)), (24, agg [cI b51.Tag, cL b51.Leaf, cS b51.Data, Cell.sl true (List.map eI b51.Kids)])] [] [] 0) := by
          refine hI _ _ _ ?_
          refine A.all [3] (by kernel_rfl) rfl ⟨⟨_, rfl, ?_⟩, trivial⟩
          · refine L.loadPe shape63 hF rfl rfl rfl rfl rfl ?_
            refine L.nil ?_
            exact A.on (hO _ _ _ n255) (Le.mk [] hm rfl ⟨⟨_, rfl, rfl⟩, ⟨_, rfl, rfl⟩, ⟨_, rfl, rfl⟩, ⟨_, rfl, rfl⟩, ⟨_, rfl, rfl⟩, trivial⟩ trivial trivial)
        have n127 : W 3 #[true, true, true, true, true, true, true, false, false, false] (mkSt [(0, one (Cell.sl g0 (List.map eTimpl_Tlv v44))), (1, one (Cell.sl g1 (List.map eTimpl_Tlv v45))), (5, one (cI v46)), (20, agg [cI b50.Tag, cL b50.Leaf, cS b50.Data, Cell.sl true (List.map eI b50.Kids)]), (23, one (Cell.pe g1 (eTimpl_Tlv b51) 0))] [] [] 0) := by
          refine hI _ _ _ ?_
          refine A.all [7] (by kernel_rfl) rfl ⟨⟨_, rfl, ?_⟩, trivial⟩
          · refine L.loadPe shape63 hF rfl rfl rfl rfl rfl ?_
            refine L.nil ?_
            exact A.on (hO _ _ _ n255) (Le.mk [] hm rfl ⟨⟨_, rfl, rfl⟩, ⟨_, rfl, rfl⟩, ⟨_, rfl, rfl⟩, ⟨_, rfl, rfl⟩, ⟨_, rfl, rfl⟩, trivial⟩ trivial trivial)
        have n119 : W 4 #[true, true, true, false, true, true, true, false, false, false] (mkSt [(0, one (Cell.sl g0 (List.map eTimpl_Tlv v44))), (1, one (Cell.sl g1 (List.map eTimpl_Tlv v45))), (5, one (cI v46)), (19, one (Cell.pe g0 (eTimpl_Tlv b50) 0)), (23, one (Cell.pe g1 (eTimpl_Tlv b51) 0))] [] [] 0) := by
          refine hI _ _ _ ?_
          refine A.all [3, 7] (by kernel_rfl) rfl ⟨⟨_, rfl, ?_⟩, ⟨_, rfl, ?_⟩, trivial⟩
          · refine L.loadPe shape63 hF rfl rfl rfl rfl rfl ?_
            refine L.nil ?_
            exact A.on (hO _ _ _ n127) (Le.mk [] hm rfl ⟨⟨_, rfl, rfl⟩, ⟨_, rfl, rfl⟩, ⟨_, rfl, rfl⟩, ⟨_, rfl, rfl⟩, ⟨_, rfl, rfl⟩, trivial⟩ trivial trivial)
          · refine L.loadPe shape63 hF rfl rfl rfl rfl rfl ?_
            refine L.nil ?_
            exact A.on (hO _ _ _ n247) (Le.mk [] hm rfl ⟨⟨_, rfl, rfl⟩, ⟨_, rfl, rfl⟩, ⟨_, rfl, rfl⟩, ⟨_, rfl, rfl⟩, ⟨_, rfl, rfl⟩, trivial⟩ trivial trivial)
        have n55 : W 5 #[true, true, true, false, true, true, false, false, false, false] (mkSt [(0, one (Cell.sl g0 (List.map eTimpl_Tlv v44))), (1, one (Cell.sl g1 (List.map eTimpl_Tlv v45))), (5, one (cI v46)), (19, one (Cell.pe g0 (eTimpl_Tlv b50) 0)), (21, one (Cell.sl g1 (List.map eTimpl_Tlv v45))), (22, one (cI v46))] [] [] 0) := by
          refine hI _ _ _ ?_
          refine A.take 6 rfl (by kernel_rfl) (by kernel_rfl) (by kernel_rfl) rfl (Ca.indexAddr) (fun Q0 k0 => L.idxR (xs := v45) (e := eTimpl_Tlv) Try.underlying33 info63 hF rfl rfl rfl rfl rfl hb51 rfl rfl (L.nil k0)) ?_
          exact A.on (hO _ _ _ n119) (Le.mk [] hm rfl ⟨⟨_, rfl, rfl⟩, ⟨_, rfl, rfl⟩, ⟨_, rfl, rfl⟩, ⟨_, rfl, rfl⟩, ⟨_, rfl, rfl⟩, trivial⟩ trivial trivial)
        have n23 : W 6 #[true, true, true, false, true, false, false, false, false, false] (mkSt [(0, one (Cell.sl g0 (List.map eTimpl_Tlv v44))), (1, one (Cell.sl g1 (List.map eTimpl_Tlv v45))), (5, one (cI v46)), (19, one (Cell.pe g0 (eTimpl_Tlv b50) 0)), (21, one (Cell.sl g1 (List.map eTimpl_Tlv v45)))] [] [] 0) := by
          refine hI _ _ _ ?_
          refine A.take 5 rfl (by kernel_rfl) (by kernel_rfl) (by kernel_rfl) rfl (Ca.move) (fun Q0 k0 => L.move hF rfl rfl rfl (L.nil k0)) ?_
          exact A.on (hO _ _ _ n55) (Le.mk [] hm rfl ⟨⟨_, rfl, rfl⟩, ⟨_, rfl, rfl⟩, ⟨_, rfl, rfl⟩, ⟨_, rfl, rfl⟩, ⟨_, rfl, rfl⟩, ⟨_, rfl, rfl⟩, trivial⟩ trivial trivial)
        have n7 : W 7 #[true, true, true, false, false, false, false, false, false, false] (mkSt [(0, one (Cell.sl g0 (List.map eTimpl_Tlv v44))), (1, one (Cell.sl g1 (List.map eTimpl_Tlv v45))), (5, one (cI v46)), (19, one (Cell.pe g0 (eTimpl_Tlv b50) 0))] [] [] 0) := by
          refine hI _ _ _ ?_
          refine A.take 4 rfl (by kernel_rfl) (by kernel_rfl) (by kernel_rfl) rfl (Ca.move) (fun Q0 k0 => L.move hF rfl rfl rfl (L.nil k0)) ?_
          exact A.on (hO _ _ _ n23) (Le.mk [] hm rfl ⟨⟨_, rfl, rfl⟩, ⟨_, rfl, rfl⟩, ⟨_, rfl, rfl⟩, ⟨_, rfl, rfl⟩, ⟨_, rfl, rfl⟩, trivial⟩ trivial trivial)
        have n3 : W 8 #[true, true, false, false, false, false, false, false, false, false] (mkSt [(0, one (Cell.sl g0 (List.map eTimpl_Tlv v44))), (1, one (Cell.sl g1 (List.map eTimpl_Tlv v45))), (5, one (cI v46)), (17, one (Cell.sl g0 (List.map eTimpl_Tlv v44))), (18, one (cI v46))] [] [] 0) := by
          refine hI _ _ _ ?_
          refine A.take 2 rfl (by kernel_rfl) (by kernel_rfl) (by kernel_rfl) rfl (Ca.indexAddr) (fun Q0 k0 => L.idxR (xs := v44) (e := eTimpl_Tlv) Try.underlying33 info63 hF rfl rfl rfl rfl rfl hb50 rfl rfl (L.nil k0)) ?_
          exact A.on (hO _ _ _ n7) (Le.mk [] hm rfl ⟨⟨_, rfl, rfl⟩, ⟨_, rfl, rfl⟩, ⟨_, rfl, rfl⟩, ⟨_, rfl, rfl⟩, trivial⟩ trivial trivial)
        have n1 : W 9 #[true, false, false, false, false, false, false, false, false, false] (mkSt [(0, one (Cell.sl g0 (List.map eTimpl_Tlv v44))), (1, one (Cell.sl g1 (List.map eTimpl_Tlv v45))), (5, one (cI v46)), (17, one (Cell.sl g0 (List.map eTimpl_Tlv v44)))] [] [] 0) := by
          refine hI _ _ _ ?_
          refine A.take 1 rfl (by kernel_rfl) (by kernel_rfl) (by kernel_rfl) rfl (Ca.move) (fun Q0 k0 => L.move hF rfl rfl rfl (L.nil k0)) ?_
          exact A.on (hO _ _ _ n3) (Le.mk [] hm rfl ⟨⟨_, rfl, rfl⟩, ⟨_, rfl, rfl⟩, ⟨_, rfl, rfl⟩, ⟨_, rfl, rfl⟩, ⟨_, rfl, rfl⟩, trivial⟩ trivial trivial)
        have n0 : W 10 #[false, false, false, false, false, false, false, false, false, false] (mkSt [(0, one (Cell.sl g0 (List.map eTimpl_Tlv v44))), (1, one (Cell.sl g1 (List.map eTimpl_Tlv v45))), (5, one (cI v46))] [] [] 0) := by
          refine hI _ _ _ ?_
          refine A.take 0 rfl (by kernel_rfl) (by kernel_rfl) (by kernel_rfl) rfl (Ca.move) (fun Q0 k0 => L.move hF rfl rfl rfl (L.nil k0)) ?_
          exact A.on (hO _ _ _ n1) (Le.mk [] hm rfl ⟨⟨_, rfl, rfl⟩, ⟨_, rfl, rfl⟩, ⟨_, rfl, rfl⟩, ⟨_, rfl, rfl⟩, trivial⟩ trivial trivial)
        exact hI _ _ _ (A.on (hO _ _ _ n0) (Le.mk [] hm rfl ⟨⟨_, rfl, rfl⟩, ⟨_, rfl, rfl⟩, ⟨_, rfl, rfl⟩, trivial⟩ trivial trivial))
      · replace H := condF hc H
        refine WpC.exit ?_
        refine WpC.seq ?_
        refine WpC.regionL ?_
        refine L.assign hF rfl rfl rfl ?_
        refine L.nil ?_
        refine WpC.ret ?_
        cases H
        exact Leaves.ret rfl rfl rfl ⟨rfl, rfl⟩
/-! ### Flaws_FnExactTlvFind -/
def Flaws_FnExactTlvFind (k : Nat) (a0 : List Tlaws_Tlv) (a1 : List Int) : Option Bool := cond (decide ((a1.length : Int) > (1048576 : Int))) (some true) ((Flaws_szTlvS k a0 (1048576 : Int)).bind fun r1 => cond (decide (r1 < (0 : Int))) (some true) ((Flaws_toTlvS k a0).bind fun r2 => (Flaws_toIntS k a1).bind fun r3 => (Fspec_TlvFind k r2 r3).bind fun r4 => (Flaws_toTlvS k a0).bind fun r5 => (Flaws_toIntS k a1).bind fun r6 => (Fimpl_TlvFind k r5 r6).bind fun r7 => cond (r7.1 != r4.1) (some false) (cond (r7.2 != r4.2) (some false) ((Flaws_toTlvS k a0).bind fun r10 => (Flaws_eqTlvS k r5 r10).bind fun r11 => cond (!r11) (some false) ((Flaws_toIntS k a1).bind fun r14 => (Flaws_eqIntS k r6 r14).bind fun r15 => cond (!r15) (some false) (some true))))))
theorem ent9 : Enters Try.prog 9 := ⟨Try.f9, Try.func9, rfl, by decide⟩
set_option maxHeartbeats 8000000 in
set_option maxRecDepth 100000 in
theorem Flaws_FnExactTlvFind_gives (k : Nat) (g0 : Bool) (g1 : Bool) (a0 : List Tlaws_Tlv) (a1 : List Int) (r : Bool) (H : Flaws_FnExactTlvFind k a0 a1 = some r) : Gives Try.prog 9 [V.one (Cell.sl g0 (List.map eTlaws_Tlv a0)), V.one (Cell.sl g1 (List.map eI a1))] [] [V.one (cL r)] [] := by
  refine Gives.intro Try.func9 rfl rfl rfl rfl ?_
  intro F hF hm
  unfold Flaws_FnExactTlvFind at H
  obtain ⟨K, hK⟩ : ∃ K, k ≤ K := ⟨k, Nat.le_refl k⟩
  refine WpC.seq ?_
  refine WpC.regionL ?_
  refine L.assign hF rfl rfl rfl ?_
  refine L.nil ?_
  refine WpC.seq ?_
  refine WpC.seq ?_
  refine WpC.regionL ?_
  refine L.move hF rfl rfl rfl ?_
  refine L.lenR (xs := a1) (e := eI) Try.underlying24 hF rfl rfl rfl rfl ?_
  refine L.bin hF rfl rfl rfl rfl rfl rfl ?_
  refine L.nil ?_
  refine WpC.cond rfl (fun hc => ?_) (fun hc => ?_)
  · replace H := condT hc H
    refine WpC.seq ?_
    refine WpC.regionL ?_
    refine L.assign hF rfl rfl rfl ?_
    refine L.nil ?_
    refine WpC.ret ?_
    cases H
    exact Leaves.ret rfl rfl rfl ⟨rfl, rfl⟩
  · replace H := condF hc H
    refine WpC.skip ?_
    refine WpC.seq ?_
    refine WpC.regionL ?_
    refine L.assign hF rfl rfl rfl ?_
    refine L.nil ?_
    refine WpC.seq ?_
    refine WpC.regionL ?_
    refine L.move hF rfl rfl rfl ?_
    refine L.move hF rfl rfl rfl ?_
    obtain ⟨r1, hr1, H⟩ := bindS H
    refine L.call [false, false] [] [] 2 hF rfl rfl rfl ent36 rfl rfl rfl rfl rfl (Flaws_szTlvS_gives k g0 a0 (1048576 : Int) r1 hr1) rfl ?_
    refine L.assign hF rfl rfl rfl ?_
    refine L.nil ?_
    refine WpC.seq ?_
    refine WpC.seq ?_
    refine WpC.regionL ?_
    refine L.move hF rfl rfl rfl ?_
    refine L.bin hF rfl rfl rfl rfl rfl rfl ?_
    refine L.nil ?_
    refine WpC.cond rfl (fun hc => ?_) (fun hc => ?_)
    · replace H := condT hc H
      refine WpC.seq ?_
      refine WpC.regionL ?_
      refine L.assign hF rfl rfl rfl ?_
      refine L.nil ?_
      refine WpC.ret ?_
      cases H
      exact Leaves.ret rfl rfl rfl ⟨rfl, rfl⟩
    · replace H := condF hc H
      refine WpC.skip ?_
      refine WpC.seq ?_
      refine WpC.regionL ?_
      refine L.move hF rfl rfl rfl ?_
      obtain ⟨r2, hr2, H⟩ := bindS H
      refine L.call [false] [] [] 3 hF rfl rfl rfl ent38 rfl rfl rfl rfl rfl (Flaws_toTlvS_gives k g0 a0 r2 hr2) rfl ?_
      refine L.move hF rfl rfl rfl ?_
      obtain ⟨r3, hr3, H⟩ := bindS H
      refine L.call [false] [] [] 4 hF rfl rfl rfl ent54 rfl rfl rfl rfl rfl (Flaws_toIntS_gives k g1 a1 r3 hr3) rfl ?_
      obtain ⟨r4, hr4, H⟩ := bindS H
      refine L.call [false, false] [3, 4] [] 5 hF rfl rfl rfl ent53 rfl rfl rfl rfl rfl (Fspec_TlvFind_gives k false false r2 r3 r4 hr4) rfl ?_
      refine L.move hF rfl rfl rfl ?_
      refine L.extract hF rfl rfl rfl rfl ?_
      refine L.extract hF rfl rfl rfl rfl ?_
      refine L.assign hF rfl rfl rfl ?_
      refine L.assign hF rfl rfl rfl ?_
      refine L.nil ?_
      refine WpC.seq ?_
      refine WpC.regionL ?_
      refine L.move hF rfl rfl rfl ?_
      obtain ⟨r5, hr5, H⟩ := bindS H
      refine L.call [false] [] [] 7 hF rfl rfl rfl ent38 rfl rfl rfl rfl rfl (Flaws_toTlvS_gives k g0 a0 r5 hr5) rfl ?_
      refine L.assign hF rfl rfl rfl ?_
      refine L.nil ?_
      refine WpC.seq ?_
      refine WpC.regionL ?_
      refine L.move hF rfl rfl rfl ?_
      obtain ⟨r6, hr6, H⟩ := bindS H
      refine L.call [false] [] [] 8 hF rfl rfl rfl ent54 rfl rfl rfl rfl rfl (Flaws_toIntS_gives k g1 a1 r6 hr6) rfl ?_
      refine L.assign hF rfl rfl rfl ?_
      refine L.nil ?_
      refine WpC.seq ?_
      refine WpC.regionL ?_
      refine L.move hF rfl rfl rfl ?_
      refine L.move hF rfl rfl rfl ?_
      refine L.le (Le.shareAll 7 rfl) ?_
      obtain ⟨r7, hr7, H⟩ := bindS H
      refine L.call [false, false] [8] [] 9 hF rfl rfl rfl ent55 rfl rfl rfl rfl rfl (Fimpl_TlvFind_gives k false r5 r6 r7 hr7) rfl ?_
      refine L.move hF rfl rfl rfl ?_
      refine L.extract hF rfl rfl rfl rfl ?_
      refine L.extract hF rfl rfl rfl rfl ?_
      refine L.assign hF rfl rfl rfl ?_
      refine L.assign hF rfl rfl rfl ?_
      refine L.nil ?_
      refine WpC.seq ?_
      refine WpC.seq ?_
      refine WpC.regionL ?_
      refine L.move hF rfl rfl rfl ?_
      refine L.move hF rfl rfl rfl ?_
      refine L.binS hF rfl rfl rfl rfl rfl ?_
      refine L.move hF rfl rfl rfl ?_
      refine L.split (fun hc => ?_) (fun hc => ?_)
      · replace H := condT hc H
        refine L.off hF rfl rfl ?_
        refine L.off hF rfl rfl ?_
        refine L.off hF rfl rfl ?_
        refine L.pick hF rfl rfl rfl rfl ?_
        refine L.nil ?_
        refine WpC.cond rfl (fun _ => ?_) (fun hc => by cases hc)
        refine WpC.seq ?_
        refine WpC.regionL ?_
        refine L.assign hF rfl rfl rfl ?_
        refine L.nil ?_
        refine WpC.ret ?_
        cases H
        exact Leaves.ret rfl rfl rfl ⟨rfl, rfl⟩
      · replace H := condF hc H
        refine L.move hF rfl rfl rfl ?_
        refine L.move hF rfl rfl rfl ?_
        refine L.neL Try.underlying4 hF rfl rfl rfl rfl ?_
        refine L.pick hF rfl rfl rfl rfl ?_
        refine L.nil ?_
        refine WpC.cond rfl (fun hc => ?_) (fun hc => ?_)
        · replace H := condT hc H
          refine WpC.seq ?_
          refine WpC.regionL ?_
          refine L.assign hF rfl rfl rfl ?_
          refine L.nil ?_
          refine WpC.ret ?_
          cases H
          exact Leaves.ret rfl rfl rfl ⟨rfl, rfl⟩
        · replace H := condF hc H
          refine WpC.skip ?_
          refine WpC.seq ?_
          refine WpC.seq ?_
          refine WpC.regionL ?_
          refine L.move hF rfl rfl rfl ?_
          refine L.move hF rfl rfl rfl ?_
          obtain ⟨r10, hr10, H⟩ := bindS H
          refine L.call [false] [] [] 11 hF rfl rfl rfl ent38 rfl rfl rfl rfl rfl (Flaws_toTlvS_gives k g0 a0 r10 hr10) rfl ?_
          obtain ⟨r11, hr11, H⟩ := bindS H
          refine L.call [false, false] [11] [] 12 hF rfl rfl rfl ent33 rfl rfl rfl rfl rfl (Flaws_eqTlvS_gives k true false r5 r10 r11 hr11) rfl ?_
          refine L.not hF rfl rfl rfl ?_
          refine L.nil ?_
          refine WpC.cond rfl (fun hc => ?_) (fun hc => ?_)
          · replace H := condT hc H
            refine WpC.seq ?_
            refine WpC.regionL ?_
            refine L.assign hF rfl rfl rfl ?_
            refine L.nil ?_
            refine WpC.ret ?_
            cases H
            exact Leaves.ret rfl rfl rfl ⟨rfl, rfl⟩
          · replace H := condF hc H
            refine WpC.skip ?_
            refine WpC.seq ?_
            refine WpC.seq ?_
            refine WpC.regionL ?_
            refine L.move hF rfl rfl rfl ?_
            refine L.move hF rfl rfl rfl ?_
            obtain ⟨r14, hr14, H⟩ := bindS H
            refine L.call [false] [] [] 13 hF rfl rfl rfl ent54 rfl rfl rfl rfl rfl (Flaws_toIntS_gives k g1 a1 r14 hr14) rfl ?_
            obtain ⟨r15, hr15, H⟩ := bindS H
            refine L.call [false, false] [8, 13] [] 14 hF rfl rfl rfl ent26 rfl rfl rfl rfl rfl (Flaws_eqIntS_gives k false false r6 r14 r15 hr15) rfl ?_
            refine L.not hF rfl rfl rfl ?_
            refine L.nil ?_
            refine WpC.cond rfl (fun hc => ?_) (fun hc => ?_)
            · replace H := condT hc H
              refine WpC.seq ?_
              refine WpC.regionL ?_
              refine L.assign hF rfl rfl rfl ?_
              refine L.nil ?_
              refine WpC.ret ?_
              cases H
              exact Leaves.ret rfl rfl rfl ⟨rfl, rfl⟩
            · replace H := condF hc H
              refine WpC.skip ?_
              refine WpC.seq ?_
              refine WpC.regionL ?_
              refine L.assign hF rfl rfl rfl ?_
              refine L.nil ?_
              refine WpC.ret ?_
              cases H
              exact Leaves.ret rfl rfl rfl ⟨rfl, rfl⟩
theorem open24 : Go.MG.Opens Try.prog 24 (Go.MG.eR Go.MG.eI) (Go.MG.wfR Go.MG.wfI) := Go.MG.Opens.slice Try.underlying24 (Go.MG.Opens.int Try.underlying3) (fun _ => (by kernel_rfl : Try.prog.cellsOf 3 = 1).symm) (fun _ => rfl) (fun _ => rfl) (by kernel_rfl)
def wfTlaws_Tlv (x : Tlaws_Tlv) : Prop := Go.MG.wfI x.Tag ∧ (fun _ => True) x.Leaf ∧ Go.MG.wfS x.Data ∧ (Go.MG.wfR Go.MG.wfI) x.Kids
theorem open152 : Go.MG.Opens Try.prog 152 eTlaws_Tlv wfTlaws_Tlv := by
  intro H enc W fuel cs x h
  obtain ⟨n, hp⟩ := Go.MG.struct_parts Try.underlying152 (by kernel_rfl : Try.prog.cellsOf 152 = 4) (by kernel_rfl) h
  obtain ⟨c0, k0, y0, rfl, h0, hp⟩ := hp
  obtain ⟨c1, k1, y1, rfl, h1, hp⟩ := hp
  obtain ⟨c2, k2, y2, rfl, h2, hp⟩ := hp
  obtain ⟨c3, k3, y3, rfl, h3, hp⟩ := hp
  obtain rfl := hp
  obtain ⟨a0, r0, w0⟩ := (Go.MG.Opens.int Try.underlying3) _ _ _ _ _ _ h0
  obtain ⟨a1, r1, w1⟩ := (Go.MG.Opens.bool Try.underlying4) _ _ _ _ _ _ h1
  obtain ⟨a2, r2, w2⟩ := (Go.MG.Opens.str Try.underlying9) _ _ _ _ _ _ h2
  obtain ⟨a3, r3, w3⟩ := open24 _ _ _ _ _ _ h3
  exact ⟨⟨a0, a1, a2, a3⟩, (r0.append (r1.append (r2.append (r3.append (rfl : Go.MG.RCs _ [] []))))), w0, w1, w2, w3⟩
theorem open39 : Go.MG.Opens Try.prog 39 (Go.MG.eR eTlaws_Tlv) (Go.MG.wfR wfTlaws_Tlv) := Go.MG.Opens.slice Try.underlying39 open152 (fun _ => (by kernel_rfl : Try.prog.cellsOf 152 = 4).symm) (fun _ => rfl) (fun _ => rfl) (by kernel_rfl)
end Go.Proofs.Ytcolcmjcjpikcaa.M
