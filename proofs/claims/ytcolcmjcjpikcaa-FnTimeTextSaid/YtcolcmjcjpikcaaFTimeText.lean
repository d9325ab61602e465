import Derived.Test.YtcolcmjcjpikcaaFTimeTextx0
import Derived.Test.YtcolcmjcjpikcaaProg
namespace Go.Proofs.Ytcolcmjcjpikcaa.M
open Go Go.MG
set_option linter.unusedVariables false
set_option linter.unusedSimpArgs false
/-! ### Fspec_Var -/
def Fspec_Var.l2 : Nat → Int → (List UInt8) → Option (List UInt8)
  | 0, _, _ => none
  | k2 + 1, v16, v17 => cond (decide (v16 ≥ (128 : Int))) (cond (decide ((2 * (v17.length + ([(ofI (IntKind.i64.wrap ((128 : Int) + (Int.tmod v16 (128 : Int)))))] : List UInt8).length) + 192) * 1 ≤ 281474976710656)) ((Fspec_Var.l2 k2) (IntKind.i64.wrap (Int.tdiv v16 (128 : Int))) (v17 ++ ([(ofI (IntKind.i64.wrap ((128 : Int) + (Int.tmod v16 (128 : Int)))))] : List UInt8))) none) (cond (decide ((2 * (v17.length + ([(ofI v16)] : List UInt8).length) + 192) * 1 ≤ 281474976710656)) (some (v17 ++ ([(ofI v16)] : List UInt8))) none)
def Fspec_Var (k : Nat) (a0 : Int) : Option (List UInt8) := (Fspec_l1In k a0 (0 : Int) (562949953421311 : Int)).bind fun r2 => cond (!r2) (some ([] : List UInt8)) (Fspec_Var.l2 k a0 ([] : List UInt8))
theorem ent128 : Enters Try.prog 128 := ⟨Try.f128, Try.func128, rfl, by decide⟩
set_option maxHeartbeats 8000000 in
set_option maxRecDepth 100000 in
theorem Fspec_Var_gives (k : Nat) (a0 : Int) (r : List UInt8) (H : Fspec_Var k a0 = some r) : Gives Try.prog 128 [V.one (cI a0)] [] [V.one (cS r)] [] := by
  refine Gives.intro Try.func128 rfl rfl rfl rfl ?_
  intro F hF hm
  unfold Fspec_Var at H
  obtain ⟨K, hK⟩ : ∃ K, k ≤ K := ⟨k, Nat.le_refl k⟩
  refine WpC.seq ?_
  refine WpC.regionL ?_
  refine L.assign hF rfl rfl rfl ?_
  refine L.nil ?_
  refine WpC.seq ?_
  refine WpC.seq ?_
  refine WpC.regionL ?_
  refine L.move hF rfl rfl rfl ?_
  obtain ⟨r2, hr2, H⟩ := bindS H
  refine L.call [false, false, false] [] [] 1 hF rfl rfl rfl ent152 rfl rfl rfl rfl rfl (Fspec_l1In_gives k  a0 (0 : Int) (562949953421311 : Int) r2 hr2) rfl ?_
  refine L.not hF rfl rfl rfl ?_
  refine L.nil ?_
  refine WpC.cond rfl (fun hc => ?_) (fun hc => ?_)
  · replace H := condT hc H
    refine WpC.seq ?_
    refine WpC.regionL ?_
    refine L.assign hF rfl rfl rfl ?_
    refine L.nil ?_
    refine WpC.ret ?_
    cases H
    exact Leaves.ret rfl rfl rfl ⟨rfl, rfl⟩
  · replace H := condF hc H
    refine WpC.skip ?_
    refine WpC.seq ?_
    refine WpC.regionL ?_
    refine L.buildSlice (e := eB) 2 ([] : List UInt8) Try.underlying50 info5 rfl rfl rfl hF rfl rfl rfl rfl rfl rfl rfl rfl ?_
    refine L.assign hF rfl rfl rfl ?_
    refine L.nil ?_
    refine WpC.seq ?_
    refine WpC.block ?_
    refine WpC.loopL (P := Try.prog) (fun n σ => ∃ v16 : Int, ∃ v17 : List UInt8, n ≤ K ∧ Fspec_Var.l2 n v16 v17 = some r ∧ σ = mkSt [(0, one (cI v16)), (3, one (Cell.own 0))] [(0, ⟨1, List.map eB v17⟩)] [] 1) k ⟨_, ⟨a0, ([] : List UInt8), by omega, H, rfl⟩, Le.mk [(0, 2)] hm rfl ⟨⟨_, rfl, rfl⟩, ⟨_, rfl, rfl⟩, trivial⟩ ⟨⟨_, rfl, rfl⟩, trivial⟩ trivial⟩ ?_
    clear H
    rintro k2 _ ⟨v16, v17, hk2, H, rfl⟩
    cases k2 with
    | zero => cases H
    | succ k2 =>
      rw [Fspec_Var.l2] at H
      refine WpC.seq ?_
      refine WpC.seq ?_
      refine WpC.regionL ?_
      refine L.move hF rfl rfl rfl ?_
      refine L.bin hF rfl rfl rfl rfl rfl rfl ?_
      refine L.nil ?_
      refine WpC.cond rfl (fun hc => ?_) (fun hc => ?_)
      · replace H := condT hc H
        refine WpC.skip ?_
        refine WpC.block ?_
        refine WpC.seq ?_
        refine WpC.regionL ?_
        refine L.move hF rfl rfl rfl ?_
        refine L.move hF rfl rfl rfl ?_
        refine L.rem hF rfl rfl rfl rfl (by decide) ?_
        refine L.bin hF rfl rfl rfl rfl rfl rfl ?_
        refine L.toB Try.underlying3 Try.underlying5 hF rfl rfl rfl ?_
        refine L.buildSlice (e := eB) 1 ([(ofI (IntKind.i64.wrap ((128 : Int) + (Int.tmod v16 (128 : Int)))))] : List UInt8) Try.underlying50 info5 rfl rfl rfl hF rfl rfl rfl rfl rfl rfl rfl rfl ?_
        obtain ⟨h18, H⟩ := condG H
        refine L.append (xs := v17) (ys := ([(ofI (IntKind.i64.wrap ((128 : Int) + (Int.tmod v16 (128 : Int)))))] : List UInt8)) (e := eB) 2 Try.underlying50 info5 rfl rfl hF rfl rfl rfl rfl rfl rfl rfl rfl (fun _ => rfl) (fun _ _ h1 h2 => by cases h1; cases h2; rfl) ⟨_, Try.underlying50⟩ (of_decide_eq_true h18) rfl rfl ?_
        refine L.assign hF rfl rfl rfl ?_
        refine L.nil ?_
        refine WpC.regionL ?_
        refine L.move hF rfl rfl rfl ?_
        refine L.quo hF rfl rfl rfl rfl (by decide) ?_
        refine L.assign hF rfl rfl rfl ?_
        refine L.nil ?_
        exact ⟨k2, _, by omega, ⟨(IntKind.i64.wrap (Int.tdiv v16 (128 : Int))), (v17 ++ ([(ofI (IntKind.i64.wrap ((128 : Int) + (Int.tmod v16 (128 : Int)))))] : List UInt8)), by omega, H, rfl⟩, Le.mk [(0, 2)] hm rfl ⟨⟨_, rfl, rfl⟩, ⟨_, rfl, rfl⟩, trivial⟩ ⟨⟨_, rfl, rfl⟩, trivial⟩ trivial⟩
      · replace H := condF hc H
        refine WpC.exit ?_
        refine WpC.seq ?_
        refine WpC.regionL ?_
        refine L.move hF rfl rfl rfl ?_
        refine L.move hF rfl rfl rfl ?_
        refine L.toB Try.underlying3 Try.underlying5 hF rfl rfl rfl ?_
        refine L.buildSlice (e := eB) 1 ([(ofI v16)] : List UInt8) Try.underlying50 info5 rfl rfl rfl hF rfl rfl rfl rfl rfl rfl rfl rfl ?_
        obtain ⟨h19, H⟩ := condG H
        refine L.append (xs := v17) (ys := ([(ofI v16)] : List UInt8)) (e := eB) 2 Try.underlying50 info5 rfl rfl hF rfl rfl rfl rfl rfl rfl rfl rfl (fun _ => rfl) (fun _ _ h1 h2 => by cases h1; cases h2; rfl) ⟨_, Try.underlying50⟩ (of_decide_eq_true h19) rfl rfl ?_
        refine L.b2s (xs := (v17 ++ ([(ofI v16)] : List UInt8))) Try.underlying50 Try.underlying5 Try.underlying9 hF rfl rfl rfl rfl ?_
        refine L.assign hF rfl rfl rfl ?_
        refine L.nil ?_
        refine WpC.ret ?_
        cases H
        exact Leaves.ret rfl rfl rfl ⟨rfl, rfl⟩
/-! ### Fspec_ReadVar -/
def Fspec_ReadVar.l26 (cl22 : (List UInt8) → Int → Option (Int × Int)) : Nat → (List UInt8) → Int → Int → Int → Int → Bool → Option (Int × Int)
  | 0, _, _, _, _, _, _ => none
  | k26 + 1, v553, v554, v555, v556, v557, v558 => cond (decide (v556 ≥ (0 : Int))) ((at? v553 v556).bind fun b560 => (Fspec_ReadVar.l26 cl22 k26) v553 v554 (IntKind.i64.wrap ((IntKind.i64.wrap (v555 * (128 : Int))) + (Int.tmod (b560.toNat : Int) (128 : Int)))) (IntKind.i64.wrap (v556 - (1 : Int))) v557 v558) ((Fspec_Var k26 v555).bind fun r561 => (cut? v553 (0 : Int) v554).bind fun b562 => cond (r561 == b562) (some (v555, v554)) (cl22 v553 (IntKind.i64.wrap (v554 + (1 : Int)))))
def Fspec_ReadVar.l22 : Nat → (List UInt8) → Int → Option (Int × Int)
  | 0, _, _ => none
  | k22 + 1, v465, v466 => cond (decide (v466 ≤ (7 : Int))) (cond (decide (v466 ≤ (v465.length : Int))) (Fspec_ReadVar.l26 (Fspec_ReadVar.l22 k22) k22 v465 v466 (0 : Int) (IntKind.i64.wrap (v466 - (1 : Int))) (v465.length : Int) (decide (v466 ≤ (v465.length : Int)))) (some ((0 : Int), (0 : Int)))) (some ((0 : Int), (0 : Int)))
def Fspec_ReadVar (k : Nat) (a0 : List UInt8) : Option (Int × Int) := Fspec_ReadVar.l22 k a0 (1 : Int)
theorem ent216 : Enters Try.prog 216 := ⟨Try.f216, Try.func216, rfl, by decide⟩
set_option maxHeartbeats 8000000 in
set_option maxRecDepth 100000 in
theorem Fspec_ReadVar_gives (k : Nat) (a0 : List UInt8) (r : Int × Int) (H : Fspec_ReadVar k a0 = some r) : Gives Try.prog 216 [V.one (cS a0)] [] [V.one (cI r.1), V.one (cI r.2)] [] := by
  refine Gives.intro Try.func216 rfl rfl rfl rfl ?_
  intro F hF hm
  unfold Fspec_ReadVar at H
  obtain ⟨K, hK⟩ : ∃ K, k ≤ K := ⟨k, Nat.le_refl k⟩
  refine WpC.seq ?_
  refine WpC.regionL ?_
  refine L.assign hF rfl rfl rfl ?_
  refine L.assign hF rfl rfl rfl ?_
  refine L.nil ?_
  refine WpC.seq ?_
  refine WpC.seq ?_
  refine WpC.regionL ?_
  refine L.assign hF rfl rfl rfl ?_
  refine L.nil ?_
  refine WpC.block ?_
  refine WpC.loopL (P := Try.prog) (fun n σ => ∃ v465 : List UInt8, ∃ v466 : Int, n ≤ K ∧ Fspec_ReadVar.l22 n v465 v466 = some r ∧ σ = mkSt [(0, one (cS v465)), (4, one (cI v466))] [] [] 0) k ⟨_, ⟨a0, (1 : Int), by omega, H, rfl⟩, Le.mk [] hm rfl ⟨⟨_, rfl, rfl⟩, ⟨_, rfl, rfl⟩, trivial⟩ trivial trivial⟩ ?_
  clear H
  rintro k22 _ ⟨v465, v466, hk22, H, rfl⟩
  cases k22 with
  | zero => cases H
  | succ k22 =>
    rw [Fspec_ReadVar.l22] at H
    refine WpC.seq ?_
    refine WpC.seq ?_
    refine WpC.regionL ?_
    refine L.move hF rfl rfl rfl ?_
    refine L.bin hF rfl rfl rfl rfl rfl rfl ?_
    refine L.move hF rfl rfl rfl ?_
    refine L.split (fun hc => ?_) (fun hc => ?_)
    · replace H := condT hc H
      refine L.move hF rfl rfl rfl ?_
      refine L.move hF rfl rfl rfl ?_
      refine L.lenS Try.underlying9 hF rfl rfl rfl ?_
      refine L.bin hF rfl rfl rfl rfl rfl rfl ?_
      refine L.pick hF rfl rfl rfl rfl ?_
      refine L.nil ?_
      refine WpC.cond rfl (fun hc => ?_) (fun hc => ?_)
      · replace H := condT hc H
        refine WpC.skip ?_
        refine WpC.seq ?_
        refine WpC.block ?_
        refine WpC.seq ?_
        refine WpC.regionL ?_
        refine L.assign hF rfl rfl rfl ?_
        refine L.nil ?_
        refine WpC.seq ?_
        refine WpC.seq ?_
        refine WpC.regionL ?_
        refine L.move hF rfl rfl rfl ?_
        refine L.bin hF rfl rfl rfl rfl rfl rfl ?_
        refine L.assign hF rfl rfl rfl ?_
        refine L.nil ?_
        refine WpC.block ?_
        refine WpC.loopL (P := Try.prog) (fun n σ => ∃ v553 : List UInt8, ∃ v554 : Int, ∃ v555 : Int, ∃ v556 : Int, ∃ v557 : Int, ∃ v558 : Bool, n ≤ K ∧ Fspec_ReadVar.l26 (Fspec_ReadVar.l22 k22) n v553 v554 v555 v556 v557 v558 = some r ∧ σ = mkSt [(0, one (cS v553)), (4, one (cI v554)), (5, one (cI v555)), (6, one (cI v556)), (10, one (cI v554)), (11, one (cS v553)), (12, one (cI v557)), (13, one (cL v558))] [] [] 0) k22 ⟨_, ⟨v465, v466, (0 : Int), (IntKind.i64.wrap (v466 - (1 : Int))), (v465.length : Int), (decide (v466 ≤ (v465.length : Int))), by omega, H, rfl⟩, Le.mk [] hm rfl ⟨⟨_, rfl, rfl⟩, ⟨_, rfl, rfl⟩, ⟨_, rfl, rfl⟩, ⟨_, rfl, rfl⟩, ⟨_, rfl, rfl⟩, ⟨_, rfl, rfl⟩, ⟨_, rfl, rfl⟩, ⟨_, rfl, rfl⟩, trivial⟩ trivial trivial⟩ ?_
        clear H
        rintro k26 _ ⟨v553, v554, v555, v556, v557, v558, hk26, H, rfl⟩
        cases k26 with
        | zero => cases H
        | succ k26 =>
          rw [Fspec_ReadVar.l26] at H
          refine WpC.seq ?_
          refine WpC.seq ?_
          refine WpC.regionL ?_
          refine L.move hF rfl rfl rfl ?_
          refine L.bin hF rfl rfl rfl rfl rfl rfl ?_
          refine L.nil ?_
          refine WpC.cond rfl (fun hc => ?_) (fun hc => ?_)
          · replace H := condT hc H
            refine WpC.skip ?_
            refine WpC.seq ?_
            refine WpC.block ?_
            refine WpC.regionL ?_
            refine L.move hF rfl rfl rfl ?_
            refine L.bin hF rfl rfl rfl rfl rfl rfl ?_
            refine L.move hF rfl rfl rfl ?_
            refine L.move hF rfl rfl rfl ?_
            obtain ⟨b560, hb560, H⟩ := bindS H
            refine L.idxS Try.underlying9 hF rfl rfl rfl rfl hb560 ?_
            refine L.ofB Try.underlying5 Try.underlying3 hF rfl rfl rfl ?_
            refine L.rem hF rfl rfl rfl rfl (by decide) ?_
            refine L.bin hF rfl rfl rfl rfl rfl rfl ?_
            refine L.assign hF rfl rfl rfl ?_
            refine L.nil ?_
            refine WpC.regionL ?_
            refine L.move hF rfl rfl rfl ?_
            refine L.bin hF rfl rfl rfl rfl rfl rfl ?_
            refine L.assign hF rfl rfl rfl ?_
            refine L.nil ?_
            exact ⟨k26, _, by omega, ⟨v553, v554, (IntKind.i64.wrap ((IntKind.i64.wrap (v555 * (128 : Int))) + (Int.tmod (b560.toNat : Int) (128 : Int)))), (IntKind.i64.wrap (v556 - (1 : Int))), v557, v558, by omega, H, rfl⟩, Le.mk [] hm rfl ⟨⟨_, rfl, rfl⟩, ⟨_, rfl, rfl⟩, ⟨_, rfl, rfl⟩, ⟨_, rfl, rfl⟩, ⟨_, rfl, rfl⟩, ⟨_, rfl, rfl⟩, ⟨_, rfl, rfl⟩, ⟨_, rfl, rfl⟩, trivial⟩ trivial trivial⟩
          · replace H := condF hc H
            refine WpC.exit ?_
            refine WpC.seq ?_
            obtain ⟨r561, hr561, H⟩ := bindS H
            obtain ⟨b562, hb562, H⟩ := bindS H
            refine A.begin mixed rfl rfl ?_
            intro W hI hO
            have n63 : W 0 #[true, true, true, true, true, true] (mkSt [(0, one (cS v553)), (4, one (cI v554)), (5, one (cI v555)), (10, one (cI v554)), (11, one (cS v553)), (12, one (cI v557)), (13, one (cL v558)), (36, one (cL (r561 == b562)))] [] [] 0) := by
              refine hI _ _ _ (A.done (by kernel_rfl) ?_)
              refine WpC.cond rfl (fun hc => ?_) (fun hc => ?_)
              · replace H := condT hc H
                refine WpC.seq ?_
                refine WpC.regionL ?_
                refine L.move hF rfl rfl rfl ?_
                refine L.move hF rfl rfl rfl ?_
                refine L.assign hF rfl rfl rfl ?_
                refine L.assign hF rfl rfl rfl ?_
                refine L.nil ?_
                refine WpC.ret ?_
                cases H
                exact Leaves.ret rfl rfl rfl ⟨rfl, rfl⟩
              · replace H := condF hc H
                refine WpC.skip ?_
                refine WpC.regionL ?_
                refine L.move hF rfl rfl rfl ?_
                refine L.bin hF rfl rfl rfl rfl rfl rfl ?_
                refine L.assign hF rfl rfl rfl ?_
                refine L.nil ?_
                exact ⟨k22, _, by omega, ⟨v553, (IntKind.i64.wrap (v554 + (1 : Int))), by omega, H, rfl⟩, Le.mk [] hm rfl ⟨⟨_, rfl, rfl⟩, ⟨_, rfl, rfl⟩, trivial⟩ trivial trivial⟩
            have n31 : W 1 #[true, true, true, true, true, false] (mkSt [(0, one (cS v553)), (4, one (cI v554)), (5, one (cI v555)), (10, one (cI v554)), (11, one (cS v553)), (12, one (cI v557)), (13, one (cL v558)), (32, one (cS r561)), (35, one (cS b562))] [] [] 0) := by
              refine hI _ _ _ ?_
              refine A.take 5 rfl (by kernel_rfl) (by kernel_rfl) (by kernel_rfl) rfl (Ca.bin rfl rfl (calm_str _ _ _ _ _ _)) (fun Q0 k0 => L.binS hF rfl rfl rfl rfl rfl (L.nil k0)) ?_
              exact A.on (hO _ _ _ n63) (Le.mk [] hm rfl ⟨⟨_, rfl, rfl⟩, ⟨_, rfl, rfl⟩, ⟨_, rfl, rfl⟩, ⟨_, rfl, rfl⟩, ⟨_, rfl, rfl⟩, ⟨_, rfl, rfl⟩, ⟨_, rfl, rfl⟩, ⟨_, rfl, rfl⟩, trivial⟩ trivial trivial)
            have n29 : W 2 #[true, false, true, true, true, false] (mkSt [(0, one (cS v553)), (4, one (cI v554)), (5, one (cI v555)), (10, one (cI v554)), (11, one (cS v553)), (12, one (cI v557)), (13, one (cL v558)), (31, one (cI v555)), (35, one (cS b562))] [] [] 0) := by
              refine hI _ _ _ ?_
              refine A.all [1] (by kernel_rfl) rfl ⟨⟨_, rfl, ?_⟩, trivial⟩
              · refine L.call [false] [] [] 0 hF rfl rfl rfl ent128 rfl rfl rfl rfl rfl (Fspec_Var_gives k26  v555 r561 hr561) rfl ?_
                refine L.nil ?_
                exact A.on (hO _ _ _ n31) (Le.mk [] hm rfl ⟨⟨_, rfl, rfl⟩, ⟨_, rfl, rfl⟩, ⟨_, rfl, rfl⟩, ⟨_, rfl, rfl⟩, ⟨_, rfl, rfl⟩, ⟨_, rfl, rfl⟩, ⟨_, rfl, rfl⟩, ⟨_, rfl, rfl⟩, ⟨_, rfl, rfl⟩, trivial⟩ trivial trivial)
            have n13 : W 3 #[true, false, true, true, false, false] (mkSt [(0, one (cS v553)), (4, one (cI v554)), (5, one (cI v555)), (10, one (cI v554)), (11, one (cS v553)), (12, one (cI v557)), (13, one (cL v558)), (31, one (cI v555)), (33, one (cS v553)), (34, one (cI v554))] [] [] 0) := by
              refine hI _ _ _ ?_
              refine A.take 4 rfl (by kernel_rfl) (by kernel_rfl) (by kernel_rfl) rfl (Ca.slice) (fun Q0 k0 => L.cutS Try.underlying9 hF rfl rfl rfl rfl rfl hb562 (L.nil k0)) ?_
              exact A.on (hO _ _ _ n29) (Le.mk [] hm rfl ⟨⟨_, rfl, rfl⟩, ⟨_, rfl, rfl⟩, ⟨_, rfl, rfl⟩, ⟨_, rfl, rfl⟩, ⟨_, rfl, rfl⟩, ⟨_, rfl, rfl⟩, ⟨_, rfl, rfl⟩, ⟨_, rfl, rfl⟩, ⟨_, rfl, rfl⟩, trivial⟩ trivial trivial)
            have n5 : W 4 #[true, false, true, false, false, false] (mkSt [(0, one (cS v553)), (4, one (cI v554)), (5, one (cI v555)), (10, one (cI v554)), (11, one (cS v553)), (12, one (cI v557)), (13, one (cL v558)), (31, one (cI v555)), (33, one (cS v553))] [] [] 0) := by
              refine hI _ _ _ ?_
              refine A.take 3 rfl (by kernel_rfl) (by kernel_rfl) (by kernel_rfl) rfl (Ca.move) (fun Q0 k0 => L.move hF rfl rfl rfl (L.nil k0)) ?_
              exact A.on (hO _ _ _ n13) (Le.mk [] hm rfl ⟨⟨_, rfl, rfl⟩, ⟨_, rfl, rfl⟩, ⟨_, rfl, rfl⟩, ⟨_, rfl, rfl⟩, ⟨_, rfl, rfl⟩, ⟨_, rfl, rfl⟩, ⟨_, rfl, rfl⟩, ⟨_, rfl, rfl⟩, ⟨_, rfl, rfl⟩, ⟨_, rfl, rfl⟩, trivial⟩ trivial trivial)
            have n1 : W 5 #[true, false, false, false, false, false] (mkSt [(0, one (cS v553)), (4, one (cI v554)), (5, one (cI v555)), (10, one (cI v554)), (11, one (cS v553)), (12, one (cI v557)), (13, one (cL v558)), (31, one (cI v555))] [] [] 0) := by
              refine hI _ _ _ ?_
              refine A.take 2 rfl (by kernel_rfl) (by kernel_rfl) (by kernel_rfl) rfl (Ca.move) (fun Q0 k0 => L.move hF rfl rfl rfl (L.nil k0)) ?_
              exact A.on (hO _ _ _ n5) (Le.mk [] hm rfl ⟨⟨_, rfl, rfl⟩, ⟨_, rfl, rfl⟩, ⟨_, rfl, rfl⟩, ⟨_, rfl, rfl⟩, ⟨_, rfl, rfl⟩, ⟨_, rfl, rfl⟩, ⟨_, rfl, rfl⟩, ⟨_, rfl, rfl⟩, ⟨_, rfl, rfl⟩, trivial⟩ trivial trivial)
            have n0 : W 6 #[false, false, false, false, false, false] (mkSt [(0, one (cS v553)), (4, one (cI v554)), (5, one (cI v555)), (10, one (cI v554)), (11, one (cS v553)), (12, one (cI v557)), (13, one (cL v558))] [] [] 0) := by
              refine hI _ _ _ ?_
              refine A.take 0 rfl (by kernel_rfl) (by kernel_rfl) (by kernel_rfl) rfl (Ca.move) (fun Q0 k0 => L.move hF rfl rfl rfl (L.nil k0)) ?_
              exact A.on (hO _ _ _ n1) (Le.mk [] hm rfl ⟨⟨_, rfl, rfl⟩, ⟨_, rfl, rfl⟩, ⟨_, rfl, rfl⟩, ⟨_, rfl, rfl⟩, ⟨_, rfl, rfl⟩, ⟨_, rfl, rfl⟩, ⟨_, rfl, rfl⟩, ⟨_, rfl, rfl⟩, trivial⟩ trivial trivial)
            exact hI _ _ _ (A.on (hO _ _ _ n0) (Le.mk [] hm rfl ⟨⟨_, rfl, rfl⟩, ⟨_, rfl, rfl⟩, ⟨_, rfl, rfl⟩, ⟨_, rfl, rfl⟩, ⟨_, rfl, rfl⟩, ⟨_, rfl, rfl⟩, ⟨_, rfl, rfl⟩, trivial⟩ trivial trivial))
      · replace H := condF hc H
        refine WpC.exit ?_
        refine WpC.seq ?_
        refine WpC.regionL ?_
        refine L.assign hF rfl rfl rfl ?_
        refine L.assign hF rfl rfl rfl ?_
        refine L.nil ?_
        refine WpC.ret ?_
        cases H
        exact Leaves.ret rfl rfl rfl ⟨rfl, rfl⟩
    · replace H := condF hc H
      refine L.off hF rfl rfl ?_
      refine L.off hF rfl rfl ?_
      refine L.off hF rfl rfl ?_
      refine L.off hF rfl rfl ?_
      refine L.pick hF rfl rfl rfl rfl ?_
      refine L.nil ?_
      refine WpC.cond rfl (fun hc => by cases hc) (fun _ => ?_)
      refine WpC.exit ?_
      refine WpC.seq ?_
      refine WpC.regionL ?_
      refine L.assign hF rfl rfl rfl ?_
      refine L.assign hF rfl rfl rfl ?_
      refine L.nil ?_
      refine WpC.ret ?_
      cases H
      exact Leaves.ret rfl rfl rfl ⟨rfl, rfl⟩
/-! ### Fspec_l2Term -/
def Fspec_l2Term.j16 (cl15 : (List UInt8) → Int → Int → Int → Int → Int → Int → Option (Int × Int)) (k : Nat) (v191 : List UInt8) (v192 : Int) (v193 : Int) (v194 : Int) (v195 : Int) (v196 : Int) (v197 : Int) : Option (Int × Int) := cl15 v191 v192 v193 v194 v195 v196 (IntKind.i64.wrap (v197 + (1 : Int)))
def Fspec_l2Term.l15 (cREC : (List UInt8) → Int → Int → Option (Int × Int)) : Nat → (List UInt8) → Int → Int → Int → Int → Int → Int → Option (Int × Int)
  | 0, _, _, _, _, _, _, _ => none
  | k15 + 1, v183, v184, v185, v186, v187, v188, v189 => cond (decide (v189 < v186)) ((cREC v183 v187 (IntKind.i64.wrap (v185 - (1 : Int)))).bind fun r198 => cond (r198.1 == (0 : Int)) (some ((0 : Int), (0 : Int))) (cond (decide (r198.2 > v188)) (Fspec_l2Term.j16 (Fspec_l2Term.l15 cREC k15) k15 v183 v184 v185 v186 (IntKind.i64.wrap (v187 + r198.1)) r198.2 v189) (Fspec_l2Term.j16 (Fspec_l2Term.l15 cREC k15) k15 v183 v184 v185 v186 (IntKind.i64.wrap (v187 + r198.1)) v188 v189))) (some ((IntKind.i64.wrap (v187 - v184)), (IntKind.i64.wrap ((1 : Int) + v188))))
def Fspec_l2Term : Nat → (List UInt8) → Int → Int → Option (Int × Int)
  | 0, _, _, _ => none
  | k + 1, a0, a1, a2 => cond (decide (a1 ≥ (a0.length : Int))) (some ((0 : Int), (0 : Int))) (cond (decide (a2 < (1 : Int))) (some ((0 : Int), (0 : Int))) ((cut? a0 (IntKind.i64.wrap (a1 + (1 : Int))) (a0.length : Int)).bind fun b1 => (Fspec_ReadVar k b1).bind fun r2 => cond (r2.2 == (0 : Int)) (some ((0 : Int), (0 : Int))) ((at? a0 a1).bind fun b101 => cond (b101 == (97 : UInt8)) (cond (decide (r2.1 > (40 : Int))) (some ((0 : Int), (0 : Int))) (cond (decide (r2.1 > (IntKind.i64.wrap ((a0.length : Int) - (IntKind.i64.wrap ((IntKind.i64.wrap (a1 + (1 : Int))) + r2.2)))))) (some ((0 : Int), (0 : Int))) (some ((IntKind.i64.wrap ((IntKind.i64.wrap ((1 : Int) + r2.2)) + r2.1)), (1 : Int))))) (cond (b101 == (107 : UInt8)) ((Fspec_l1In k r2.1 (1 : Int) (1000000 : Int)).bind fun r103 => cond (!r103) (some ((0 : Int), (0 : Int))) (some ((IntKind.i64.wrap ((1 : Int) + r2.2)), (1 : Int)))) (cond (b101 == (115 : UInt8)) (((Fspec_l2Term k) a0 (IntKind.i64.wrap ((IntKind.i64.wrap (a1 + (1 : Int))) + r2.2)) (IntKind.i64.wrap (a2 - (1 : Int)))).bind fun r104 => cond (r104.1 == (0 : Int)) (some ((0 : Int), (0 : Int))) ((Fspec_l1In k r2.1 (1 : Int) (1000000 : Int)).bind fun r108 => cond (!r108) (some ((0 : Int), (0 : Int))) (some ((IntKind.i64.wrap ((IntKind.i64.wrap ((1 : Int) + r2.2)) + r104.1)), (IntKind.i64.wrap ((1 : Int) + r104.2)))))) (cond (b101 == (108 : UInt8)) (cond (decide (r2.1 > (12 : Int))) (some ((0 : Int), (0 : Int))) (Fspec_l2Term.l15 (Fspec_l2Term k) k a0 a1 a2 r2.1 (IntKind.i64.wrap ((IntKind.i64.wrap (a1 + (1 : Int))) + r2.2)) (0 : Int) (0 : Int))) (some ((0 : Int), (0 : Int)))))))))
theorem ent230 : Enters Try.prog 230 := ⟨Try.f230, Try.func230, rfl, by decide⟩
set_option maxHeartbeats 8000000 in
set_option maxRecDepth 100000 in
theorem Fspec_l2Term_gives : ∀ (k : Nat) (a0 : List UInt8) (a1 : Int) (a2 : Int) (r : Int × Int) (H : Fspec_l2Term k a0 a1 a2 = some r), Gives Try.prog 230 [V.one (cS a0), V.one (cI a1), V.one (cI a2)] [] [V.one (cI r.1), V.one (cI r.2)] [] := by
  intro k
  induction k with
  | zero => intros; rename_i H; cases H
  | succ k ih =>
    intro a0 a1 a2 r H
    refine Gives.intro Try.func230 rfl rfl rfl rfl ?_
    intro F hF hm
    rw [Fspec_l2Term] at H
    obtain ⟨K, hK⟩ : ∃ K, k ≤ K := ⟨k, Nat.le_refl k⟩
    refine WpC.seq ?_
    refine WpC.regionL ?_
    refine L.assign hF rfl rfl rfl ?_
    refine L.assign hF rfl rfl rfl ?_
    refine L.nil ?_
    refine WpC.seq ?_
    refine WpC.seq ?_
    refine WpC.regionL ?_
    refine L.move hF rfl rfl rfl ?_
    refine L.move hF rfl rfl rfl ?_
    refine L.lenS Try.underlying9 hF rfl rfl rfl ?_
    refine L.bin hF rfl rfl rfl rfl rfl rfl ?_
    refine L.move hF rfl rfl rfl ?_
    refine L.split (fun hc => ?_) (fun hc => ?_)
    · replace H := condT hc H
      refine L.off hF rfl rfl ?_
      refine L.off hF rfl rfl ?_
      refine L.pick hF rfl rfl rfl rfl ?_
      refine L.nil ?_
      refine WpC.cond rfl (fun _ => ?_) (fun hc => by cases hc)
      refine WpC.seq ?_
      refine WpC.regionL ?_
      refine L.assign hF rfl rfl rfl ?_
      refine L.assign hF rfl rfl rfl ?_
      refine L.nil ?_
      refine WpC.ret ?_
      cases H
      exact Leaves.ret rfl rfl rfl ⟨rfl, rfl⟩
    · replace H := condF hc H
      refine L.move hF rfl rfl rfl ?_
      refine L.bin hF rfl rfl rfl rfl rfl rfl ?_
      refine L.pick hF rfl rfl rfl rfl ?_
      refine L.nil ?_
      refine WpC.cond rfl (fun hc => ?_) (fun hc => ?_)
      · replace H := condT hc H
        refine WpC.seq ?_
        refine WpC.regionL ?_
        refine L.assign hF rfl rfl rfl ?_
        refine L.assign hF rfl rfl rfl ?_
        refine L.nil ?_
        refine WpC.ret ?_
        cases H
        exact Leaves.ret rfl rfl rfl ⟨rfl, rfl⟩
      · replace H := condF hc H
        refine WpC.skip ?_
        refine WpC.seq ?_
        refine WpC.regionL ?_
        refine L.move hF rfl rfl rfl ?_
        refine L.move hF rfl rfl rfl ?_
        refine L.bin hF rfl rfl rfl rfl rfl rfl ?_
        obtain ⟨b1, hb1, H⟩ := bindS H
        refine L.cutS Try.underlying9 hF rfl rfl rfl rfl rfl hb1 ?_
        obtain ⟨r2, hr2, H⟩ := bindS H
        refine L.call [false] [] [] 3 hF rfl rfl rfl ent216 rfl rfl rfl rfl rfl (Fspec_ReadVar_gives k  b1 r2 hr2) rfl ?_
        refine L.move hF rfl rfl rfl ?_
        refine L.extract hF rfl rfl rfl rfl ?_
        refine L.extract hF rfl rfl rfl rfl ?_
        refine L.assign hF rfl rfl rfl ?_
        refine L.assign hF rfl rfl rfl ?_
        refine L.nil ?_
        refine WpC.seq ?_
        refine WpC.seq ?_
        refine WpC.regionL ?_
        refine L.move hF rfl rfl rfl ?_
        refine L.bin hF rfl rfl rfl rfl rfl rfl ?_
        refine L.nil ?_
        refine WpC.cond rfl (fun hc => ?_) (fun hc => ?_)
        · replace H := condT hc H
          refine WpC.seq ?_
          refine WpC.regionL ?_
          refine L.assign hF rfl rfl rfl ?_
          refine L.assign hF rfl rfl rfl ?_
          refine L.nil ?_
          refine WpC.ret ?_
          cases H
          exact Leaves.ret rfl rfl rfl ⟨rfl, rfl⟩
        · replace H := condF hc H
          refine WpC.skip ?_
          refine WpC.seq ?_
          refine WpC.regionL ?_
          refine L.move hF rfl rfl rfl ?_
          refine L.bin hF rfl rfl rfl rfl rfl rfl ?_
          refine L.move hF rfl rfl rfl ?_
          refine L.bin hF rfl rfl rfl rfl rfl rfl ?_
          refine L.assign hF rfl rfl rfl ?_
          refine L.nil ?_
          refine WpC.seq ?_
          refine WpC.seq ?_
          refine WpC.regionL ?_
          refine L.move hF rfl rfl rfl ?_
          refine L.move hF rfl rfl rfl ?_
          obtain ⟨b101, hb101, H⟩ := bindS H
          refine L.idxS Try.underlying9 hF rfl rfl rfl rfl hb101 ?_
          refine L.nil ?_
          refine WpC.block ?_
          refine WpC.seq ?_
          refine WpC.regionL ?_
          refine L.binB (a := b101) (b := (97 : UInt8)) hF rfl rfl rfl rfl rfl ?_
          refine L.assign hF rfl rfl rfl ?_
          refine L.nil ?_
          refine WpC.cond rfl (fun hc => ?_) (fun hc => ?_)
          · replace H := condT hc H
            refine WpC.seq ?_
            refine WpC.seq ?_
            refine WpC.regionL ?_
            refine L.move hF rfl rfl rfl ?_
            refine L.bin hF rfl rfl rfl rfl rfl rfl ?_
            refine L.move hF rfl rfl rfl ?_
            refine L.split (fun hc => ?_) (fun hc => ?_)
            · replace H := condT hc H
              refine L.off hF rfl rfl ?_
              refine L.off hF rfl rfl ?_
              refine L.off hF rfl rfl ?_
              refine L.off hF rfl rfl ?_
              refine L.off hF rfl rfl ?_
              refine L.off hF rfl rfl ?_
              refine L.pick hF rfl rfl rfl rfl ?_
              refine L.nil ?_
              refine WpC.cond rfl (fun _ => ?_) (fun hc => by cases hc)
              refine WpC.seq ?_
              refine WpC.regionL ?_
              refine L.assign hF rfl rfl rfl ?_
              refine L.assign hF rfl rfl rfl ?_
              refine L.nil ?_
              refine WpC.ret ?_
              cases H
              exact Leaves.ret rfl rfl rfl ⟨rfl, rfl⟩
            · replace H := condF hc H
              refine L.move hF rfl rfl rfl ?_
              refine L.move hF rfl rfl rfl ?_
              refine L.lenS Try.underlying9 hF rfl rfl rfl ?_
              refine L.move hF rfl rfl rfl ?_
              refine L.bin hF rfl rfl rfl rfl rfl rfl ?_
              refine L.bin hF rfl rfl rfl rfl rfl rfl ?_
              refine L.pick hF rfl rfl rfl rfl ?_
              refine L.nil ?_
              refine WpC.cond rfl (fun hc => ?_) (fun hc => ?_)
              · replace H := condT hc H
                refine WpC.seq ?_
                refine WpC.regionL ?_
                refine L.assign hF rfl rfl rfl ?_
                refine L.assign hF rfl rfl rfl ?_
                refine L.nil ?_
                refine WpC.ret ?_
                cases H
                exact Leaves.ret rfl rfl rfl ⟨rfl, rfl⟩
              · replace H := condF hc H
                refine WpC.skip ?_
                refine WpC.seq ?_
                refine WpC.regionL ?_
                refine L.move hF rfl rfl rfl ?_
                refine L.bin hF rfl rfl rfl rfl rfl rfl ?_
                refine L.move hF rfl rfl rfl ?_
                refine L.bin hF rfl rfl rfl rfl rfl rfl ?_
                refine L.assign hF rfl rfl rfl ?_
                refine L.assign hF rfl rfl rfl ?_
                refine L.nil ?_
                refine WpC.ret ?_
                cases H
                exact Leaves.ret rfl rfl rfl ⟨rfl, rfl⟩
          · replace H := condF hc H
            refine WpC.seq ?_
            refine WpC.regionL ?_
            refine L.binB (a := b101) (b := (107 : UInt8)) hF rfl rfl rfl rfl rfl ?_
            refine L.assign hF rfl rfl rfl ?_
            refine L.nil ?_
            refine WpC.cond rfl (fun hc => ?_) (fun hc => ?_)
            · replace H := condT hc H
              refine WpC.seq ?_
              refine WpC.seq ?_
              refine WpC.regionL ?_
              refine L.move hF rfl rfl rfl ?_
              obtain ⟨r103, hr103, H⟩ := bindS H
              refine L.call [false, false, false] [] [] 5 hF rfl rfl rfl ent152 rfl rfl rfl rfl rfl (Fspec_l1In_gives k  r2.1 (1 : Int) (1000000 : Int) r103 hr103) rfl ?_
              refine L.not hF rfl rfl rfl ?_
              refine L.nil ?_
              refine WpC.cond rfl (fun hc => ?_) (fun hc => ?_)
              · replace H := condT hc H
                refine WpC.seq ?_
                refine WpC.regionL ?_
                refine L.assign hF rfl rfl rfl ?_
                refine L.assign hF rfl rfl rfl ?_
                refine L.nil ?_
                refine WpC.ret ?_
                cases H
                exact Leaves.ret rfl rfl rfl ⟨rfl, rfl⟩
              · replace H := condF hc H
                refine WpC.skip ?_
                refine WpC.seq ?_
                refine WpC.regionL ?_
                refine L.move hF rfl rfl rfl ?_
                refine L.bin hF rfl rfl rfl rfl rfl rfl ?_
                refine L.assign hF rfl rfl rfl ?_
                refine L.assign hF rfl rfl rfl ?_
                refine L.nil ?_
                refine WpC.ret ?_
                cases H
                exact Leaves.ret rfl rfl rfl ⟨rfl, rfl⟩
            · replace H := condF hc H
              refine WpC.seq ?_
              refine WpC.regionL ?_
              refine L.binB (a := b101) (b := (115 : UInt8)) hF rfl rfl rfl rfl rfl ?_
              refine L.assign hF rfl rfl rfl ?_
              refine L.nil ?_
              refine WpC.cond rfl (fun hc => ?_) (fun hc => ?_)
              · replace H := condT hc H
                refine WpC.seq ?_
                refine WpC.regionL ?_
                refine L.move hF rfl rfl rfl ?_
                refine L.move hF rfl rfl rfl ?_
                refine L.move hF rfl rfl rfl ?_
                refine L.bin hF rfl rfl rfl rfl rfl rfl ?_
                obtain ⟨r104, hr104, H⟩ := bindS H
                refine L.call [false, false, false] [] [] 5 hF rfl rfl rfl ent230 rfl rfl rfl rfl rfl (ih  a0 (IntKind.i64.wrap ((IntKind.i64.wrap (a1 + (1 : Int))) + r2.2)) (IntKind.i64.wrap (a2 - (1 : Int))) r104 hr104) rfl ?_
                refine L.move hF rfl rfl rfl ?_
                refine L.extract hF rfl rfl rfl rfl ?_
                refine L.extract hF rfl rfl rfl rfl ?_
                refine L.assign hF rfl rfl rfl ?_
                refine L.assign hF rfl rfl rfl ?_
                refine L.nil ?_
                refine WpC.seq ?_
                refine WpC.seq ?_
                refine WpC.regionL ?_
                refine L.move hF rfl rfl rfl ?_
                refine L.bin hF rfl rfl rfl rfl rfl rfl ?_
                refine L.move hF rfl rfl rfl ?_
                refine L.split (fun hc => ?_) (fun hc => ?_)
                · replace H := condT hc H
                  refine L.off hF rfl rfl ?_
                  refine L.off hF rfl rfl ?_
                  refine L.off hF rfl rfl ?_
                  refine L.pick hF rfl rfl rfl rfl ?_
                  refine L.nil ?_
                  refine WpC.cond rfl (fun _ => ?_) (fun hc => by cases hc)
                  refine WpC.seq ?_
                  refine WpC.regionL ?_
                  refine L.assign hF rfl rfl rfl ?_
                  refine L.assign hF rfl rfl rfl ?_
                  refine L.nil ?_
                  refine WpC.ret ?_
                  cases H
                  exact Leaves.ret rfl rfl rfl ⟨rfl, rfl⟩
                · replace H := condF hc H
                  refine L.move hF rfl rfl rfl ?_
                  obtain ⟨r108, hr108, H⟩ := bindS H
                  refine L.call [false, false, false] [] [] 7 hF rfl rfl rfl ent152 rfl rfl rfl rfl rfl (Fspec_l1In_gives k  r2.1 (1 : Int) (1000000 : Int) r108 hr108) rfl ?_
                  refine L.not hF rfl rfl rfl ?_
                  refine L.pick hF rfl rfl rfl rfl ?_
                  refine L.nil ?_
                  refine WpC.cond rfl (fun hc => ?_) (fun hc => ?_)
                  · replace H := condT hc H
                    refine WpC.seq ?_
                    refine WpC.regionL ?_
                    refine L.assign hF rfl rfl rfl ?_
                    refine L.assign hF rfl rfl rfl ?_
                    refine L.nil ?_
                    refine WpC.ret ?_
                    cases H
                    exact Leaves.ret rfl rfl rfl ⟨rfl, rfl⟩
                  · replace H := condF hc H
                    refine WpC.skip ?_
                    refine WpC.seq ?_
                    refine WpC.regionL ?_
                    refine L.move hF rfl rfl rfl ?_
                    refine L.bin hF rfl rfl rfl rfl rfl rfl ?_
                    refine L.move hF rfl rfl rfl ?_
                    refine L.bin hF rfl rfl rfl rfl rfl rfl ?_
                    refine L.move hF rfl rfl rfl ?_
                    refine L.bin hF rfl rfl rfl rfl rfl rfl ?_
                    refine L.assign hF rfl rfl rfl ?_
                    refine L.assign hF rfl rfl rfl ?_
                    refine L.nil ?_
                    refine WpC.ret ?_
                    cases H
                    exact Leaves.ret rfl rfl rfl ⟨rfl, rfl⟩
              · replace H := condF hc H
                refine WpC.seq ?_
                refine WpC.regionL ?_
                refine L.binB (a := b101) (b := (108 : UInt8)) hF rfl rfl rfl rfl rfl ?_
                refine L.assign hF rfl rfl rfl ?_
                refine L.nil ?_
                refine WpC.cond rfl (fun hc => ?_) (fun hc => ?_)
                · replace H := condT hc H
                  refine WpC.seq ?_
                  refine WpC.seq ?_
                  refine WpC.regionL ?_
                  refine L.move hF rfl rfl rfl ?_
                  refine L.bin hF rfl rfl rfl rfl rfl rfl ?_
                  refine L.nil ?_
                  refine WpC.cond rfl (fun hc => ?_) (fun hc => ?_)
                  · replace H := condT hc H
                    refine WpC.seq ?_
                    refine WpC.regionL ?_
                    refine L.assign hF rfl rfl rfl ?_
                    refine L.assign hF rfl rfl rfl ?_
                    refine L.nil ?_
                    refine WpC.ret ?_
                    cases H
                    exact Leaves.ret rfl rfl rfl ⟨rfl, rfl⟩
                  · replace H := condF hc H
                    refine WpC.skip ?_
                    refine WpC.seq ?_
                    refine WpC.regionL ?_
                    refine L.assign hF rfl rfl rfl ?_
                    refine L.nil ?_
                    refine WpC.seq ?_
                    refine WpC.seq ?_
                    refine WpC.regionL ?_
                    refine L.assign hF rfl rfl rfl ?_
                    refine L.nil ?_
                    refine WpC.block ?_
                    refine WpC.loopL (P := Try.prog) (fun n σ => ∃ v183 : List UInt8, ∃ v184 : Int, ∃ v185 : Int, ∃ v186 : Int, ∃ v187 : Int, ∃ v188 : Int, ∃ v189 : Int, n ≤ K ∧ Fspec_l2Term.l15 (Fspec_l2Term k) n v183 v184 v185 v186 v187 v188 v189 = some r ∧ σ = mkSt [(0, one (cS v183)), (1, one (cI v184)), (2, one (cI v185)), (8, one (cI v186)), (10, one (cI v187)), (13, one (cI v188)), (14, one (cI v189))] [] [] 0) k ⟨_, ⟨a0, a1, a2, r2.1, (IntKind.i64.wrap ((IntKind.i64.wrap (a1 + (1 : Int))) + r2.2)), (0 : Int), (0 : Int), by omega, H, rfl⟩, Le.mk [] hm rfl ⟨⟨_, rfl, rfl⟩, ⟨_, rfl, rfl⟩, ⟨_, rfl, rfl⟩, ⟨_, rfl, rfl⟩, ⟨_, rfl, rfl⟩, ⟨_, rfl, rfl⟩, ⟨_, rfl, rfl⟩, trivial⟩ trivial trivial⟩ ?_
                    clear H
                    rintro k15 _ ⟨v183, v184, v185, v186, v187, v188, v189, hk15, H, rfl⟩
                    cases k15 with
                    | zero => cases H
                    | succ k15 =>
                      rw [Fspec_l2Term.l15] at H
                      refine WpC.seq ?_
                      refine WpC.seq ?_
                      refine WpC.regionL ?_
                      refine L.move hF rfl rfl rfl ?_
                      refine L.move hF rfl rfl rfl ?_
                      refine L.bin hF rfl rfl rfl rfl rfl rfl ?_
                      refine L.nil ?_
                      refine WpC.cond rfl (fun hc => ?_) (fun hc => ?_)
                      · replace H := condT hc H
                        refine WpC.skip ?_
                        refine WpC.join (fun σ => ∃ kj16 : Nat, ∃ v191 : List UInt8, ∃ v192 : Int, ∃ v193 : Int, ∃ v194 : Int, ∃ v195 : Int, ∃ v196 : Int, ∃ v197 : Int, kj16 ≤ K ∧ Fspec_l2Term.j16 (Fspec_l2Term.l15 (Fspec_l2Term k) k15) kj16 v191 v192 v193 v194 v195 v196 v197 = some r ∧ σ = mkSt [(0, one (cS v191)), (1, one (cI v192)), (2, one (cI v193)), (8, one (cI v194)), (10, one (cI v195)), (13, one (cI v196)), (14, one (cI v197))] [] [] 0) ?_ ?_
                        · rintro _ ⟨kj16, v191, v192, v193, v194, v195, v196, v197, hkj16, H, rfl⟩
                          unfold Fspec_l2Term.j16 at H
                          refine WpC.regionL ?_
                          refine L.move hF rfl rfl rfl ?_
                          refine L.bin hF rfl rfl rfl rfl rfl rfl ?_
                          refine L.assign hF rfl rfl rfl ?_
                          refine L.nil ?_
                          exact ⟨k15, _, by omega, ⟨v191, v192, v193, v194, v195, v196, (IntKind.i64.wrap (v197 + (1 : Int))), by omega, H, rfl⟩, Le.mk [] hm rfl ⟨⟨_, rfl, rfl⟩, ⟨_, rfl, rfl⟩, ⟨_, rfl, rfl⟩, ⟨_, rfl, rfl⟩, ⟨_, rfl, rfl⟩, ⟨_, rfl, rfl⟩, ⟨_, rfl, rfl⟩, trivial⟩ trivial trivial⟩
                        · refine WpC.block ?_
                          refine WpC.seq ?_
                          refine WpC.regionL ?_
                          refine L.move hF rfl rfl rfl ?_
                          refine L.move hF rfl rfl rfl ?_
                          refine L.move hF rfl rfl rfl ?_
                          refine L.bin hF rfl rfl rfl rfl rfl rfl ?_
                          obtain ⟨r198, hr198, H⟩ := bindS H
                          refine L.call [false, false, false] [] [] 0 hF rfl rfl rfl ent230 rfl rfl rfl rfl rfl (ih  v183 v187 (IntKind.i64.wrap (v185 - (1 : Int))) r198 hr198) rfl ?_
                          refine L.move hF rfl rfl rfl ?_
                          refine L.extract hF rfl rfl rfl rfl ?_
                          refine L.extract hF rfl rfl rfl rfl ?_
                          refine L.assign hF rfl rfl rfl ?_
                          refine L.assign hF rfl rfl rfl ?_
                          refine L.nil ?_
                          refine WpC.seq ?_
                          refine WpC.seq ?_
                          refine WpC.regionL ?_
                          refine L.move hF rfl rfl rfl ?_
                          refine L.bin hF rfl rfl rfl rfl rfl rfl ?_
                          refine L.nil ?_
                          refine WpC.cond rfl (fun hc => ?_) (fun hc => ?_)
                          · replace H := condT hc H
                            refine WpC.seq ?_
                            refine WpC.regionL ?_
                            refine L.assign hF rfl rfl rfl ?_
                            refine L.assign hF rfl rfl rfl ?_
                            refine L.nil ?_
                            refine WpC.ret ?_
                            cases H
                            exact Leaves.ret rfl rfl rfl ⟨rfl, rfl⟩
                          · replace H := condF hc H
                            refine WpC.skip ?_
                            refine WpC.seq ?_
                            refine WpC.regionL ?_
                            refine L.move hF rfl rfl rfl ?_
                            refine L.move hF rfl rfl rfl ?_
                            refine L.bin hF rfl rfl rfl rfl rfl rfl ?_
                            refine L.assign hF rfl rfl rfl ?_
                            refine L.nil ?_
                            refine WpC.seq ?_
                            refine WpC.regionL ?_
                            refine L.move hF rfl rfl rfl ?_
                            refine L.move hF rfl rfl rfl ?_
                            refine L.bin hF rfl rfl rfl rfl rfl rfl ?_
                            refine L.nil ?_
                            refine WpC.cond rfl (fun hc => ?_) (fun hc => ?_)
                            · replace H := condT hc H
                              refine WpC.regionL ?_
                              refine L.move hF rfl rfl rfl ?_
                              refine L.assign hF rfl rfl rfl ?_
                              refine L.nil ?_
                              exact ⟨_, ⟨k15, v183, v184, v185, v186, (IntKind.i64.wrap (v187 + r198.1)), r198.2, v189, by omega, H, rfl⟩, Le.mk [] hm rfl ⟨⟨_, rfl, rfl⟩, ⟨_, rfl, rfl⟩, ⟨_, rfl, rfl⟩, ⟨_, rfl, rfl⟩, ⟨_, rfl, rfl⟩, ⟨_, rfl, rfl⟩, ⟨_, rfl, rfl⟩, trivial⟩ trivial trivial⟩
                            · replace H := condF hc H
                              refine WpC.skip ?_
                              exact ⟨_, ⟨k15, v183, v184, v185, v186, (IntKind.i64.wrap (v187 + r198.1)), v188, v189, by omega, H, rfl⟩, Le.mk [] hm rfl ⟨⟨_, rfl, rfl⟩, ⟨_, rfl, rfl⟩, ⟨_, rfl, rfl⟩, ⟨_, rfl, rfl⟩, ⟨_, rfl, rfl⟩, ⟨_, rfl, rfl⟩, ⟨_, rfl, rfl⟩, trivial⟩ trivial trivial⟩
                      · replace H := condF hc H
                        refine WpC.exit ?_
                        refine WpC.seq ?_
                        refine WpC.regionL ?_
                        refine L.move hF rfl rfl rfl ?_
                        refine L.move hF rfl rfl rfl ?_
                        refine L.bin hF rfl rfl rfl rfl rfl rfl ?_
                        refine L.move hF rfl rfl rfl ?_
                        refine L.bin hF rfl rfl rfl rfl rfl rfl ?_
                        refine L.assign hF rfl rfl rfl ?_
                        refine L.assign hF rfl rfl rfl ?_
                        refine L.nil ?_
                        refine WpC.ret ?_
                        cases H
                        exact Leaves.ret rfl rfl rfl ⟨rfl, rfl⟩
                · replace H := condF hc H
                  refine WpC.skip ?_
                  refine WpC.seq ?_
                  refine WpC.regionL ?_
                  refine L.assign hF rfl rfl rfl ?_
                  refine L.assign hF rfl rfl rfl ?_
                  refine L.nil ?_
                  refine WpC.ret ?_
                  cases H
                  exact Leaves.ret rfl rfl rfl ⟨rfl, rfl⟩
/-! ### Fspec_TermOk -/
def Fspec_TermOk (k : Nat) (a0 : List UInt8) : Option Bool := (Fspec_l2Term k a0 (0 : Int) (8 : Int)).bind fun r1 => cond (decide (r1.1 > (0 : Int))) (cond (r1.1 == (a0.length : Int)) (some (decide (r1.1 ≤ (900 : Int)))) (some false)) (some false)
theorem ent229 : Enters Try.prog 229 := ⟨Try.f229, Try.func229, rfl, by decide⟩
set_option maxHeartbeats 8000000 in
set_option maxRecDepth 100000 in
theorem Fspec_TermOk_gives (k : Nat) (a0 : List UInt8) (r : Bool) (H : Fspec_TermOk k a0 = some r) : Gives Try.prog 229 [V.one (cS a0)] [] [V.one (cL r)] [] := by
  refine Gives.intro Try.func229 rfl rfl rfl rfl ?_
  intro F hF hm
  unfold Fspec_TermOk at H
  obtain ⟨K, hK⟩ : ∃ K, k ≤ K := ⟨k, Nat.le_refl k⟩
  refine WpC.seq ?_
  refine WpC.regionL ?_
  refine L.assign hF rfl rfl rfl ?_
  refine L.nil ?_
  refine WpC.seq ?_
  refine WpC.regionL ?_
  refine L.move hF rfl rfl rfl ?_
  obtain ⟨r1, hr1, H⟩ := bindS H
  refine L.call [false, false, false] [] [] 1 hF rfl rfl rfl ent230 rfl rfl rfl rfl rfl (Fspec_l2Term_gives k  a0 (0 : Int) (8 : Int) r1 hr1) rfl ?_
  refine L.move hF rfl rfl rfl ?_
  refine L.extract hF rfl rfl rfl rfl ?_
  refine L.extract hF rfl rfl rfl rfl ?_
  refine L.assign hF rfl rfl rfl ?_
  refine L.assign hF rfl rfl rfl ?_
  refine L.nil ?_
  refine WpC.seq ?_
  refine WpC.regionL ?_
  refine L.move hF rfl rfl rfl ?_
  refine L.bin hF rfl rfl rfl rfl rfl rfl ?_
  refine L.move hF rfl rfl rfl ?_
  refine L.split (fun hc => ?_) (fun hc => ?_)
  · replace H := condT hc H
    refine L.move hF rfl rfl rfl ?_
    refine L.move hF rfl rfl rfl ?_
    refine L.lenS Try.underlying9 hF rfl rfl rfl ?_
    refine L.bin hF rfl rfl rfl rfl rfl rfl ?_
    refine L.pick hF rfl rfl rfl rfl ?_
    refine L.move hF rfl rfl rfl ?_
    refine L.split (fun hc => ?_) (fun hc => ?_)
    · replace H := condT hc H
      refine L.move hF rfl rfl rfl ?_
      refine L.bin hF rfl rfl rfl rfl rfl rfl ?_
      refine L.pick hF rfl rfl rfl rfl ?_
      refine L.assign hF rfl rfl rfl ?_
      refine L.nil ?_
      refine WpC.ret ?_
      cases H
      exact Leaves.ret rfl rfl rfl ⟨rfl, rfl⟩
    · replace H := condF hc H
      refine L.off hF rfl rfl ?_
      refine L.off hF rfl rfl ?_
      refine L.pick hF rfl rfl rfl rfl ?_
      refine L.assign hF rfl rfl rfl ?_
      refine L.nil ?_
      refine WpC.ret ?_
      cases H
      exact Leaves.ret rfl rfl rfl ⟨rfl, rfl⟩
  · replace H := condF hc H
    refine L.off hF rfl rfl ?_
    refine L.off hF rfl rfl ?_
    refine L.off hF rfl rfl ?_
    refine L.off hF rfl rfl ?_
    refine L.pick hF rfl rfl rfl rfl ?_
    refine L.move hF rfl rfl rfl ?_
    refine L.off hF rfl rfl ?_
    refine L.off hF rfl rfl ?_
    refine L.pick hF rfl rfl rfl rfl ?_
    refine L.assign hF rfl rfl rfl ?_
    refine L.nil ?_
    refine WpC.ret ?_
    cases H
    exact Leaves.ret rfl rfl rfl ⟨rfl, rfl⟩
/-! ### Fspec_l2Ok -/
def Fspec_l2Ok (k : Nat) (a0 : List UInt8) : Option (List UInt8) := (Fspec_TermOk k a0).bind fun r2 => cond r2 (some a0) (some ([] : List UInt8))
theorem ent292 : Enters Try.prog 292 := ⟨Try.f292, Try.func292, rfl, by decide⟩
set_option maxHeartbeats 8000000 in
set_option maxRecDepth 100000 in
theorem Fspec_l2Ok_gives (k : Nat) (a0 : List UInt8) (r : List UInt8) (H : Fspec_l2Ok k a0 = some r) : Gives Try.prog 292 [V.one (cS a0)] [] [V.one (cS r)] [] := by
  refine Gives.intro Try.func292 rfl rfl rfl rfl ?_
  intro F hF hm
  unfold Fspec_l2Ok at H
  obtain ⟨K, hK⟩ : ∃ K, k ≤ K := ⟨k, Nat.le_refl k⟩
  refine WpC.seq ?_
  refine WpC.regionL ?_
  refine L.assign hF rfl rfl rfl ?_
  refine L.nil ?_
  refine WpC.seq ?_
  refine WpC.seq ?_
  refine WpC.regionL ?_
  refine L.move hF rfl rfl rfl ?_
  obtain ⟨r2, hr2, H⟩ := bindS H
  refine L.call [false] [] [] 1 hF rfl rfl rfl ent229 rfl rfl rfl rfl rfl (Fspec_TermOk_gives k  a0 r2 hr2) rfl ?_
  refine L.nil ?_
  refine WpC.cond rfl (fun hc => ?_) (fun hc => ?_)
  · replace H := condT hc H
    refine WpC.seq ?_
    refine WpC.regionL ?_
    refine L.move hF rfl rfl rfl ?_
    refine L.assign hF rfl rfl rfl ?_
    refine L.nil ?_
    refine WpC.ret ?_
    cases H
    exact Leaves.ret rfl rfl rfl ⟨rfl, rfl⟩
  · replace H := condF hc H
    refine WpC.skip ?_
    refine WpC.seq ?_
    refine WpC.regionL ?_
    refine L.assign hF rfl rfl rfl ?_
    refine L.nil ?_
    refine WpC.ret ?_
    cases H
    exact Leaves.ret rfl rfl rfl ⟨rfl, rfl⟩
/-! ### Fspec_Atom -/
def Fspec_Atom (k : Nat) (a0 : List UInt8) : Option (List UInt8) := cond (decide ((a0.length : Int) > (40 : Int))) (some ([] : List UInt8)) ((Fspec_Var k (a0.length : Int)).bind fun r1 => cond (decide (([97] : List UInt8).length + r1.length ≤ 9223372036854775807)) (cond (decide ((([97] : List UInt8) ++ r1).length + a0.length ≤ 9223372036854775807)) ((Fspec_l2Ok k ((([97] : List UInt8) ++ r1) ++ a0)).bind fun r4 => some r4) none) none)
theorem ent291 : Enters Try.prog 291 := ⟨Try.f291, Try.func291, rfl, by decide⟩
set_option maxHeartbeats 8000000 in
set_option maxRecDepth 100000 in
theorem Fspec_Atom_gives (k : Nat) (a0 : List UInt8) (r : List UInt8) (H : Fspec_Atom k a0 = some r) : Gives Try.prog 291 [V.one (cS a0)] [] [V.one (cS r)] [] := by
  refine Gives.intro Try.func291 rfl rfl rfl rfl ?_
  intro F hF hm
  unfold Fspec_Atom at H
  obtain ⟨K, hK⟩ : ∃ K, k ≤ K := ⟨k, Nat.le_refl k⟩
  refine WpC.seq ?_
  refine WpC.regionL ?_
  refine L.assign hF rfl rfl rfl ?_
  refine L.nil ?_
  refine WpC.seq ?_
  refine WpC.seq ?_
  refine WpC.regionL ?_
  refine L.move hF rfl rfl rfl ?_
  refine L.lenS Try.underlying9 hF rfl rfl rfl ?_
  refine L.bin hF rfl rfl rfl rfl rfl rfl ?_
  refine L.nil ?_
  refine WpC.cond rfl (fun hc => ?_) (fun hc => ?_)
  · replace H := condT hc H
    refine WpC.seq ?_
    refine WpC.regionL ?_
    refine L.assign hF rfl rfl rfl ?_
    refine L.nil ?_
    refine WpC.ret ?_
    cases H
    exact Leaves.ret rfl rfl rfl ⟨rfl, rfl⟩
  · replace H := condF hc H
    refine WpC.skip ?_
    refine WpC.seq ?_
    refine WpC.regionL ?_
    refine L.move hF rfl rfl rfl ?_
    refine L.lenS Try.underlying9 hF rfl rfl rfl ?_
    obtain ⟨r1, hr1, H⟩ := bindS H
    refine L.call [false] [] [] 1 hF rfl rfl rfl ent128 rfl rfl rfl rfl rfl (Fspec_Var_gives k  (a0.length : Int) r1 hr1) rfl ?_
    obtain ⟨h2, H⟩ := condG H
    refine L.catS hF rfl rfl rfl rfl (of_decide_eq_true h2) ?_
    refine L.move hF rfl rfl rfl ?_
    obtain ⟨h3, H⟩ := condG H
    refine L.catS hF rfl rfl rfl rfl (of_decide_eq_true h3) ?_
    obtain ⟨r4, hr4, H⟩ := bindS H
    refine L.call [false] [] [] 2 hF rfl rfl rfl ent292 rfl rfl rfl rfl rfl (Fspec_l2Ok_gives k  ((([97] : List UInt8) ++ r1) ++ a0) r4 hr4) rfl ?_
    refine L.assign hF rfl rfl rfl ?_
    refine L.nil ?_
    refine WpC.ret ?_
    cases H
    exact Leaves.ret rfl rfl rfl ⟨rfl, rfl⟩
/-! ### Fspec_Num -/
def Fspec_Num (k : Nat) (a0 : Int) : Option (List UInt8) := (Fspec_Var k a0).bind fun r1 => cond (r1 == ([] : List UInt8)) (some ([] : List UInt8)) ((Fspec_Atom k r1).bind fun r2 => some r2)
theorem ent270 : Enters Try.prog 270 := ⟨Try.f270, Try.func270, rfl, by decide⟩
set_option maxHeartbeats 8000000 in
set_option maxRecDepth 100000 in
theorem Fspec_Num_gives (k : Nat) (a0 : Int) (r : List UInt8) (H : Fspec_Num k a0 = some r) : Gives Try.prog 270 [V.one (cI a0)] [] [V.one (cS r)] [] := by
  refine Gives.intro Try.func270 rfl rfl rfl rfl ?_
  intro F hF hm
  unfold Fspec_Num at H
  obtain ⟨K, hK⟩ : ∃ K, k ≤ K := ⟨k, Nat.le_refl k⟩
  refine WpC.seq ?_
  refine WpC.regionL ?_
  refine L.assign hF rfl rfl rfl ?_
  refine L.nil ?_
  refine WpC.seq ?_
  refine WpC.regionL ?_
  refine L.move hF rfl rfl rfl ?_
  obtain ⟨r1, hr1, H⟩ := bindS H
  refine L.call [false] [] [] 1 hF rfl rfl rfl ent128 rfl rfl rfl rfl rfl (Fspec_Var_gives k  a0 r1 hr1) rfl ?_
  refine L.assign hF rfl rfl rfl ?_
  refine L.nil ?_
  refine WpC.seq ?_
  refine WpC.seq ?_
  refine WpC.regionL ?_
  refine L.move hF rfl rfl rfl ?_
  refine L.binS hF rfl rfl rfl rfl rfl ?_
  refine L.nil ?_
  refine WpC.cond rfl (fun hc => ?_) (fun hc => ?_)
  · replace H := condT hc H
    refine WpC.seq ?_
    refine WpC.regionL ?_
    refine L.assign hF rfl rfl rfl ?_
    refine L.nil ?_
    refine WpC.ret ?_
    cases H
    exact Leaves.ret rfl rfl rfl ⟨rfl, rfl⟩
  · replace H := condF hc H
    refine WpC.skip ?_
    refine WpC.seq ?_
    refine WpC.regionL ?_
    refine L.move hF rfl rfl rfl ?_
    obtain ⟨r2, hr2, H⟩ := bindS H
    refine L.call [false] [] [] 2 hF rfl rfl rfl ent291 rfl rfl rfl rfl rfl (Fspec_Atom_gives k  r1 r2 hr2) rfl ?_
    refine L.assign hF rfl rfl rfl ?_
    refine L.nil ?_
    refine WpC.ret ?_
    cases H
    exact Leaves.ret rfl rfl rfl ⟨rfl, rfl⟩
/-! ### Fspec_List -/
def Fspec_List.l2 : Nat → (List (List UInt8)) → (List UInt8) → Int → Option (List UInt8)
  | 0, _, _, _ => none
  | k2 + 1, v76, v77, v78 => cond (decide (v78 < (v76.length : Int))) ((at? v76 v78).bind fun b87 => (Fspec_TermOk k2 b87).bind fun r88 => cond (!r88) (some ([] : List UInt8)) ((at? v76 v78).bind fun b89 => cond (decide (v77.length + b89.length ≤ 9223372036854775807)) ((Fspec_List.l2 k2) v76 (v77 ++ b89) (IntKind.i64.wrap (v78 + (1 : Int)))) none)) ((Fspec_l2Ok k2 v77).bind fun r91 => some r91)
def Fspec_List (k : Nat) (a0 : List (List UInt8)) : Option (List UInt8) := cond (decide ((a0.length : Int) > (12 : Int))) (some ([] : List UInt8)) ((Fspec_Var k (a0.length : Int)).bind fun r1 => cond (decide (([108] : List UInt8).length + r1.length ≤ 9223372036854775807)) (Fspec_List.l2 k a0 (([108] : List UInt8) ++ r1) (0 : Int)) none)
theorem ent271 : Enters Try.prog 271 := ⟨Try.f271, Try.func271, rfl, by decide⟩
set_option maxHeartbeats 8000000 in
set_option maxRecDepth 100000 in
theorem Fspec_List_gives (k : Nat) (g0 : Bool) (a0 : List (List UInt8)) (r : List UInt8) (H : Fspec_List k a0 = some r) : Gives Try.prog 271 [V.one (Cell.sl g0 (List.map eS a0))] [] [V.one (cS r)] [] := by
  refine Gives.intro Try.func271 rfl rfl rfl rfl ?_
  intro F hF hm
  unfold Fspec_List at H
  obtain ⟨K, hK⟩ : ∃ K, k ≤ K := ⟨k, Nat.le_refl k⟩
  refine WpC.seq ?_
  refine WpC.regionL ?_
  refine L.assign hF rfl rfl rfl ?_
  refine L.nil ?_
  refine WpC.seq ?_
  refine WpC.seq ?_
  refine WpC.regionL ?_
  refine L.move hF rfl rfl rfl ?_
  refine L.lenR (xs := a0) (e := eS) Try.underlying120 hF rfl rfl rfl rfl ?_
  refine L.bin hF rfl rfl rfl rfl rfl rfl ?_
  refine L.nil ?_
  refine WpC.cond rfl (fun hc => ?_) (fun hc => ?_)
  · replace H := condT hc H
    refine WpC.seq ?_
    refine WpC.regionL ?_
    refine L.assign hF rfl rfl rfl ?_
    refine L.nil ?_
    refine WpC.ret ?_
    cases H
    exact Leaves.ret rfl rfl rfl ⟨rfl, rfl⟩
  · replace H := condF hc H
    refine WpC.skip ?_
    refine WpC.seq ?_
    refine WpC.regionL ?_
    refine L.move hF rfl rfl rfl ?_
    refine L.lenR (xs := a0) (e := eS) Try.underlying120 hF rfl rfl rfl rfl ?_
    obtain ⟨r1, hr1, H⟩ := bindS H
    refine L.call [false] [] [] 1 hF rfl rfl rfl ent128 rfl rfl rfl rfl rfl (Fspec_Var_gives k  (a0.length : Int) r1 hr1) rfl ?_
    obtain ⟨h2, H⟩ := condG H
    refine L.catS hF rfl rfl rfl rfl (of_decide_eq_true h2) ?_
    refine L.assign hF rfl rfl rfl ?_
    refine L.nil ?_
    refine WpC.seq ?_
    refine WpC.seq ?_
    refine WpC.regionL ?_
    refine L.assign hF rfl rfl rfl ?_
    refine L.nil ?_
    refine WpC.block ?_
    refine WpC.loopL (P := Try.prog) (fun n σ => ∃ v76 : List (List UInt8), ∃ v77 : List UInt8, ∃ v78 : Int, n ≤ K ∧ Fspec_List.l2 n v76 v77 v78 = some r ∧ σ = mkSt [(0, one (Cell.sl g0 (List.map eS v76))), (3, one (cS v77)), (4, one (cI v78))] [] [] 0) k ⟨_, ⟨a0, (([108] : List UInt8) ++ r1), (0 : Int), by omega, H, rfl⟩, Le.mk [] hm rfl ⟨⟨_, rfl, rfl⟩, ⟨_, rfl, rfl⟩, ⟨_, rfl, rfl⟩, trivial⟩ trivial trivial⟩ ?_
    clear H
    rintro k2 _ ⟨v76, v77, v78, hk2, H, rfl⟩
    cases k2 with
    | zero => cases H
    | succ k2 =>
      rw [Fspec_List.l2] at H
      refine WpC.seq ?_
      refine WpC.seq ?_
      refine WpC.regionL ?_
      refine L.move hF rfl rfl rfl ?_
      refine L.move hF rfl rfl rfl ?_
      refine L.lenR (xs := v76) (e := eS) Try.underlying120 hF rfl rfl rfl rfl ?_
      refine L.bin hF rfl rfl rfl rfl rfl rfl ?_
      refine L.nil ?_
      refine WpC.cond rfl (fun hc => ?_) (fun hc => ?_)
      · replace H := condT hc H
        refine WpC.skip ?_
        refine WpC.seq ?_
        refine WpC.block ?_
        refine WpC.seq ?_
        refine WpC.seq ?_
        refine WpC.regionL ?_
        refine L.move hF rfl rfl rfl ?_
        refine L.move hF rfl rfl rfl ?_
        obtain ⟨b87, hb87, H⟩ := bindS H
        refine L.idxR (xs := v76) (e := eS) Try.underlying120 info9 hF rfl rfl rfl rfl rfl hb87 rfl rfl ?_
        refine L.loadPe shape9 hF rfl rfl rfl rfl rfl ?_
        obtain ⟨r88, hr88, H⟩ := bindS H
        refine L.call [false] [] [] 0 hF rfl rfl rfl ent229 rfl rfl rfl rfl rfl (Fspec_TermOk_gives k2  b87 r88 hr88) rfl ?_
        refine L.not hF rfl rfl rfl ?_
        refine L.nil ?_
        refine WpC.cond rfl (fun hc => ?_) (fun hc => ?_)
        · replace H := condT hc H
          refine WpC.seq ?_
          refine WpC.regionL ?_
          refine L.assign hF rfl rfl rfl ?_
          refine L.nil ?_
          refine WpC.ret ?_
          cases H
          exact Leaves.ret rfl rfl rfl ⟨rfl, rfl⟩
        · replace H := condF hc H
          refine WpC.skip ?_
          refine WpC.regionL ?_
          refine L.move hF rfl rfl rfl ?_
          refine L.move hF rfl rfl rfl ?_
          refine L.move hF rfl rfl rfl ?_
          obtain ⟨b89, hb89, H⟩ := bindS H
          refine L.idxR (xs := v76) (e := eS) Try.underlying120 info9 hF rfl rfl rfl rfl rfl hb89 rfl rfl ?_
          refine L.loadPe shape9 hF rfl rfl rfl rfl rfl ?_
          obtain ⟨h90, H⟩ := condG H
          refine L.catS hF rfl rfl rfl rfl (of_decide_eq_true h90) ?_
          refine L.assign hF rfl rfl rfl ?_
          refine L.nil ?_
          refine WpC.regionL ?_
          refine L.move hF rfl rfl rfl ?_
          refine L.bin hF rfl rfl rfl rfl rfl rfl ?_
          refine L.assign hF rfl rfl rfl ?_
          refine L.nil ?_
          exact ⟨k2, _, by omega, ⟨v76, (v77 ++ b89), (IntKind.i64.wrap (v78 + (1 : Int))), by omega, H, rfl⟩, Le.mk [] hm rfl ⟨⟨_, rfl, rfl⟩, ⟨_, rfl, rfl⟩, ⟨_, rfl, rfl⟩, trivial⟩ trivial trivial⟩
      · replace H := condF hc H
        refine WpC.exit ?_
        refine WpC.seq ?_
        refine WpC.regionL ?_
        refine L.move hF rfl rfl rfl ?_
        obtain ⟨r91, hr91, H⟩ := bindS H
        refine L.call [false] [] [] 0 hF rfl rfl rfl ent292 rfl rfl rfl rfl rfl (Fspec_l2Ok_gives k2  v77 r91 hr91) rfl ?_
        refine L.assign hF rfl rfl rfl ?_
        refine L.nil ?_
        refine WpC.ret ?_
        cases H
        exact Leaves.ret rfl rfl rfl ⟨rfl, rfl⟩
/-! ### Fspec_Nums -/
def Fspec_Nums.j2 (k : Nat) (v27 : List (List UInt8)) : Option (List UInt8) := (Fspec_List k v27).bind fun r28 => some r28
def Fspec_Nums.l3 : Nat → (List Int) → (List (List UInt8)) → Int → Option (List UInt8)
  | 0, _, _, _ => none
  | k3 + 1, v46, v47, v48 => cond (decide (v48 < (v46.length : Int))) (cond (decide (v48 ≤ (12 : Int))) ((at? v46 v48).bind fun b52 => (Fspec_Num k3 b52).bind fun r53 => cond (r53 == ([] : List UInt8)) (some ([] : List UInt8)) (cond (decide ((2 * (v47.length + ([r53] : List (List UInt8)).length) + 192) * 16 ≤ 281474976710656)) ((Fspec_Nums.l3 k3) v46 (v47 ++ ([r53] : List (List UInt8))) (IntKind.i64.wrap (v48 + (1 : Int)))) none)) (Fspec_Nums.j2 k3 v47)) (Fspec_Nums.j2 k3 v47)
def Fspec_Nums (k : Nat) (a0 : List Int) : Option (List UInt8) := Fspec_Nums.l3 k a0 ([] : List (List UInt8)) (0 : Int)
theorem ent225 : Enters Try.prog 225 := ⟨Try.f225, Try.func225, rfl, by decide⟩
set_option maxHeartbeats 8000000 in
set_option maxRecDepth 100000 in
theorem Fspec_Nums_gives (k : Nat) (g0 : Bool) (a0 : List Int) (r : List UInt8) (H : Fspec_Nums k a0 = some r) : Gives Try.prog 225 [V.one (Cell.sl g0 (List.map eI a0))] [] [V.one (cS r)] [] := by
  refine Gives.intro Try.func225 rfl rfl rfl rfl ?_
  intro F hF hm
  unfold Fspec_Nums at H
  obtain ⟨K, hK⟩ : ∃ K, k ≤ K := ⟨k, Nat.le_refl k⟩
  refine WpC.seq ?_
  refine WpC.regionL ?_
  refine L.assign hF rfl rfl rfl ?_
  refine L.nil ?_
  refine WpC.seq ?_
  refine WpC.regionL ?_
  refine L.buildSlice (e := eS) 1 ([] : List (List UInt8)) Try.underlying120 info9 rfl rfl rfl hF rfl rfl rfl rfl rfl rfl rfl rfl ?_
  refine L.assign hF rfl rfl rfl ?_
  refine L.nil ?_
  refine WpC.join (fun σ => ∃ kj2 : Nat, ∃ v27 : List (List UInt8), kj2 ≤ K ∧ Fspec_Nums.j2 kj2 v27 = some r ∧ σ = mkSt [(3, one (Cell.own 0))] [(0, ⟨1, List.map eS v27⟩)] [] 1) ?_ ?_
  · rintro _ ⟨kj2, v27, hkj2, H, rfl⟩
    unfold Fspec_Nums.j2 at H
    refine WpC.seq ?_
    refine WpC.regionL ?_
    refine L.move hF rfl rfl rfl ?_
    obtain ⟨r28, hr28, H⟩ := bindS H
    refine L.call [false] [0] [] 1 hF rfl rfl rfl ent271 rfl rfl rfl rfl rfl (Fspec_List_gives kj2 false v27 r28 hr28) rfl ?_
    refine L.assign hF rfl rfl rfl ?_
    refine L.nil ?_
    refine WpC.ret ?_
    cases H
    exact Leaves.ret rfl rfl rfl ⟨rfl, rfl⟩
  · refine WpC.seq ?_
    refine WpC.regionL ?_
    refine L.assign hF rfl rfl rfl ?_
    refine L.nil ?_
    refine WpC.block ?_
    refine WpC.loopL (P := Try.prog) (fun n σ => ∃ v46 : List Int, ∃ v47 : List (List UInt8), ∃ v48 : Int, n ≤ K ∧ Fspec_Nums.l3 n v46 v47 v48 = some r ∧ σ = mkSt [(0, one (Cell.sl g0 (List.map eI v46))), (3, one (Cell.own 0)), (4, one (cI v48))] [(0, ⟨1, List.map eS v47⟩)] [] 1) k ⟨_, ⟨a0, ([] : List (List UInt8)), (0 : Int), by omega, H, rfl⟩, Le.mk [(0, 1)] hm rfl ⟨⟨_, rfl, rfl⟩, ⟨_, rfl, rfl⟩, ⟨_, rfl, rfl⟩, trivial⟩ ⟨⟨_, rfl, rfl⟩, trivial⟩ trivial⟩ ?_
    clear H
    rintro k3 _ ⟨v46, v47, v48, hk3, H, rfl⟩
    cases k3 with
    | zero => cases H
    | succ k3 =>
      rw [Fspec_Nums.l3] at H
      refine WpC.seq ?_
      refine WpC.seq ?_
      refine WpC.regionL ?_
      refine L.move hF rfl rfl rfl ?_
      refine L.move hF rfl rfl rfl ?_
      refine L.lenR (xs := v46) (e := eI) Try.underlying24 hF rfl rfl rfl rfl ?_
      refine L.bin hF rfl rfl rfl rfl rfl rfl ?_
      refine L.move hF rfl rfl rfl ?_
      refine L.split (fun hc => ?_) (fun hc => ?_)
      · replace H := condT hc H
        refine L.move hF rfl rfl rfl ?_
        refine L.bin hF rfl rfl rfl rfl rfl rfl ?_
        refine L.pick hF rfl rfl rfl rfl ?_
        refine L.nil ?_
        refine WpC.cond rfl (fun hc => ?_) (fun hc => ?_)
        · replace H := condT hc H
          refine WpC.skip ?_
          refine WpC.seq ?_
          refine WpC.block ?_
          refine WpC.seq ?_
          refine WpC.regionL ?_
          refine L.move hF rfl rfl rfl ?_
          refine L.move hF rfl rfl rfl ?_
          obtain ⟨b52, hb52, H⟩ := bindS H
          refine L.idxR (xs := v46) (e := eI) Try.underlying24 info3 hF rfl rfl rfl rfl rfl hb52 rfl rfl ?_
          refine L.loadPe shape3 hF rfl rfl rfl rfl rfl ?_
          obtain ⟨r53, hr53, H⟩ := bindS H
          refine L.call [false] [] [] 1 hF rfl rfl rfl ent270 rfl rfl rfl rfl rfl (Fspec_Num_gives k3  b52 r53 hr53) rfl ?_
          refine L.assign hF rfl rfl rfl ?_
          refine L.nil ?_
          refine WpC.seq ?_
          refine WpC.seq ?_
          refine WpC.regionL ?_
          refine L.move hF rfl rfl rfl ?_
          refine L.binS hF rfl rfl rfl rfl rfl ?_
          refine L.nil ?_
          refine WpC.cond rfl (fun hc => ?_) (fun hc => ?_)
          · replace H := condT hc H
            refine WpC.seq ?_
            refine WpC.regionL ?_
            refine L.assign hF rfl rfl rfl ?_
            refine L.nil ?_
            refine WpC.ret ?_
            cases H
            exact Leaves.ret rfl rfl rfl ⟨rfl, rfl⟩
          · replace H := condF hc H
            refine WpC.skip ?_
            refine WpC.regionL ?_
            refine L.move hF rfl rfl rfl ?_
            refine L.move hF rfl rfl rfl ?_
            refine L.buildSlice (e := eS) 2 ([r53] : List (List UInt8)) Try.underlying120 info9 rfl rfl rfl hF rfl rfl rfl rfl rfl rfl rfl rfl ?_
            obtain ⟨h54, H⟩ := condG H
            refine L.append (xs := v47) (ys := ([r53] : List (List UInt8))) (e := eS) 3 Try.underlying120 info9 rfl rfl hF rfl rfl rfl rfl rfl rfl rfl rfl (fun _ => rfl) (fun _ _ h1 h2 => by cases h1; cases h2; rfl) ⟨_, Try.underlying120⟩ (of_decide_eq_true h54) rfl rfl ?_
            refine L.assign hF rfl rfl rfl ?_
            refine L.nil ?_
            refine WpC.regionL ?_
            refine L.move hF rfl rfl rfl ?_
            refine L.bin hF rfl rfl rfl rfl rfl rfl ?_
            refine L.assign hF rfl rfl rfl ?_
            refine L.nil ?_
            exact ⟨k3, _, by omega, ⟨v46, (v47 ++ ([r53] : List (List UInt8))), (IntKind.i64.wrap (v48 + (1 : Int))), by omega, H, rfl⟩, Le.mk [(0, 3)] hm rfl ⟨⟨_, rfl, rfl⟩, ⟨_, rfl, rfl⟩, ⟨_, rfl, rfl⟩, trivial⟩ ⟨⟨_, rfl, rfl⟩, trivial⟩ trivial⟩
        · replace H := condF hc H
          refine WpC.exit ?_
          exact ⟨_, ⟨k3, v47, by omega, H, rfl⟩, Le.mk [(0, 0)] hm rfl ⟨⟨_, rfl, rfl⟩, trivial⟩ ⟨⟨_, rfl, rfl⟩, trivial⟩ trivial⟩
      · replace H := condF hc H
        refine L.off hF rfl rfl ?_
        refine L.off hF rfl rfl ?_
        refine L.pick hF rfl rfl rfl rfl ?_
        refine L.nil ?_
        refine WpC.cond rfl (fun hc => by cases hc) (fun _ => ?_)
        refine WpC.exit ?_
        exact ⟨_, ⟨k3, v47, by omega, H, rfl⟩, Le.mk [(0, 0)] hm rfl ⟨⟨_, rfl, rfl⟩, trivial⟩ ⟨⟨_, rfl, rfl⟩, trivial⟩ trivial⟩
/-! ### Fspec_ShowTimes -/
def Fspec_ShowTimes (k : Nat) (a0 : Timpl_Times) : Option (List UInt8) := (Fspec_TimesOk k a0).bind fun r2 => cond (!r2) (some ([] : List UInt8)) ((Fspec_Nums k ([a0.Auth, a0.Start, a0.End, a0.Renew] : List Int)).bind fun r3 => some r3)
theorem ent135 : Enters Try.prog 135 := ⟨Try.f135, Try.func135, rfl, by decide⟩
set_option maxHeartbeats 8000000 in
set_option maxRecDepth 100000 in
theorem Fspec_ShowTimes_gives (k : Nat) (a0 : Timpl_Times) (r : List UInt8) (H : Fspec_ShowTimes k a0 = some r) : Gives Try.prog 135 [V.agg [cI a0.Auth, cI a0.Start, cI a0.End, cI a0.Renew]] [] [V.one (cS r)] [] := by
  refine Gives.intro Try.func135 rfl rfl rfl rfl ?_
  intro F hF hm
  unfold Fspec_ShowTimes at H
  obtain ⟨K, hK⟩ : ∃ K, k ≤ K := ⟨k, Nat.le_refl k⟩
  refine WpC.seq ?_
  refine WpC.regionL ?_
  refine L.box 4 hF rfl rfl rfl rfl ?_
  refine L.assign hF rfl rfl rfl ?_
  refine L.nil ?_
  refine WpC.seq ?_
  refine WpC.seq ?_
  refine WpC.regionL ?_
  refine L.loadPtr shape65 hF rfl rfl rfl rfl rfl rfl ?_
  obtain ⟨r2, hr2, H⟩ := bindS H
  refine L.call [false] [] [] 5 hF rfl rfl rfl ent65 rfl rfl rfl rfl rfl (Fspec_TimesOk_gives k  a0 r2 hr2) rfl ?_
  refine L.not hF rfl rfl rfl ?_
  refine L.nil ?_
  refine WpC.cond rfl (fun hc => ?_) (fun hc => ?_)
  · replace H := condT hc H
    refine WpC.seq ?_
    refine WpC.regionL ?_
    refine L.assign hF rfl rfl rfl ?_
    refine L.nil ?_
    refine WpC.ret ?_
    cases H
    exact Leaves.ret rfl rfl rfl ⟨rfl, rfl⟩
  · replace H := condF hc H
    refine WpC.skip ?_
    refine WpC.seq ?_
    refine WpC.regionL ?_
    refine L.fieldAddr Try.underlying65 rfl info3 rfl hF rfl rfl rfl rfl rfl ?_
    refine L.loadPtr shape3 hF rfl rfl rfl rfl rfl rfl ?_
    refine L.fieldAddr Try.underlying65 rfl info3 rfl hF rfl rfl rfl rfl rfl ?_
    refine L.loadPtr shape3 hF rfl rfl rfl rfl rfl rfl ?_
    refine L.fieldAddr Try.underlying65 rfl info3 rfl hF rfl rfl rfl rfl rfl ?_
    refine L.loadPtr shape3 hF rfl rfl rfl rfl rfl rfl ?_
    refine L.fieldAddr Try.underlying65 rfl info3 rfl hF rfl rfl rfl rfl rfl ?_
    refine L.loadPtr shape3 hF rfl rfl rfl rfl rfl rfl ?_
    refine L.buildSlice (e := eI) 6 ([a0.Auth, a0.Start, a0.End, a0.Renew] : List Int) Try.underlying24 info3 rfl rfl rfl hF rfl rfl rfl rfl rfl rfl rfl rfl ?_
    obtain ⟨r3, hr3, H⟩ := bindS H
    refine L.call [false] [6] [] 7 hF rfl rfl rfl ent225 rfl rfl rfl rfl rfl (Fspec_Nums_gives k false ([a0.Auth, a0.Start, a0.End, a0.Renew] : List Int) r3 hr3) rfl ?_
    refine L.assign hF rfl rfl rfl ?_
    refine L.nil ?_
    refine WpC.ret ?_
    cases H
    exact Leaves.ret rfl rfl rfl ⟨rfl, rfl⟩
/-! ### Fspec_l1Text -/
def Fspec_l1Text.j26 (cl22 : (List UInt8) → Int → Int → (List UInt8) → Int → Int → Option (List UInt8 × Tspec_l1Cur)) (k : Nat) (v214 : List UInt8) (v215 : Int) (v216 : Int) (v217 : Int) (v218 : List UInt8) (v219 : Int) (v220 : Int) : Option (List UInt8 × Tspec_l1Cur) := cond (decide ((2 * (v214.length + ([(ofI v217)] : List UInt8).length) + 192) * 1 ≤ 281474976710656)) (cl22 (v214 ++ ([(ofI v217)] : List UInt8)) v215 (IntKind.i64.wrap (v216 - (1 : Int))) v218 v219 v220) none
def Fspec_l1Text.j25 (cl22 : (List UInt8) → Int → Int → (List UInt8) → Int → Int → Option (List UInt8 × Tspec_l1Cur)) (k : Nat) (v207 : List UInt8) (v208 : Int) (v209 : Int) (v210 : Int) (v211 : List UInt8) (v212 : Int) (v213 : Int) : Option (List UInt8 × Tspec_l1Cur) := cond (v208 == (2 : Int)) (Fspec_l1Text.j26 cl22 k v207 v208 v209 (IntKind.i64.wrap ((97 : Int) + (Int.tmod v210 (4 : Int)))) v211 v212 v213) (Fspec_l1Text.j26 cl22 k v207 v208 v209 v210 v211 v212 v213)
def Fspec_l1Text.l22 : Nat → (List UInt8) → Int → Int → (List UInt8) → Int → Int → Option (List UInt8 × Tspec_l1Cur)
  | 0, _, _, _, _, _, _ => none
  | k22 + 1, v184, v185, v186, v187, v188, v189 => cond (decide (v186 > (0 : Int))) ((Fspec_l1Byte k22 (⟨v187, v188, v189⟩ : Tspec_l1Cur)).bind fun r206 => cond (v185 == (1 : Int)) (Fspec_l1Text.j25 (Fspec_l1Text.l22 k22) k22 v184 v185 v186 (Int.tmod r206.1 (2 : Int)) r206.2.b r206.2.i r206.2.h) (Fspec_l1Text.j25 (Fspec_l1Text.l22 k22) k22 v184 v185 v186 r206.1 r206.2.b r206.2.i r206.2.h)) (some (v184, (⟨v187, v188, v189⟩ : Tspec_l1Cur)))
def Fspec_l1Text (k : Nat) (a1 : Int) (o0 : Tspec_l1Cur) : Option (List UInt8 × Tspec_l1Cur) := (Fspec_l1Below k (4 : Int) o0).bind fun r1 => (Fspec_l1Below k (IntKind.i64.wrap (a1 + (1 : Int))) r1.2).bind fun r112 => Fspec_l1Text.l22 k ([] : List UInt8) r1.1 r112.1 r112.2.b r112.2.i r112.2.h
theorem ent137 : Enters Try.prog 137 := ⟨Try.f137, Try.func137, rfl, by decide⟩
set_option maxHeartbeats 8000000 in
set_option maxRecDepth 100000 in
theorem Fspec_l1Text_gives (k : Nat) (a1 : Int) (o0 : Tspec_l1Cur) (r : List UInt8 × Tspec_l1Cur) (H : Fspec_l1Text k a1 o0 = some r) : Gives Try.prog 137 [V.one (Cell.ptr 0 0), V.one (cI a1)] [[Cell.sl true (List.map eB o0.b), cI o0.i, cI o0.h]] [V.one (cS r.1)] [[Cell.sl true (List.map eB r.2.b), cI r.2.i, cI r.2.h]] := by
  refine Gives.intro Try.func137 rfl rfl rfl rfl ?_
  intro F hF hm
  unfold Fspec_l1Text at H
  obtain ⟨K, hK⟩ : ∃ K, k ≤ K := ⟨k, Nat.le_refl k⟩
  refine WpC.seq ?_
  refine WpC.regionL ?_
  refine L.assign hF rfl rfl rfl ?_
  refine L.nil ?_
  refine WpC.seq ?_
  refine WpC.regionL ?_
  refine L.buildSlice (e := eB) 6 ([] : List UInt8) Try.underlying50 info5 rfl rfl rfl hF rfl rfl rfl rfl rfl rfl rfl rfl ?_
  refine L.assign hF rfl rfl rfl ?_
  refine L.nil ?_
  refine WpC.seq ?_
  refine WpC.regionL ?_
  refine L.move hF rfl rfl rfl ?_
  obtain ⟨r1, hr1, H⟩ := bindS H
  refine L.call [false, false] [] [0] 7 hF rfl rfl rfl ent132 rfl rfl rfl rfl rfl (Fspec_l1Below_gives k  (4 : Int) o0 r1 hr1) rfl ?_
  refine L.assign hF rfl rfl rfl ?_
  refine L.nil ?_
  refine WpC.seq ?_
  refine WpC.seq ?_
  refine WpC.regionL ?_
  refine L.move hF rfl rfl rfl ?_
  refine L.move hF rfl rfl rfl ?_
  refine L.bin hF rfl rfl rfl rfl rfl rfl ?_
  obtain ⟨r112, hr112, H⟩ := bindS H
  refine L.call [false, false] [] [0] 11 hF rfl rfl rfl ent132 rfl rfl rfl rfl rfl (Fspec_l1Below_gives k  (IntKind.i64.wrap (a1 + (1 : Int))) r1.2 r112 hr112) rfl ?_
  refine L.assign hF rfl rfl rfl ?_
  refine L.nil ?_
  refine WpC.block ?_
  refine WpC.loopL (P := Try.prog) (fun n σ => ∃ v184 : List UInt8, ∃ v185 : Int, ∃ v186 : Int, ∃ v187 : List UInt8, ∃ v188 : Int, ∃ v189 : Int, n ≤ K ∧ Fspec_l1Text.l22 n v184 v185 v186 v187 v188 v189 = some r ∧ σ = mkSt [(0, one (Cell.ptr 0 0)), (5, one (Cell.own 1)), (6, one (cI v185)), (7, one (cI v186))] [(1, ⟨1, List.map eB v184⟩)] [(0, [Cell.sl true (List.map eB v187), cI v188, cI v189])] 2) k ⟨_, ⟨([] : List UInt8), r1.1, r112.1, r112.2.b, r112.2.i, r112.2.h, by omega, H, rfl⟩, Le.mk [(0, 0), (1, 6)] hm rfl ⟨⟨_, rfl, rfl⟩, ⟨_, rfl, rfl⟩, ⟨_, rfl, rfl⟩, ⟨_, rfl, rfl⟩, trivial⟩ ⟨⟨_, rfl, rfl⟩, trivial⟩ ⟨⟨_, _, rfl, rfl, rfl⟩, trivial⟩⟩ ?_
  clear H
  rintro k22 _ ⟨v184, v185, v186, v187, v188, v189, hk22, H, rfl⟩
  cases k22 with
  | zero => cases H
  | succ k22 =>
    rw [Fspec_l1Text.l22] at H
    refine WpC.seq ?_
    refine WpC.seq ?_
    refine WpC.regionL ?_
    refine L.move hF rfl rfl rfl ?_
    refine L.bin hF rfl rfl rfl rfl rfl rfl ?_
    refine L.nil ?_
    refine WpC.cond rfl (fun hc => ?_) (fun hc => ?_)
    · replace H := condT hc H
      refine WpC.skip ?_
      refine WpC.seq ?_
      refine WpC.block ?_
      refine WpC.seq ?_
      refine WpC.regionL ?_
      refine L.move hF rfl rfl rfl ?_
      obtain ⟨r206, hr206, H⟩ := bindS H
      refine L.call [false] [] [0] 2 hF rfl rfl rfl ent221 rfl rfl rfl rfl rfl (Fspec_l1Byte_gives k22  (⟨v187, v188, v189⟩ : Tspec_l1Cur) r206 hr206) rfl ?_
      refine L.assign hF rfl rfl rfl ?_
      refine L.nil ?_
      refine WpC.join (fun σ => ∃ kj25 : Nat, ∃ v207 : List UInt8, ∃ v208 : Int, ∃ v209 : Int, ∃ v210 : Int, ∃ v211 : List UInt8, ∃ v212 : Int, ∃ v213 : Int, kj25 ≤ K ∧ Fspec_l1Text.j25 (Fspec_l1Text.l22 k22) kj25 v207 v208 v209 v210 v211 v212 v213 = some r ∧ σ = mkSt [(0, one (Cell.ptr 0 0)), (5, one (Cell.own 1)), (6, one (cI v208)), (7, one (cI v209)), (8, one (cI v210))] [(1, ⟨1, List.map eB v207⟩)] [(0, [Cell.sl true (List.map eB v211), cI v212, cI v213])] 2) ?_ ?_
      · rintro _ ⟨kj25, v207, v208, v209, v210, v211, v212, v213, hkj25, H, rfl⟩
        unfold Fspec_l1Text.j25 at H
        refine WpC.join (fun σ => ∃ kj26 : Nat, ∃ v214 : List UInt8, ∃ v215 : Int, ∃ v216 : Int, ∃ v217 : Int, ∃ v218 : List UInt8, ∃ v219 : Int, ∃ v220 : Int, kj26 ≤ K ∧ Fspec_l1Text.j26 (Fspec_l1Text.l22 k22) kj26 v214 v215 v216 v217 v218 v219 v220 = some r ∧ σ = mkSt [(0, one (Cell.ptr 0 0)), (5, one (Cell.own 1)), (6, one (cI v215)), (7, one (cI v216)), (8, one (cI v217))] [(1, ⟨1, List.map eB v214⟩)] [(0, [Cell.sl true (List.map eB v218), cI v219, cI v220])] 2) ?_ ?_
        · rintro _ ⟨kj26, v214, v215, v216, v217, v218, v219, v220, hkj26, H, rfl⟩
          unfold Fspec_l1Text.j26 at H
          refine WpC.regionL ?_
          refine L.move hF rfl rfl rfl ?_
          refine L.move hF rfl rfl rfl ?_
          refine L.toB Try.underlying3 Try.underlying5 hF rfl rfl rfl ?_
          refine L.buildSlice (e := eB) 2 ([(ofI v217)] : List UInt8) Try.underlying50 info5 rfl rfl rfl hF rfl rfl rfl rfl rfl rfl rfl rfl ?_
          obtain ⟨h221, H⟩ := condG H
          refine L.append (xs := v214) (ys := ([(ofI v217)] : List UInt8)) (e := eB) 3 Try.underlying50 info5 rfl rfl hF rfl rfl rfl rfl rfl rfl rfl rfl (fun _ => rfl) (fun _ _ h1 h2 => by cases h1; cases h2; rfl) ⟨_, Try.underlying50⟩ (of_decide_eq_true h221) rfl rfl ?_
          refine L.assign hF rfl rfl rfl ?_
          refine L.nil ?_
          refine WpC.regionL ?_
          refine L.move hF rfl rfl rfl ?_
          refine L.bin hF rfl rfl rfl rfl rfl rfl ?_
          refine L.assign hF rfl rfl rfl ?_
          refine L.nil ?_
          exact ⟨k22, _, by omega, ⟨(v214 ++ ([(ofI v217)] : List UInt8)), v215, (IntKind.i64.wrap (v216 - (1 : Int))), v218, v219, v220, by omega, H, rfl⟩, Le.mk [(0, 0), (1, 3)] hm rfl ⟨⟨_, rfl, rfl⟩, ⟨_, rfl, rfl⟩, ⟨_, rfl, rfl⟩, ⟨_, rfl, rfl⟩, trivial⟩ ⟨⟨_, rfl, rfl⟩, trivial⟩ ⟨⟨_, _, rfl, rfl, rfl⟩, trivial⟩⟩
        · refine WpC.seq ?_
          refine WpC.regionL ?_
          refine L.move hF rfl rfl rfl ?_
          refine L.bin hF rfl rfl rfl rfl rfl rfl ?_
          refine L.nil ?_
          refine WpC.cond rfl (fun hc => ?_) (fun hc => ?_)
          · replace H := condT hc H
            refine WpC.regionL ?_
            refine L.move hF rfl rfl rfl ?_
            refine L.rem hF rfl rfl rfl rfl (by decide) ?_
            refine L.bin hF rfl rfl rfl rfl rfl rfl ?_
            refine L.assign hF rfl rfl rfl ?_
            refine L.nil ?_
            exact ⟨_, ⟨kj25, v207, v208, v209, (IntKind.i64.wrap ((97 : Int) + (Int.tmod v210 (4 : Int)))), v211, v212, v213, by omega, H, rfl⟩, Le.mk [(0, 0), (1, 1)] hm rfl ⟨⟨_, rfl, rfl⟩, ⟨_, rfl, rfl⟩, ⟨_, rfl, rfl⟩, ⟨_, rfl, rfl⟩, ⟨_, rfl, rfl⟩, trivial⟩ ⟨⟨_, rfl, rfl⟩, trivial⟩ ⟨⟨_, _, rfl, rfl, rfl⟩, trivial⟩⟩
          · replace H := condF hc H
            refine WpC.skip ?_
            exact ⟨_, ⟨kj25, v207, v208, v209, v210, v211, v212, v213, by omega, H, rfl⟩, Le.mk [(0, 0), (1, 1)] hm rfl ⟨⟨_, rfl, rfl⟩, ⟨_, rfl, rfl⟩, ⟨_, rfl, rfl⟩, ⟨_, rfl, rfl⟩, ⟨_, rfl, rfl⟩, trivial⟩ ⟨⟨_, rfl, rfl⟩, trivial⟩ ⟨⟨_, _, rfl, rfl, rfl⟩, trivial⟩⟩
      · refine WpC.seq ?_
        refine WpC.regionL ?_
        refine L.move hF rfl rfl rfl ?_
        refine L.bin hF rfl rfl rfl rfl rfl rfl ?_
        refine L.nil ?_
        refine WpC.cond rfl (fun hc => ?_) (fun hc => ?_)
        · replace H := condT hc H
          refine WpC.regionL ?_
          refine L.move hF rfl rfl rfl ?_
          refine L.rem hF rfl rfl rfl rfl (by decide) ?_
          refine L.assign hF rfl rfl rfl ?_
          refine L.nil ?_
          exact ⟨_, ⟨k22, v184, v185, v186, (Int.tmod r206.1 (2 : Int)), r206.2.b, r206.2.i, r206.2.h, by omega, H, rfl⟩, Le.mk [(0, 0), (1, 1)] hm rfl ⟨⟨_, rfl, rfl⟩, ⟨_, rfl, rfl⟩, ⟨_, rfl, rfl⟩, ⟨_, rfl, rfl⟩, ⟨_, rfl, rfl⟩, trivial⟩ ⟨⟨_, rfl, rfl⟩, trivial⟩ ⟨⟨_, _, rfl, rfl, rfl⟩, trivial⟩⟩
        · replace H := condF hc H
          refine WpC.skip ?_
          exact ⟨_, ⟨k22, v184, v185, v186, r206.1, r206.2.b, r206.2.i, r206.2.h, by omega, H, rfl⟩, Le.mk [(0, 0), (1, 1)] hm rfl ⟨⟨_, rfl, rfl⟩, ⟨_, rfl, rfl⟩, ⟨_, rfl, rfl⟩, ⟨_, rfl, rfl⟩, ⟨_, rfl, rfl⟩, trivial⟩ ⟨⟨_, rfl, rfl⟩, trivial⟩ ⟨⟨_, _, rfl, rfl, rfl⟩, trivial⟩⟩
    · replace H := condF hc H
      refine WpC.exit ?_
      refine WpC.seq ?_
      refine WpC.regionL ?_
      refine L.move hF rfl rfl rfl ?_
      refine L.b2s (xs := v184) Try.underlying50 Try.underlying5 Try.underlying9 hF rfl rfl rfl rfl ?_
      refine L.assign hF rfl rfl rfl ?_
      refine L.nil ?_
      refine WpC.ret ?_
      cases H
      exact Leaves.ret rfl rfl rfl ⟨rfl, rfl⟩
/-! ### Fspec_l1Spoil -/
def Fspec_l1Spoil (k : Nat) (a1 : List UInt8) (o0 : Tspec_l1Cur) : Option (List UInt8 × Tspec_l1Cur) := cond ((a1.length : Int) == (0 : Int)) ((Fspec_l1Text k (3 : Int) o0).bind fun r2 => some (r2.1, r2.2)) ((Fspec_l1Below k (a1.length : Int) o0).bind fun r3 => (Fspec_l1Below k (4 : Int) r3.2).bind fun r14 => cond (r14.1 == (0 : Int)) ((cut? a1 (0 : Int) r3.1).bind fun b15 => (cut? a1 (IntKind.i64.wrap (r3.1 + (1 : Int))) (a1.length : Int)).bind fun b16 => cond (decide (b15.length + b16.length ≤ 9223372036854775807)) (some ((b15 ++ b16), r14.2)) none) (cond (r14.1 == (1 : Int)) ((cut? a1 (0 : Int) r3.1).bind fun b18 => (Fspec_l1Byte k r14.2).bind fun r19 => cond (decide (b18.length + ([(ofI r19.1)] : List UInt8).length ≤ 9223372036854775807)) ((cut? a1 r3.1 (a1.length : Int)).bind fun b21 => cond (decide ((b18 ++ ([(ofI r19.1)] : List UInt8)).length + b21.length ≤ 9223372036854775807)) (some (((b18 ++ ([(ofI r19.1)] : List UInt8)) ++ b21), r19.2)) none) none) (cond (r14.1 == (2 : Int)) ((cut? a1 (0 : Int) r3.1).bind fun b23 => some (b23, r14.2)) ((cut? a1 (0 : Int) r3.1).bind fun b24 => (at? a1 r3.1).bind fun b25 => (Fspec_l1Below k (255 : Int) r14.2).bind fun r26 => cond (decide (b24.length + ([(ofI (Go.bits .xor .i64 (b25.toNat : Int) (IntKind.i64.wrap ((1 : Int) + r26.1))))] : List UInt8).length ≤ 9223372036854775807)) ((cut? a1 (IntKind.i64.wrap (r3.1 + (1 : Int))) (a1.length : Int)).bind fun b28 => cond (decide ((b24 ++ ([(ofI (Go.bits .xor .i64 (b25.toNat : Int) (IntKind.i64.wrap ((1 : Int) + r26.1))))] : List UInt8)).length + b28.length ≤ 9223372036854775807)) (some (((b24 ++ ([(ofI (Go.bits .xor .i64 (b25.toNat : Int) (IntKind.i64.wrap ((1 : Int) + r26.1))))] : List UInt8)) ++ b28), r26.2)) none) none))))
theorem ent126 : Enters Try.prog 126 := ⟨Try.f126, Try.func126, rfl, by decide⟩
set_option maxHeartbeats 8000000 in
set_option maxRecDepth 100000 in
theorem Fspec_l1Spoil_gives (k : Nat) (a1 : List UInt8) (o0 : Tspec_l1Cur) (r : List UInt8 × Tspec_l1Cur) (H : Fspec_l1Spoil k a1 o0 = some r) : Gives Try.prog 126 [V.one (Cell.ptr 0 0), V.one (cS a1)] [[Cell.sl true (List.map eB o0.b), cI o0.i, cI o0.h]] [V.one (cS r.1)] [[Cell.sl true (List.map eB r.2.b), cI r.2.i, cI r.2.h]] := by
  refine Gives.intro Try.func126 rfl rfl rfl rfl ?_
  intro F hF hm
  unfold Fspec_l1Spoil at H
  obtain ⟨K, hK⟩ : ∃ K, k ≤ K := ⟨k, Nat.le_refl k⟩
  refine WpC.seq ?_
  refine WpC.regionL ?_
  refine L.assign hF rfl rfl rfl ?_
  refine L.nil ?_
  refine WpC.seq ?_
  refine WpC.seq ?_
  refine WpC.regionL ?_
  refine L.move hF rfl rfl rfl ?_
  refine L.lenS Try.underlying9 hF rfl rfl rfl ?_
  refine L.bin hF rfl rfl rfl rfl rfl rfl ?_
  refine L.nil ?_
  refine WpC.cond rfl (fun hc => ?_) (fun hc => ?_)
  · replace H := condT hc H
    refine WpC.seq ?_
    refine WpC.regionL ?_
    refine L.move hF rfl rfl rfl ?_
    obtain ⟨r2, hr2, H⟩ := bindS H
    refine L.call [false, false] [] [0] 6 hF rfl rfl rfl ent137 rfl rfl rfl rfl rfl (Fspec_l1Text_gives k  (3 : Int) o0 r2 hr2) rfl ?_
    refine L.assign hF rfl rfl rfl ?_
    refine L.nil ?_
    refine WpC.ret ?_
    cases H
    exact Leaves.ret rfl rfl rfl ⟨rfl, rfl⟩
  · replace H := condF hc H
    refine WpC.skip ?_
    refine WpC.seq ?_
    refine WpC.regionL ?_
    refine L.move hF rfl rfl rfl ?_
    refine L.move hF rfl rfl rfl ?_
    refine L.lenS Try.underlying9 hF rfl rfl rfl ?_
    obtain ⟨r3, hr3, H⟩ := bindS H
    refine L.call [false, false] [] [0] 6 hF rfl rfl rfl ent132 rfl rfl rfl rfl rfl (Fspec_l1Below_gives k  (a1.length : Int) o0 r3 hr3) rfl ?_
    refine L.assign hF rfl rfl rfl ?_
    refine L.nil ?_
    refine WpC.seq ?_
    refine WpC.seq ?_
    refine WpC.regionL ?_
    refine L.move hF rfl rfl rfl ?_
    obtain ⟨r14, hr14, H⟩ := bindS H
    refine L.call [false, false] [] [0] 10 hF rfl rfl rfl ent132 rfl rfl rfl rfl rfl (Fspec_l1Below_gives k  (4 : Int) r3.2 r14 hr14) rfl ?_
    refine L.nil ?_
    refine WpC.block ?_
    refine WpC.seq ?_
    refine WpC.regionL ?_
    refine L.bin hF rfl rfl rfl rfl rfl rfl ?_
    refine L.assign hF rfl rfl rfl ?_
    refine L.nil ?_
    refine WpC.cond rfl (fun hc => ?_) (fun hc => ?_)
    · replace H := condT hc H
      refine WpC.seq ?_
      refine S.begin mixed (by kernel_rfl) ?_
      refine S.st 0 rfl rfl ((Ca.move).quiet) (fun Q0 k0 => L.move hF rfl rfl rfl (L.nil k0)) ?_
      refine S.st 1 rfl rfl ((Ca.move).quiet) (fun Q0 k0 => L.move hF rfl rfl rfl (L.nil k0)) ?_
      obtain ⟨b15, hb15, H⟩ := bindS H
      refine S.st 2 rfl rfl ((Ca.slice).quiet) (fun Q0 k0 => L.cutS Try.underlying9 hF rfl rfl rfl rfl rfl hb15 (L.nil k0)) ?_
      refine S.st 3 rfl rfl ((Ca.move).quiet) (fun Q0 k0 => L.move hF rfl rfl rfl (L.nil k0)) ?_
      refine S.st 4 rfl rfl ((Ca.move).quiet) (fun Q0 k0 => L.move hF rfl rfl rfl (L.nil k0)) ?_
      refine S.st 5 rfl rfl ((Ca.bin rfl rfl (calm_int _ _ _ _ _ _ _ _)).quiet) (fun Q0 k0 => L.bin hF rfl rfl rfl rfl rfl rfl (L.nil k0)) ?_
      obtain ⟨b16, hb16, H⟩ := bindS H
      refine S.st 6 rfl rfl ((Ca.slice).quiet) (fun Q0 k0 => L.cutS Try.underlying9 hF rfl rfl rfl rfl rfl hb16 (L.nil k0)) ?_
      obtain ⟨h17, H⟩ := condG H
      refine S.st 7 rfl rfl ((Ca.bin rfl rfl (calm_str _ _ _ _ _ _)).quiet) (fun Q0 k0 => L.catS hF rfl rfl rfl rfl (of_decide_eq_true h17) (L.nil k0)) ?_
      refine S.st 8 rfl rfl ((Ca.assign).quiet) (fun Q0 k0 => L.assign hF rfl rfl rfl (L.nil k0)) ?_
      refine S.nil ?_
      refine WpC.ret ?_
      cases H
      exact Leaves.ret rfl rfl rfl ⟨rfl, rfl⟩
    · replace H := condF hc H
      refine WpC.seq ?_
      refine WpC.regionL ?_
      refine L.bin hF rfl rfl rfl rfl rfl rfl ?_
      refine L.assign hF rfl rfl rfl ?_
      refine L.nil ?_
      refine WpC.cond rfl (fun hc => ?_) (fun hc => ?_)
      · replace H := condT hc H
        refine WpC.seq ?_
        obtain ⟨b18, hb18, H⟩ := bindS H
        obtain ⟨r19, hr19, H⟩ := bindS H
        obtain ⟨h20, H⟩ := condG H
        obtain ⟨b21, hb21, H⟩ := bindS H
        obtain ⟨h22, H⟩ := condG H
        refine A.begin mixed rfl rfl ?_
        intro W hI hO
        have n16383 : W 0 #[true, true, true, true, true, true, true, true, true, true, true, true, true, true] (mkSt [(4, one (cS ((b18 ++ ([(ofI r19.1)] : List UInt8)) ++ b21)))] [] [(0, [Cell.sl true (List.map eB r19.2.b), cI r19.2.i, cI r19.2.h])] 1) := by
          refine hI _ _ _ (A.done (by kernel_rfl) ?_)
          refine WpC.ret ?_
          cases H
          exact Leaves.ret rfl rfl rfl ⟨rfl, rfl⟩
        have n8191 : W 1 #[true, true, true, true, true, true, true, true, true, true, true, true, true, false] (mkSt [(4, one (cS ([] : List UInt8))), (41, one (cS ((b18 ++ ([(ofI r19.1)] : List UInt8)) ++ b21)))] [] [(0, [Cell.sl true (List.map eB r19.2.b), cI r19.2.i, cI r19.2.h])] 1) := by
          refine hI _ _ _ ?_
          refine A.take 13 rfl (by kernel_rfl) (by kernel_rfl) (by kernel_rfl) rfl (Ca.assign) (fun Q0 k0 => L.assign hF rfl rfl rfl (L.nil k0)) ?_
          exact A.on (hO _ _ _ n16383) (Le.mk [(0, 0)] hm rfl ⟨⟨_, rfl, rfl⟩, trivial⟩ trivial ⟨⟨_, _, rfl, rfl, rfl⟩, trivial⟩)
        have n4095 : W 2 #[true, true, true, true, true, true, true, true, true, true, true, true, false, false] (mkSt [(4, one (cS ([] : List UInt8))), (37, one (cS (b18 ++ ([(ofI r19.1)] : List UInt8)))), (40, one (cS b21))] [] [(0, [Cell.sl true (List.map eB r19.2.b), cI r19.2.i, cI r19.2.h])] 1) := by
          refine hI _ _ _ ?_
          refine A.take 12 rfl (by kernel_rfl) (by kernel_rfl) (by kernel_rfl) rfl (Ca.bin rfl rfl (calm_str _ _ _ _ _ _)) (fun Q0 k0 => L.catS hF rfl rfl rfl rfl (of_decide_eq_true h22) (L.nil k0)) ?_
          exact A.on (hO _ _ _ n8191) (Le.mk [(0, 0)] hm rfl ⟨⟨_, rfl, rfl⟩, ⟨_, rfl, rfl⟩, trivial⟩ trivial ⟨⟨_, _, rfl, rfl, rfl⟩, trivial⟩)
        have n3839 : W 3 #[true, true, true, true, true, true, true, true, false, true, true, true, false, false] (mkSt [(4, one (cS ([] : List UInt8))), (31, one (cS b18)), (36, one (cS ([(ofI r19.1)] : List UInt8))), (40, one (cS b21))] [] [(0, [Cell.sl true (List.map eB r19.2.b), cI r19.2.i, cI r19.2.h])] 1) := by
          refine hI _ _ _ ?_
          refine A.take 8 rfl (by kernel_rfl) (by kernel_rfl) (by kernel_rfl) rfl (Ca.bin rfl rfl (calm_str _ _ _ _ _ _)) (fun Q0 k0 => L.catS hF rfl rfl rfl rfl (of_decide_eq_true h20) (L.nil k0)) ?_
          exact A.on (hO _ _ _ n4095) (Le.mk [(0, 0)] hm rfl ⟨⟨_, rfl, rfl⟩, ⟨_, rfl, rfl⟩, ⟨_, rfl, rfl⟩, trivial⟩ trivial ⟨⟨_, _, rfl, rfl, rfl⟩, trivial⟩)
        have n3711 : W 4 #[true, true, true, true, true, true, true, false, false, true, true, true, false, false] (mkSt [(4, one (cS ([] : List UInt8))), (31, one (cS b18)), (35, one (Cell.own 1)), (40, one (cS b21))] [(1, ⟨1, List.map eB ([(ofI r19.1)] : List UInt8)⟩)] [(0, [Cell.sl true (List.map eB r19.2.b), cI r19.2.i, cI r19.2.h])] 2) := by
          refine hI _ _ _ ?_
          refine A.all [7] (by kernel_rfl) rfl ⟨⟨_, rfl, ?_⟩, trivial⟩
          · refine L.b2s (xs := ([(ofI r19.1)] : List UInt8)) Try.underlying50 Try.underlying5 Try.underlying9 hF rfl rfl rfl rfl ?_
            refine L.nil ?_
            exact A.on (hO _ _ _ n3839) (Le.mk [(0, 0)] hm rfl ⟨⟨_, rfl, rfl⟩, ⟨_, rfl, rfl⟩, ⟨_, rfl, rfl⟩, ⟨_, rfl, rfl⟩, trivial⟩ trivial ⟨⟨_, _, rfl, rfl, rfl⟩, trivial⟩)
        have n3647 : W 5 #[true, true, true, true, true, true, false, false, false, true, true, true, false, false] (mkSt [(4, one (cS ([] : List UInt8))), (31, one (cS b18)), (34, one (cU (ofI r19.1))), (40, one (cS b21))] [] [(0, [Cell.sl true (List.map eB r19.2.b), cI r19.2.i, cI r19.2.h])] 1) := by
          refine hI _ _ _ ?_
          refine A.all [6] (by kernel_rfl) rfl ⟨⟨_, rfl, ?_⟩, trivial⟩
          · refine L.buildSlice (e := eB) 1 ([(ofI r19.1)] : List UInt8) Try.underlying50 info5 rfl rfl rfl hF rfl rfl rfl rfl rfl rfl rfl rfl ?_
            refine L.nil ?_
            exact A.on (hO _ _ _ n3711) (Le.mk [(0, 0), (1, 1)] hm rfl ⟨⟨_, rfl, rfl⟩, ⟨_, rfl, rfl⟩, ⟨_, rfl, rfl⟩, ⟨_, rfl, rfl⟩, trivial⟩ ⟨⟨_, rfl, rfl⟩, trivial⟩ ⟨⟨_, _, rfl, rfl, rfl⟩, trivial⟩)
        have n3615 : W 6 #[true, true, true, true, true, false, false, false, false, true, true, true, false, false] (mkSt [(4, one (cS ([] : List UInt8))), (31, one (cS b18)), (33, one (cI r19.1)), (40, one (cS b21))] [] [(0, [Cell.sl true (List.map eB r19.2.b), cI r19.2.i, cI r19.2.h])] 1) := by
          refine hI _ _ _ ?_
          refine A.take 5 rfl (by kernel_rfl) (by kernel_rfl) (by kernel_rfl) rfl (Ca.conv Try.underlying3 Try.underlying5 rfl) (fun Q0 k0 => L.toB Try.underlying3 Try.underlying5 hF rfl rfl rfl (L.nil k0)) ?_
          exact A.on (hO _ _ _ n3647) (Le.mk [(0, 0)] hm rfl ⟨⟨_, rfl, rfl⟩, ⟨_, rfl, rfl⟩, ⟨_, rfl, rfl⟩, ⟨_, rfl, rfl⟩, trivial⟩ trivial ⟨⟨_, _, rfl, rfl, rfl⟩, trivial⟩)
        have n3599 : W 7 #[true, true, true, true, false, false, false, false, false, true, true, true, false, false] (mkSt [(4, one (cS ([] : List UInt8))), (31, one (cS b18)), (32, one (Cell.ptr 0 0)), (40, one (cS b21))] [] [(0, [Cell.sl true (List.map eB r14.2.b), cI r14.2.i, cI r14.2.h])] 1) := by
          refine hI _ _ _ ?_
          refine A.all [4] (by kernel_rfl) rfl ⟨⟨_, rfl, ?_⟩, trivial⟩
          · refine L.call [false] [] [0] 1 hF rfl rfl rfl ent221 rfl rfl rfl rfl rfl (Fspec_l1Byte_gives k  r14.2 r19 hr19) rfl ?_
            refine L.nil ?_
            exact A.on (hO _ _ _ n3615) (Le.mk [(0, 0)] hm rfl ⟨⟨_, rfl, rfl⟩, ⟨_, rfl, rfl⟩, ⟨_, rfl, rfl⟩, ⟨_, rfl, rfl⟩, trivial⟩ trivial ⟨⟨_, _, rfl, rfl, rfl⟩, trivial⟩)
        have n1551 : W 8 #[true, true, true, true, false, false, false, false, false, true, true, false, false, false] (mkSt [(4, one (cS ([] : List UInt8))), (31, one (cS b18)), (32, one (Cell.ptr 0 0)), (38, one (cS a1)), (39, one (cI r3.1))] [] [(0, [Cell.sl true (List.map eB r14.2.b), cI r14.2.i, cI r14.2.h])] 1) := by
          refine hI _ _ _ ?_
          refine A.take 11 rfl (by kernel_rfl) (by kernel_rfl) (by kernel_rfl) rfl (Ca.slice) (fun Q0 k0 => L.cutS Try.underlying9 hF rfl rfl rfl rfl rfl hb21 (L.nil k0)) ?_
          exact A.on (hO _ _ _ n3599) (Le.mk [(0, 0)] hm rfl ⟨⟨_, rfl, rfl⟩, ⟨_, rfl, rfl⟩, ⟨_, rfl, rfl⟩, ⟨_, rfl, rfl⟩, trivial⟩ trivial ⟨⟨_, _, rfl, rfl, rfl⟩, trivial⟩)
        have n527 : W 9 #[true, true, true, true, false, false, false, false, false, true, false, false, false, false] (mkSt [(4, one (cS ([] : List UInt8))), (5, one (cI r3.1)), (31, one (cS b18)), (32, one (Cell.ptr 0 0)), (38, one (cS a1))] [] [(0, [Cell.sl true (List.map eB r14.2.b), cI r14.2.i, cI r14.2.h])] 1) := by
          refine hI _ _ _ ?_
          refine A.take 10 rfl (by kernel_rfl) (by kernel_rfl) (by kernel_rfl) rfl (Ca.move) (fun Q0 k0 => L.move hF rfl rfl rfl (L.nil k0)) ?_
          exact A.on (hO _ _ _ n1551) (Le.mk [(0, 0)] hm rfl ⟨⟨_, rfl, rfl⟩, ⟨_, rfl, rfl⟩, ⟨_, rfl, rfl⟩, ⟨_, rfl, rfl⟩, ⟨_, rfl, rfl⟩, trivial⟩ trivial ⟨⟨_, _, rfl, rfl, rfl⟩, trivial⟩)
        have n15 : W 10 #[true, true, true, true, false, false, false, false, false, false, false, false, false, false] (mkSt [(1, one (cS a1)), (4, one (cS ([] : List UInt8))), (5, one (cI r3.1)), (31, one (cS b18)), (32, one (Cell.ptr 0 0))] [] [(0, [Cell.sl true (List.map eB r14.2.b), cI r14.2.i, cI r14.2.h])] 1) := by
          refine hI _ _ _ ?_
          refine A.take 9 rfl (by kernel_rfl) (by kernel_rfl) (by kernel_rfl) rfl (Ca.move) (fun Q0 k0 => L.move hF rfl rfl rfl (L.nil k0)) ?_
          exact A.on (hO _ _ _ n527) (Le.mk [(0, 0)] hm rfl ⟨⟨_, rfl, rfl⟩, ⟨_, rfl, rfl⟩, ⟨_, rfl, rfl⟩, ⟨_, rfl, rfl⟩, ⟨_, rfl, rfl⟩, trivial⟩ trivial ⟨⟨_, _, rfl, rfl, rfl⟩, trivial⟩)
        have n7 : W 11 #[true, true, true, false, false, false, false, false, false, false, false, false, false, false] (mkSt [(0, one (Cell.ptr 0 0)), (1, one (cS a1)), (4, one (cS ([] : List UInt8))), (5, one (cI r3.1)), (31, one (cS b18))] [] [(0, [Cell.sl true (List.map eB r14.2.b), cI r14.2.i, cI r14.2.h])] 1) := by
          refine hI _ _ _ ?_
          refine A.take 3 rfl (by kernel_rfl) (by kernel_rfl) (by kernel_rfl) rfl (Ca.move) (fun Q0 k0 => L.move hF rfl rfl rfl (L.nil k0)) ?_
          exact A.on (hO _ _ _ n15) (Le.mk [(0, 0)] hm rfl ⟨⟨_, rfl, rfl⟩, ⟨_, rfl, rfl⟩, ⟨_, rfl, rfl⟩, ⟨_, rfl, rfl⟩, ⟨_, rfl, rfl⟩, trivial⟩ trivial ⟨⟨_, _, rfl, rfl, rfl⟩, trivial⟩)
        have n3 : W 12 #[true, true, false, false, false, false, false, false, false, false, false, false, false, false] (mkSt [(0, one (Cell.ptr 0 0)), (1, one (cS a1)), (4, one (cS ([] : List UInt8))), (5, one (cI r3.1)), (29, one (cS a1)), (30, one (cI r3.1))] [] [(0, [Cell.sl true (List.map eB r14.2.b), cI r14.2.i, cI r14.2.h])] 1) := by
          refine hI _ _ _ ?_
          refine A.take 2 rfl (by kernel_rfl) (by kernel_rfl) (by kernel_rfl) rfl (Ca.slice) (fun Q0 k0 => L.cutS Try.underlying9 hF rfl rfl rfl rfl rfl hb18 (L.nil k0)) ?_
          exact A.on (hO _ _ _ n7) (Le.mk [(0, 0)] hm rfl ⟨⟨_, rfl, rfl⟩, ⟨_, rfl, rfl⟩, ⟨_, rfl, rfl⟩, ⟨_, rfl, rfl⟩, ⟨_, rfl, rfl⟩, trivial⟩ trivial ⟨⟨_, _, rfl, rfl, rfl⟩, trivial⟩)
        have n1 : W 13 #[true, false, false, false, false, false, false, false, false, false, false, false, false, false] (mkSt [(0, one (Cell.ptr 0 0)), (1, one (cS a1)), (4, one (cS ([] : List UInt8))), (5, one (cI r3.1)), (29, one (cS a1))] [] [(0, [Cell.sl true (List.map eB r14.2.b), cI r14.2.i, cI r14.2.h])] 1) := by
          refine hI _ _ _ ?_
          refine A.take 1 rfl (by kernel_rfl) (by kernel_rfl) (by kernel_rfl) rfl (Ca.move) (fun Q0 k0 => L.move hF rfl rfl rfl (L.nil k0)) ?_
          exact A.on (hO _ _ _ n3) (Le.mk [(0, 0)] hm rfl ⟨⟨_, rfl, rfl⟩, ⟨_, rfl, rfl⟩, ⟨_, rfl, rfl⟩, ⟨_, rfl, rfl⟩, ⟨_, rfl, rfl⟩, ⟨_, rfl, rfl⟩, trivial⟩ trivial ⟨⟨_, _, rfl, rfl, rfl⟩, trivial⟩)
        have n0 : W 14 #[false, false, false, false, false, false, false, false, false, false, false, false, false, false] (mkSt [(0, one (Cell.ptr 0 0)), (1, one (cS a1)), (4, one (cS ([] : List UInt8))), (5, one (cI r3.1))] [] [(0, [Cell.sl true (List.map eB r14.2.b), cI r14.2.i, cI r14.2.h])] 1) := by
          refine hI _ _ _ ?_
          refine A.take 0 rfl (by kernel_rfl) (by kernel_rfl) (by kernel_rfl) rfl (Ca.move) (fun Q0 k0 => L.move hF rfl rfl rfl (L.nil k0)) ?_
          exact A.on (hO _ _ _ n1) (Le.mk [(0, 0)] hm rfl ⟨⟨_, rfl, rfl⟩, ⟨_, rfl, rfl⟩, ⟨_, rfl, rfl⟩, ⟨_, rfl, rfl⟩, ⟨_, rfl, rfl⟩, trivial⟩ trivial ⟨⟨_, _, rfl, rfl, rfl⟩, trivial⟩)
        exact hI _ _ _ (A.on (hO _ _ _ n0) (Le.mk [(0, 0)] hm rfl ⟨⟨_, rfl, rfl⟩, ⟨_, rfl, rfl⟩, ⟨_, rfl, rfl⟩, ⟨_, rfl, rfl⟩, trivial⟩ trivial ⟨⟨_, _, rfl, rfl, rfl⟩, trivial⟩))
      · replace H := condF hc H
        refine WpC.seq ?_
        refine WpC.regionL ?_
        refine L.bin hF rfl rfl rfl rfl rfl rfl ?_
        refine L.assign hF rfl rfl rfl ?_
        refine L.nil ?_
        refine WpC.cond rfl (fun hc => ?_) (fun hc => ?_)
        · replace H := condT hc H
          refine WpC.seq ?_
          refine WpC.regionL ?_
          refine L.move hF rfl rfl rfl ?_
          refine L.move hF rfl rfl rfl ?_
          obtain ⟨b23, hb23, H⟩ := bindS H
          refine L.cutS Try.underlying9 hF rfl rfl rfl rfl rfl hb23 ?_
          refine L.assign hF rfl rfl rfl ?_
          refine L.nil ?_
          refine WpC.ret ?_
          cases H
          exact Leaves.ret rfl rfl rfl ⟨rfl, rfl⟩
        · replace H := condF hc H
          refine WpC.skip ?_
          refine WpC.seq ?_
          obtain ⟨b24, hb24, H⟩ := bindS H
          obtain ⟨b25, hb25, H⟩ := bindS H
          obtain ⟨r26, hr26, H⟩ := bindS H
          obtain ⟨h27, H⟩ := condG H
          obtain ⟨b28, hb28, H⟩ := bindS H
          obtain ⟨h29, H⟩ := condG H
          refine A.begin mixed rfl rfl ?_
          intro W hI hO
          have n2097151 : W 0 #[true, true, true, true, true, true, true, true, true, true, true, true, true, true, true, true, true, true, true, true, true] (mkSt [(4, one (cS ((b24 ++ ([(ofI (Go.bits .xor .i64 (b25.toNat : Int) (IntKind.i64.wrap ((1 : Int) + r26.1))))] : List UInt8)) ++ b28)))] [] [(0, [Cell.sl true (List.map eB r26.2.b), cI r26.2.i, cI r26.2.h])] 1) := by
            refine hI _ _ _ (A.done (by kernel_rfl) ?_)
            refine WpC.ret ?_
            cases H
            exact Leaves.ret rfl rfl rfl ⟨rfl, rfl⟩
          have n1048575 : W 1 #[true, true, true, true, true, true, true, true, true, true, true, true, true, true, true, true, true, true, true, true, false] (mkSt [(4, one (cS ([] : List UInt8))), (66, one (cS ((b24 ++ ([(ofI (Go.bits .xor .i64 (b25.toNat : Int) (IntKind.i64.wrap ((1 : Int) + r26.1))))] : List UInt8)) ++ b28)))] [] [(0, [Cell.sl true (List.map eB r26.2.b), cI r26.2.i, cI r26.2.h])] 1) := by
            refine hI _ _ _ ?_
            refine A.take 20 rfl (by kernel_rfl) (by kernel_rfl) (by kernel_rfl) rfl (Ca.assign) (fun Q0 k0 => L.assign hF rfl rfl rfl (L.nil k0)) ?_
            exact A.on (hO _ _ _ n2097151) (Le.mk [(0, 0)] hm rfl ⟨⟨_, rfl, rfl⟩, trivial⟩ trivial ⟨⟨_, _, rfl, rfl, rfl⟩, trivial⟩)
          have n524287 : W 2 #[true, true, true, true, true, true, true, true, true, true, true, true, true, true, true, true, true, true, true, false, false] (mkSt [(4, one (cS ([] : List UInt8))), (61, one (cS (b24 ++ ([(ofI (Go.bits .xor .i64 (b25.toNat : Int) (IntKind.i64.wrap ((1 : Int) + r26.1))))] : List UInt8)))), (65, one (cS b28))] [] [(0, [Cell.sl true (List.map eB r26.2.b), cI r26.2.i, cI r26.2.h])] 1) := by
            refine hI _ _ _ ?_
            refine A.take 19 rfl (by kernel_rfl) (by kernel_rfl) (by kernel_rfl) rfl (Ca.bin rfl rfl (calm_str _ _ _ _ _ _)) (fun Q0 k0 => L.catS hF rfl rfl rfl rfl (of_decide_eq_true h29) (L.nil k0)) ?_
            exact A.on (hO _ _ _ n1048575) (Le.mk [(0, 0)] hm rfl ⟨⟨_, rfl, rfl⟩, ⟨_, rfl, rfl⟩, trivial⟩ trivial ⟨⟨_, _, rfl, rfl, rfl⟩, trivial⟩)
          have n507903 : W 3 #[true, true, true, true, true, true, true, true, true, true, true, true, true, true, false, true, true, true, true, false, false] (mkSt [(4, one (cS ([] : List UInt8))), (49, one (cS b24)), (60, one (cS ([(ofI (Go.bits .xor .i64 (b25.toNat : Int) (IntKind.i64.wrap ((1 : Int) + r26.1))))] : List UInt8))), (65, one (cS b28))] [] [(0, [Cell.sl true (List.map eB r26.2.b), cI r26.2.i, cI r26.2.h])] 1) := by
            refine hI _ _ _ ?_
            refine A.take 14 rfl (by kernel_rfl) (by kernel_rfl) (by kernel_rfl) rfl (Ca.bin rfl rfl (calm_str _ _ _ _ _ _)) (fun Q0 k0 => L.catS hF rfl rfl rfl rfl (of_decide_eq_true h27) (L.nil k0)) ?_
            exact A.on (hO _ _ _ n524287) (Le.mk [(0, 0)] hm rfl ⟨⟨_, rfl, rfl⟩, ⟨_, rfl, rfl⟩, ⟨_, rfl, rfl⟩, trivial⟩ trivial ⟨⟨_, _, rfl, rfl, rfl⟩, trivial⟩)
          have n499711 : W 4 #[true, true, true, true, true, true, true, true, true, true, true, true, true, false, false, true, true, true, true, false, false] (mkSt [(4, one (cS ([] : List UInt8))), (49, one (cS b24)), (59, one (Cell.own 1)), (65, one (cS b28))] [(1, ⟨1, List.map eB ([(ofI (Go.bits .xor .i64 (b25.toNat : Int) (IntKind.i64.wrap ((1 : Int) + r26.1))))] : List UInt8)⟩)] [(0, [Cell.sl true (List.map eB r26.2.b), cI r26.2.i, cI r26.2.h])] 2) := by
            refine hI _ _ _ ?_
            refine A.all [13] (by kernel_rfl) rfl ⟨⟨_, rfl, ?_⟩, trivial⟩
            · refine L.b2s (xs := ([(ofI (Go.bits .xor .i64 (b25.toNat : Int) (IntKind.i64.wrap ((1 : Int) + r26.1))))] : List UInt8)) Try.underlying50 Try.underlying5 Try.underlying9 hF rfl rfl rfl rfl ?_
              refine L.nil ?_
              exact A.on (hO _ _ _ n507903) (Le.mk [(0, 0)] hm rfl ⟨⟨_, rfl, rfl⟩, ⟨_, rfl, rfl⟩, ⟨_, rfl, rfl⟩, ⟨_, rfl, rfl⟩, trivial⟩ trivial ⟨⟨_, _, rfl, rfl, rfl⟩, trivial⟩)
          have n495615 : W 5 #[true, true, true, true, true, true, true, true, true, true, true, true, false, false, false, true, true, true, true, false, false] (mkSt [(4, one (cS ([] : List UInt8))), (49, one (cS b24)), (58, one (cU (ofI (Go.bits .xor .i64 (b25.toNat : Int) (IntKind.i64.wrap ((1 : Int) + r26.1)))))), (65, one (cS b28))] [] [(0, [Cell.sl true (List.map eB r26.2.b), cI r26.2.i, cI r26.2.h])] 1) := by
            refine hI _ _ _ ?_
            refine A.all [12] (by kernel_rfl) rfl ⟨⟨_, rfl, ?_⟩, trivial⟩
            · refine L.buildSlice (e := eB) 1 ([(ofI (Go.bits .xor .i64 (b25.toNat : Int) (IntKind.i64.wrap ((1 : Int) + r26.1))))] : List UInt8) Try.underlying50 info5 rfl rfl rfl hF rfl rfl rfl rfl rfl rfl rfl rfl ?_
              refine L.nil ?_
              exact A.on (hO _ _ _ n499711) (Le.mk [(0, 0), (1, 1)] hm rfl ⟨⟨_, rfl, rfl⟩, ⟨_, rfl, rfl⟩, ⟨_, rfl, rfl⟩, ⟨_, rfl, rfl⟩, trivial⟩ ⟨⟨_, rfl, rfl⟩, trivial⟩ ⟨⟨_, _, rfl, rfl, rfl⟩, trivial⟩)
          have n493567 : W 6 #[true, true, true, true, true, true, true, true, true, true, true, false, false, false, false, true, true, true, true, false, false] (mkSt [(4, one (cS ([] : List UInt8))), (49, one (cS b24)), (57, one (cI (Go.bits .xor .i64 (b25.toNat : Int) (IntKind.i64.wrap ((1 : Int) + r26.1))))), (65, one (cS b28))] [] [(0, [Cell.sl true (List.map eB r26.2.b), cI r26.2.i, cI r26.2.h])] 1) := by
            refine hI _ _ _ ?_
            refine A.take 11 rfl (by kernel_rfl) (by kernel_rfl) (by kernel_rfl) rfl (Ca.conv Try.underlying3 Try.underlying5 rfl) (fun Q0 k0 => L.toB Try.underlying3 Try.underlying5 hF rfl rfl rfl (L.nil k0)) ?_
            exact A.on (hO _ _ _ n495615) (Le.mk [(0, 0)] hm rfl ⟨⟨_, rfl, rfl⟩, ⟨_, rfl, rfl⟩, ⟨_, rfl, rfl⟩, ⟨_, rfl, rfl⟩, trivial⟩ trivial ⟨⟨_, _, rfl, rfl, rfl⟩, trivial⟩)
          have n492543 : W 7 #[true, true, true, true, true, true, true, true, true, true, false, false, false, false, false, true, true, true, true, false, false] (mkSt [(4, one (cS ([] : List UInt8))), (49, one (cS b24)), (53, one (cI (b25.toNat : Int))), (56, one (cI (IntKind.i64.wrap ((1 : Int) + r26.1)))), (65, one (cS b28))] [] [(0, [Cell.sl true (List.map eB r26.2.b), cI r26.2.i, cI r26.2.h])] 1) := by
            refine hI _ _ _ ?_
            refine A.take 10 rfl (by kernel_rfl) (by kernel_rfl) (by kernel_rfl) rfl (Ca.bin rfl rfl (calm_int _ _ _ _ _ _ _ _)) (fun Q0 k0 => L.bin hF rfl rfl rfl rfl rfl rfl (L.nil k0)) ?_
            exact A.on (hO _ _ _ n493567) (Le.mk [(0, 0)] hm rfl ⟨⟨_, rfl, rfl⟩, ⟨_, rfl, rfl⟩, ⟨_, rfl, rfl⟩, ⟨_, rfl, rfl⟩, trivial⟩ trivial ⟨⟨_, _, rfl, rfl, rfl⟩, trivial⟩)
          have n492031 : W 8 #[true, true, true, true, true, true, true, true, true, false, false, false, false, false, false, true, true, true, true, false, false] (mkSt [(4, one (cS ([] : List UInt8))), (49, one (cS b24)), (53, one (cI (b25.toNat : Int))), (55, one (cI r26.1)), (65, one (cS b28))] [] [(0, [Cell.sl true (List.map eB r26.2.b), cI r26.2.i, cI r26.2.h])] 1) := by
            refine hI _ _ _ ?_
            refine A.take 9 rfl (by kernel_rfl) (by kernel_rfl) (by kernel_rfl) rfl (Ca.bin rfl rfl (calm_int _ _ _ _ _ _ _ _)) (fun Q0 k0 => L.bin hF rfl rfl rfl rfl rfl rfl (L.nil k0)) ?_
            exact A.on (hO _ _ _ n492543) (Le.mk [(0, 0)] hm rfl ⟨⟨_, rfl, rfl⟩, ⟨_, rfl, rfl⟩, ⟨_, rfl, rfl⟩, ⟨_, rfl, rfl⟩, ⟨_, rfl, rfl⟩, trivial⟩ trivial ⟨⟨_, _, rfl, rfl, rfl⟩, trivial⟩)
          have n491775 : W 9 #[true, true, true, true, true, true, true, true, false, false, false, false, false, false, false, true, true, true, true, false, false] (mkSt [(4, one (cS ([] : List UInt8))), (49, one (cS b24)), (53, one (cI (b25.toNat : Int))), (54, one (Cell.ptr 0 0)), (65, one (cS b28))] [] [(0, [Cell.sl true (List.map eB r14.2.b), cI r14.2.i, cI r14.2.h])] 1) := by
            refine hI _ _ _ ?_
            refine A.all [8] (by kernel_rfl) rfl ⟨⟨_, rfl, ?_⟩, trivial⟩
            · refine L.call [false, false] [] [0] 1 hF rfl rfl rfl ent132 rfl rfl rfl rfl rfl (Fspec_l1Below_gives k  (255 : Int) r14.2 r26 hr26) rfl ?_
              refine L.nil ?_
              exact A.on (hO _ _ _ n492031) (Le.mk [(0, 0)] hm rfl ⟨⟨_, rfl, rfl⟩, ⟨_, rfl, rfl⟩, ⟨_, rfl, rfl⟩, ⟨_, rfl, rfl⟩, ⟨_, rfl, rfl⟩, trivial⟩ trivial ⟨⟨_, _, rfl, rfl, rfl⟩, trivial⟩)
          have n229631 : W 10 #[true, true, true, true, true, true, true, true, false, false, false, false, false, false, false, true, true, true, false, false, false] (mkSt [(4, one (cS ([] : List UInt8))), (49, one (cS b24)), (53, one (cI (b25.toNat : Int))), (54, one (Cell.ptr 0 0)), (62, one (cS a1)), (64, one (cI (IntKind.i64.wrap (r3.1 + (1 : Int)))))] [] [(0, [Cell.sl true (List.map eB r14.2.b), cI r14.2.i, cI r14.2.h])] 1) := by
            refine hI _ _ _ ?_
            refine A.take 18 rfl (by kernel_rfl) (by kernel_rfl) (by kernel_rfl) rfl (Ca.slice) (fun Q0 k0 => L.cutS Try.underlying9 hF rfl rfl rfl rfl rfl hb28 (L.nil k0)) ?_
            exact A.on (hO _ _ _ n491775) (Le.mk [(0, 0)] hm rfl ⟨⟨_, rfl, rfl⟩, ⟨_, rfl, rfl⟩, ⟨_, rfl, rfl⟩, ⟨_, rfl, rfl⟩, ⟨_, rfl, rfl⟩, trivial⟩ trivial ⟨⟨_, _, rfl, rfl, rfl⟩, trivial⟩)
          have n98559 : W 11 #[true, true, true, true, true, true, true, true, false, false, false, false, false, false, false, true, true, false, false, false, false] (mkSt [(4, one (cS ([] : List UInt8))), (49, one (cS b24)), (53, one (cI (b25.toNat : Int))), (54, one (Cell.ptr 0 0)), (62, one (cS a1)), (63, one (cI r3.1))] [] [(0, [Cell.sl true (List.map eB r14.2.b), cI r14.2.i, cI r14.2.h])] 1) := by
            refine hI _ _ _ ?_
            refine A.take 17 rfl (by kernel_rfl) (by kernel_rfl) (by kernel_rfl) rfl (Ca.bin rfl rfl (calm_int _ _ _ _ _ _ _ _)) (fun Q0 k0 => L.bin hF rfl rfl rfl rfl rfl rfl (L.nil k0)) ?_
            exact A.on (hO _ _ _ n229631) (Le.mk [(0, 0)] hm rfl ⟨⟨_, rfl, rfl⟩, ⟨_, rfl, rfl⟩, ⟨_, rfl, rfl⟩, ⟨_, rfl, rfl⟩, ⟨_, rfl, rfl⟩, ⟨_, rfl, rfl⟩, trivial⟩ trivial ⟨⟨_, _, rfl, rfl, rfl⟩, trivial⟩)
          have n33023 : W 12 #[true, true, true, true, true, true, true, true, false, false, false, false, false, false, false, true, false, false, false, false, false] (mkSt [(4, one (cS ([] : List UInt8))), (5, one (cI r3.1)), (49, one (cS b24)), (53, one (cI (b25.toNat : Int))), (54, one (Cell.ptr 0 0)), (62, one (cS a1))] [] [(0, [Cell.sl true (List.map eB r14.2.b), cI r14.2.i, cI r14.2.h])] 1) := by
            refine hI _ _ _ ?_
            refine A.take 16 rfl (by kernel_rfl) (by kernel_rfl) (by kernel_rfl) rfl (Ca.move) (fun Q0 k0 => L.move hF rfl rfl rfl (L.nil k0)) ?_
            exact A.on (hO _ _ _ n98559) (Le.mk [(0, 0)] hm rfl ⟨⟨_, rfl, rfl⟩, ⟨_, rfl, rfl⟩, ⟨_, rfl, rfl⟩, ⟨_, rfl, rfl⟩, ⟨_, rfl, rfl⟩, ⟨_, rfl, rfl⟩, trivial⟩ trivial ⟨⟨_, _, rfl, rfl, rfl⟩, trivial⟩)
          have n255 : W 13 #[true, true, true, true, true, true, true, true, false, false, false, false, false, false, false, false, false, false, false, false, false] (mkSt [(1, one (cS a1)), (4, one (cS ([] : List UInt8))), (5, one (cI r3.1)), (49, one (cS b24)), (53, one (cI (b25.toNat : Int))), (54, one (Cell.ptr 0 0))] [] [(0, [Cell.sl true (List.map eB r14.2.b), cI r14.2.i, cI r14.2.h])] 1) := by
            refine hI _ _ _ ?_
            refine A.take 15 rfl (by kernel_rfl) (by kernel_rfl) (by kernel_rfl) rfl (Ca.move) (fun Q0 k0 => L.move hF rfl rfl rfl (L.nil k0)) ?_
            exact A.on (hO _ _ _ n33023) (Le.mk [(0, 0)] hm rfl ⟨⟨_, rfl, rfl⟩, ⟨_, rfl, rfl⟩, ⟨_, rfl, rfl⟩, ⟨_, rfl, rfl⟩, ⟨_, rfl, rfl⟩, ⟨_, rfl, rfl⟩, trivial⟩ trivial ⟨⟨_, _, rfl, rfl, rfl⟩, trivial⟩)
          have n127 : W 14 #[true, true, true, true, true, true, true, false, false, false, false, false, false, false, false, false, false, false, false, false, false] (mkSt [(0, one (Cell.ptr 0 0)), (1, one (cS a1)), (4, one (cS ([] : List UInt8))), (5, one (cI r3.1)), (49, one (cS b24)), (53, one (cI (b25.toNat : Int)))] [] [(0, [Cell.sl true (List.map eB r14.2.b), cI r14.2.i, cI r14.2.h])] 1) := by
            refine hI _ _ _ ?_
            refine A.take 7 rfl (by kernel_rfl) (by kernel_rfl) (by kernel_rfl) rfl (Ca.move) (fun Q0 k0 => L.move hF rfl rfl rfl (L.nil k0)) ?_
            exact A.on (hO _ _ _ n255) (Le.mk [(0, 0)] hm rfl ⟨⟨_, rfl, rfl⟩, ⟨_, rfl, rfl⟩, ⟨_, rfl, rfl⟩, ⟨_, rfl, rfl⟩, ⟨_, rfl, rfl⟩, ⟨_, rfl, rfl⟩, trivial⟩ trivial ⟨⟨_, _, rfl, rfl, rfl⟩, trivial⟩)
          have n63 : W 15 #[true, true, true, true, true, true, false, false, false, false, false, false, false, false, false, false, false, false, false, false, false] (mkSt [(0, one (Cell.ptr 0 0)), (1, one (cS a1)), (4, one (cS ([] : List UInt8))), (5, one (cI r3.1)), (49, one (cS b24)), (52, one (cU b25))] [] [(0, [Cell.sl true (List.map eB r14.2.b), cI r14.2.i, cI r14.2.h])] 1) := by
            refine hI _ _ _ ?_
            refine A.take 6 rfl (by kernel_rfl) (by kernel_rfl) (by kernel_rfl) rfl (Ca.conv Try.underlying5 Try.underlying3 rfl) (fun Q0 k0 => L.ofB Try.underlying5 Try.underlying3 hF rfl rfl rfl (L.nil k0)) ?_
            exact A.on (hO _ _ _ n127) (Le.mk [(0, 0)] hm rfl ⟨⟨_, rfl, rfl⟩, ⟨_, rfl, rfl⟩, ⟨_, rfl, rfl⟩, ⟨_, rfl, rfl⟩, ⟨_, rfl, rfl⟩, ⟨_, rfl, rfl⟩, trivial⟩ trivial ⟨⟨_, _, rfl, rfl, rfl⟩, trivial⟩)
          have n31 : W 16 #[true, true, true, true, true, false, false, false, false, false, false, false, false, false, false, false, false, false, false, false, false] (mkSt [(0, one (Cell.ptr 0 0)), (1, one (cS a1)), (4, one (cS ([] : List UInt8))), (5, one (cI r3.1)), (49, one (cS b24)), (50, one (cS a1)), (51, one (cI r3.1))] [] [(0, [Cell.sl true (List.map eB r14.2.b), cI r14.2.i, cI r14.2.h])] 1) := by
            refine hI _ _ _ ?_
            refine A.take 5 rfl (by kernel_rfl) (by kernel_rfl) (by kernel_rfl) rfl (Ca.index) (fun Q0 k0 => L.idxS Try.underlying9 hF rfl rfl rfl rfl hb25 (L.nil k0)) ?_
            exact A.on (hO _ _ _ n63) (Le.mk [(0, 0)] hm rfl ⟨⟨_, rfl, rfl⟩, ⟨_, rfl, rfl⟩, ⟨_, rfl, rfl⟩, ⟨_, rfl, rfl⟩, ⟨_, rfl, rfl⟩, ⟨_, rfl, rfl⟩, trivial⟩ trivial ⟨⟨_, _, rfl, rfl, rfl⟩, trivial⟩)
          have n15 : W 17 #[true, true, true, true, false, false, false, false, false, false, false, false, false, false, false, false, false, false, false, false, false] (mkSt [(0, one (Cell.ptr 0 0)), (1, one (cS a1)), (4, one (cS ([] : List UInt8))), (5, one (cI r3.1)), (49, one (cS b24)), (50, one (cS a1))] [] [(0, [Cell.sl true (List.map eB r14.2.b), cI r14.2.i, cI r14.2.h])] 1) := by
            refine hI _ _ _ ?_
            refine A.take 4 rfl (by kernel_rfl) (by kernel_rfl) (by kernel_rfl) rfl (Ca.move) (fun Q0 k0 => L.move hF rfl rfl rfl (L.nil k0)) ?_
            exact A.on (hO _ _ _ n31) (Le.mk [(0, 0)] hm rfl ⟨⟨_, rfl, rfl⟩, ⟨_, rfl, rfl⟩, ⟨_, rfl, rfl⟩, ⟨_, rfl, rfl⟩, ⟨_, rfl, rfl⟩, ⟨_, rfl, rfl⟩, ⟨_, rfl, rfl⟩, trivial⟩ trivial ⟨⟨_, _, rfl, rfl, rfl⟩, trivial⟩)
          have n7 : W 18 #[true, true, true, false, false, false, false, false, false, false, false, false, false, false, false, false, false, false, false, false, false] (mkSt [(0, one (Cell.ptr 0 0)), (1, one (cS a1)), (4, one (cS ([] : List UInt8))), (5, one (cI r3.1)), (49, one (cS b24))] [] [(0, [Cell.sl true (List.map eB r14.2.b), cI r14.2.i, cI r14.2.h])] 1) := by
            refine hI _ _ _ ?_
            refine A.take 3 rfl (by kernel_rfl) (by kernel_rfl) (by kernel_rfl) rfl (Ca.move) (fun Q0 k0 => L.move hF rfl rfl rfl (L.nil k0)) ?_
            exact A.on (hO _ _ _ n15) (Le.mk [(0, 0)] hm rfl ⟨⟨_, rfl, rfl⟩, ⟨_, rfl, rfl⟩, ⟨_, rfl, rfl⟩, ⟨_, rfl, rfl⟩, ⟨_, rfl, rfl⟩, ⟨_, rfl, rfl⟩, trivial⟩ trivial ⟨⟨_, _, rfl, rfl, rfl⟩, trivial⟩)
          have n3 : W 19 #[true, true, false, false, false, false, false, false, false, false, false, false, false, false, false, false, false, false, false, false, false] (mkSt [(0, one (Cell.ptr 0 0)), (1, one (cS a1)), (4, one (cS ([] : List UInt8))), (5, one (cI r3.1)), (47, one (cS a1)), (48, one (cI r3.1))] [] [(0, [Cell.sl true (List.map eB r14.2.b), cI r14.2.i, cI r14.2.h])] 1) := by
            refine hI _ _ _ ?_
            refine A.take 2 rfl (by kernel_rfl) (by kernel_rfl) (by kernel_rfl) rfl (Ca.slice) (fun Q0 k0 => L.cutS Try.underlying9 hF rfl rfl rfl rfl rfl hb24 (L.nil k0)) ?_
            exact A.on (hO _ _ _ n7) (Le.mk [(0, 0)] hm rfl ⟨⟨_, rfl, rfl⟩, ⟨_, rfl, rfl⟩, ⟨_, rfl, rfl⟩, ⟨_, rfl, rfl⟩, ⟨_, rfl, rfl⟩, trivial⟩ trivial ⟨⟨_, _, rfl, rfl, rfl⟩, trivial⟩)
          have n1 : W 20 #[true, false, false, false, false, false, false, false, false, false, false, false, false, false, false, false, false, false, false, false, false] (mkSt [(0, one (Cell.ptr 0 0)), (1, one (cS a1)), (4, one (cS ([] : List UInt8))), (5, one (cI r3.1)), (47, one (cS a1))] [] [(0, [Cell.sl true (List.map eB r14.2.b), cI r14.2.i, cI r14.2.h])] 1) := by
            refine hI _ _ _ ?_
            refine A.take 1 rfl (by kernel_rfl) (by kernel_rfl) (by kernel_rfl) rfl (Ca.move) (fun Q0 k0 => L.move hF rfl rfl rfl (L.nil k0)) ?_
            exact A.on (hO _ _ _ n3) (Le.mk [(0, 0)] hm rfl ⟨⟨_, rfl, rfl⟩, ⟨_, rfl, rfl⟩, ⟨_, rfl, rfl⟩, ⟨_, rfl, rfl⟩, ⟨_, rfl, rfl⟩, ⟨_, rfl, rfl⟩, trivial⟩ trivial ⟨⟨_, _, rfl, rfl, rfl⟩, trivial⟩)
          have n0 : W 21 #[false, false, false, false, false, false, false, false, false, false, false, false, false, false, false, false, false, false, false, false, false] (mkSt [(0, one (Cell.ptr 0 0)), (1, one (cS a1)), (4, one (cS ([] : List UInt8))), (5, one (cI r3.1))] [] [(0, [Cell.sl true (List.map eB r14.2.b), cI r14.2.i, cI r14.2.h])] 1) := by
            refine hI _ _ _ ?_
            refine A.take 0 rfl (by kernel_rfl) (by kernel_rfl) (by kernel_rfl) rfl (Ca.move) (fun Q0 k0 => L.move hF rfl rfl rfl (L.nil k0)) ?_
            exact A.on (hO _ _ _ n1) (Le.mk [(0, 0)] hm rfl ⟨⟨_, rfl, rfl⟩, ⟨_, rfl, rfl⟩, ⟨_, rfl, rfl⟩, ⟨_, rfl, rfl⟩, ⟨_, rfl, rfl⟩, trivial⟩ trivial ⟨⟨_, _, rfl, rfl, rfl⟩, trivial⟩)
          exact hI _ _ _ (A.on (hO _ _ _ n0) (Le.mk [(0, 0)] hm rfl ⟨⟨_, rfl, rfl⟩, ⟨_, rfl, rfl⟩, ⟨_, rfl, rfl⟩, ⟨_, rfl, rfl⟩, trivial⟩ trivial ⟨⟨_, _, rfl, rfl, rfl⟩, trivial⟩))
/-! ### Fspec_DrawReadTimes -/
def Fspec_DrawReadTimes (k : Nat) (a0 : List UInt8) : Option (List UInt8) := (Fspec_l1New k a0).bind fun r1 => (Fspec_l16Times k r1).bind fun r2 => (Fspec_ShowTimes k r2.1).bind fun r3 => (Fspec_l1Once k (3 : Int) r2.2).bind fun r6 => cond r6.1 ((Fspec_l1Spoil k r3 r6.2).bind fun r7 => some r7.1) (some r3)
theorem ent64 : Enters Try.prog 64 := ⟨Try.f64, Try.func64, rfl, by decide⟩
set_option maxHeartbeats 8000000 in
set_option maxRecDepth 100000 in
theorem Fspec_DrawReadTimes_gives (k : Nat) (a0 : List UInt8) (r : List UInt8) (H : Fspec_DrawReadTimes k a0 = some r) : Gives Try.prog 64 [V.one (Cell.sl true (List.map eB a0))] [] [V.one (cS r)] [] := by
  refine Gives.intro Try.func64 rfl rfl rfl rfl ?_
  intro F hF hm
  unfold Fspec_DrawReadTimes at H
  obtain ⟨K, hK⟩ : ∃ K, k ≤ K := ⟨k, Nat.le_refl k⟩
  refine WpC.seq ?_
  refine WpC.regionL ?_
  refine L.assign hF rfl rfl rfl ?_
  refine L.nil ?_
  refine WpC.seq ?_
  refine WpC.regionL ?_
  refine L.move hF rfl rfl rfl ?_
  obtain ⟨r1, hr1, H⟩ := bindS H
  refine L.call [false] [] [] 1 hF rfl rfl rfl ent121 rfl rfl rfl rfl rfl (Fspec_l1New_gives k  a0 r1 hr1) rfl ?_
  refine L.assign hF rfl rfl rfl ?_
  refine L.nil ?_
  refine WpC.seq ?_
  refine WpC.regionL ?_
  refine L.move hF rfl rfl rfl ?_
  obtain ⟨r2, hr2, H⟩ := bindS H
  refine L.call [false] [] [1] 2 hF rfl rfl rfl ent138 rfl rfl rfl rfl rfl (Fspec_l16Times_gives k  r1 r2 hr2) rfl ?_
  obtain ⟨r3, hr3, H⟩ := bindS H
  refine L.call [false] [] [] 9 hF rfl rfl rfl ent135 rfl rfl rfl rfl rfl (Fspec_ShowTimes_gives k  r2.1 r3 hr3) rfl ?_
  refine L.assign hF rfl rfl rfl ?_
  refine L.nil ?_
  refine WpC.seq ?_
  refine WpC.seq ?_
  refine WpC.regionL ?_
  refine L.move hF rfl rfl rfl ?_
  obtain ⟨r6, hr6, H⟩ := bindS H
  refine L.call [false, false] [] [1] 10 hF rfl rfl rfl ent125 rfl rfl rfl rfl rfl (Fspec_l1Once_gives k  (3 : Int) r2.2 r6 hr6) rfl ?_
  refine L.nil ?_
  refine WpC.cond rfl (fun hc => ?_) (fun hc => ?_)
  · replace H := condT hc H
    refine WpC.seq ?_
    refine WpC.regionL ?_
    refine L.move hF rfl rfl rfl ?_
    refine L.move hF rfl rfl rfl ?_
    obtain ⟨r7, hr7, H⟩ := bindS H
    refine L.call [false, false] [] [1] 14 hF rfl rfl rfl ent126 rfl rfl rfl rfl rfl (Fspec_l1Spoil_gives k  r3 r6.2 r7 hr7) rfl ?_
    refine L.assign hF rfl rfl rfl ?_
    refine L.nil ?_
    refine WpC.ret ?_
    cases H
    exact Leaves.ret rfl rfl rfl ⟨rfl, rfl⟩
  · replace H := condF hc H
    refine WpC.skip ?_
    refine WpC.seq ?_
    refine WpC.regionL ?_
    refine L.move hF rfl rfl rfl ?_
    refine L.assign hF rfl rfl rfl ?_
    refine L.nil ?_
    refine WpC.ret ?_
    cases H
    exact Leaves.ret rfl rfl rfl ⟨rfl, rfl⟩
/-! ### Fspec_Parts -/
def Fspec_Parts.l4 : Nat → (List UInt8) → (List (List UInt8)) → Int → Int → Int → Option (List (List UInt8) × Bool)
  | 0, _, _, _, _, _ => none
  | k4 + 1, v68, v69, v70, v71, v72 => cond (decide (v72 < v70)) ((Fspec_l2Term k4 v68 v71 (8 : Int)).bind fun r76 => (cut? v68 v71 (IntKind.i64.wrap (v71 + r76.1))).bind fun b77 => cond (decide ((2 * (v69.length + ([b77] : List (List UInt8)).length) + 192) * 16 ≤ 281474976710656)) ((Fspec_Parts.l4 k4) v68 (v69 ++ ([b77] : List (List UInt8))) v70 (IntKind.i64.wrap (v71 + r76.1)) (IntKind.i64.wrap (v72 + (1 : Int)))) none) (some (v69, true))
def Fspec_Parts.j2 (k : Nat) (v10 : List UInt8) (v11 : List (List UInt8)) (v12 : Bool) : Option (List (List UInt8) × Bool) := cond v12 (some (v11, false)) ((cut? v10 (1 : Int) (v10.length : Int)).bind fun b13 => (Fspec_ReadVar k b13).bind fun r14 => Fspec_Parts.l4 k v10 v11 r14.1 (IntKind.i64.wrap ((1 : Int) + r14.2)) (0 : Int))
def Fspec_Parts (k : Nat) (a0 : List UInt8) : Option (List (List UInt8) × Bool) := (Fspec_TermOk k a0).bind fun r79 => cond (!r79) (Fspec_Parts.j2 k a0 ([] : List (List UInt8)) true) ((at? a0 (0 : Int)).bind fun b80 => Fspec_Parts.j2 k a0 ([] : List (List UInt8)) (b80 != (108 : UInt8)))
theorem ent141 : Enters Try.prog 141 := ⟨Try.f141, Try.func141, rfl, by decide⟩
set_option maxHeartbeats 8000000 in
set_option maxRecDepth 100000 in
theorem Fspec_Parts_gives (k : Nat) (a0 : List UInt8) (r : List (List UInt8) × Bool) (H : Fspec_Parts k a0 = some r) : Gives Try.prog 141 [V.one (cS a0)] [] [V.one (Cell.ow 1 (List.map eS r.1)), V.one (cL r.2)] [] := by
  refine Gives.intro Try.func141 rfl rfl rfl rfl ?_
  intro F hF hm
  unfold Fspec_Parts at H
  obtain ⟨K, hK⟩ : ∃ K, k ≤ K := ⟨k, Nat.le_refl k⟩
  refine WpC.seq ?_
  refine WpC.regionL ?_
  refine L.assign hF rfl rfl rfl ?_
  refine L.assign hF rfl rfl rfl ?_
  refine L.nil ?_
  refine WpC.seq ?_
  refine WpC.regionL ?_
  refine L.buildSlice (e := eS) 1 ([] : List (List UInt8)) Try.underlying120 info9 rfl rfl rfl hF rfl rfl rfl rfl rfl rfl rfl rfl ?_
  refine L.assign hF rfl rfl rfl ?_
  refine L.nil ?_
  refine WpC.seq ?_
  refine WpC.join (fun σ => ∃ kj2 : Nat, ∃ v10 : List UInt8, ∃ v11 : List (List UInt8), ∃ v12 : Bool, kj2 ≤ K ∧ Fspec_Parts.j2 kj2 v10 v11 v12 = some r ∧ σ = mkSt [(0, one (cS v10)), (4, one (Cell.own 0)), (19, one (cL v12))] [(0, ⟨1, List.map eS v11⟩)] [] 1) ?_ ?_
  · rintro _ ⟨kj2, v10, v11, v12, hkj2, H, rfl⟩
    unfold Fspec_Parts.j2 at H
    refine WpC.cond rfl (fun hc => ?_) (fun hc => ?_)
    · replace H := condT hc H
      refine WpC.seq ?_
      refine WpC.regionL ?_
      refine L.move hF rfl rfl rfl ?_
      refine L.assign hF rfl rfl rfl ?_
      refine L.assign hF rfl rfl rfl ?_
      refine L.nil ?_
      refine WpC.ret ?_
      cases H
      exact Leaves.ret rfl rfl rfl ⟨rfl, rfl⟩
    · replace H := condF hc H
      refine WpC.skip ?_
      refine WpC.seq ?_
      refine WpC.regionL ?_
      refine L.move hF rfl rfl rfl ?_
      obtain ⟨b13, hb13, H⟩ := bindS H
      refine L.cutS Try.underlying9 hF rfl rfl rfl rfl rfl hb13 ?_
      obtain ⟨r14, hr14, H⟩ := bindS H
      refine L.call [false] [] [] 1 hF rfl rfl rfl ent216 rfl rfl rfl rfl rfl (Fspec_ReadVar_gives kj2  b13 r14 hr14) rfl ?_
      refine L.move hF rfl rfl rfl ?_
      refine L.extract hF rfl rfl rfl rfl ?_
      refine L.extract hF rfl rfl rfl rfl ?_
      refine L.assign hF rfl rfl rfl ?_
      refine L.assign hF rfl rfl rfl ?_
      refine L.nil ?_
      refine WpC.seq ?_
      refine WpC.regionL ?_
      refine L.move hF rfl rfl rfl ?_
      refine L.bin hF rfl rfl rfl rfl rfl rfl ?_
      refine L.assign hF rfl rfl rfl ?_
      refine L.nil ?_
      refine WpC.seq ?_
      refine WpC.seq ?_
      refine WpC.regionL ?_
      refine L.assign hF rfl rfl rfl ?_
      refine L.nil ?_
      refine WpC.block ?_
      refine WpC.loopL (P := Try.prog) (fun n σ => ∃ v68 : List UInt8, ∃ v69 : List (List UInt8), ∃ v70 : Int, ∃ v71 : Int, ∃ v72 : Int, n ≤ K ∧ Fspec_Parts.l4 n v68 v69 v70 v71 v72 = some r ∧ σ = mkSt [(0, one (cS v68)), (4, one (Cell.own 0)), (5, one (cI v70)), (7, one (cI v71)), (8, one (cI v72))] [(0, ⟨1, List.map eS v69⟩)] [] 1) kj2 ⟨_, ⟨v10, v11, r14.1, (IntKind.i64.wrap ((1 : Int) + r14.2)), (0 : Int), by omega, H, rfl⟩, Le.mk [(0, 0)] hm rfl ⟨⟨_, rfl, rfl⟩, ⟨_, rfl, rfl⟩, ⟨_, rfl, rfl⟩, ⟨_, rfl, rfl⟩, ⟨_, rfl, rfl⟩, trivial⟩ ⟨⟨_, rfl, rfl⟩, trivial⟩ trivial⟩ ?_
      clear H
      rintro k4 _ ⟨v68, v69, v70, v71, v72, hk4, H, rfl⟩
      cases k4 with
      | zero => cases H
      | succ k4 =>
        rw [Fspec_Parts.l4] at H
        refine WpC.seq ?_
        refine WpC.seq ?_
        refine WpC.regionL ?_
        refine L.move hF rfl rfl rfl ?_
        refine L.move hF rfl rfl rfl ?_
        refine L.bin hF rfl rfl rfl rfl rfl rfl ?_
        refine L.nil ?_
        refine WpC.cond rfl (fun hc => ?_) (fun hc => ?_)
        · replace H := condT hc H
          refine WpC.skip ?_
          refine WpC.seq ?_
          refine WpC.block ?_
          refine WpC.seq ?_
          refine WpC.regionL ?_
          refine L.move hF rfl rfl rfl ?_
          refine L.move hF rfl rfl rfl ?_
          obtain ⟨r76, hr76, H⟩ := bindS H
          refine L.call [false, false, false] [] [] 1 hF rfl rfl rfl ent230 rfl rfl rfl rfl rfl (Fspec_l2Term_gives k4  v68 v71 (8 : Int) r76 hr76) rfl ?_
          refine L.move hF rfl rfl rfl ?_
          refine L.extract hF rfl rfl rfl rfl ?_
          refine L.extract hF rfl rfl rfl rfl ?_
          refine L.assign hF rfl rfl rfl ?_
          refine L.assign hF rfl rfl rfl ?_
          refine L.nil ?_
          refine WpC.seq ?_
          refine WpC.regionL ?_
          refine L.move hF rfl rfl rfl ?_
          refine L.move hF rfl rfl rfl ?_
          refine L.move hF rfl rfl rfl ?_
          refine L.move hF rfl rfl rfl ?_
          refine L.move hF rfl rfl rfl ?_
          refine L.bin hF rfl rfl rfl rfl rfl rfl ?_
          obtain ⟨b77, hb77, H⟩ := bindS H
          refine L.cutS Try.underlying9 hF rfl rfl rfl rfl rfl hb77 ?_
          refine L.buildSlice (e := eS) 3 ([b77] : List (List UInt8)) Try.underlying120 info9 rfl rfl rfl hF rfl rfl rfl rfl rfl rfl rfl rfl ?_
          obtain ⟨h78, H⟩ := condG H
          refine L.append (xs := v69) (ys := ([b77] : List (List UInt8))) (e := eS) 4 Try.underlying120 info9 rfl rfl hF rfl rfl rfl rfl rfl rfl rfl rfl (fun _ => rfl) (fun _ _ h1 h2 => by cases h1; cases h2; rfl) ⟨_, Try.underlying120⟩ (of_decide_eq_true h78) rfl rfl ?_
          refine L.assign hF rfl rfl rfl ?_
          refine L.nil ?_
          refine WpC.regionL ?_
          refine L.move hF rfl rfl rfl ?_
          refine L.move hF rfl rfl rfl ?_
          refine L.bin hF rfl rfl rfl rfl rfl rfl ?_
          refine L.assign hF rfl rfl rfl ?_
          refine L.nil ?_
          refine WpC.regionL ?_
          refine L.move hF rfl rfl rfl ?_
          refine L.bin hF rfl rfl rfl rfl rfl rfl ?_
          refine L.assign hF rfl rfl rfl ?_
          refine L.nil ?_
          exact ⟨k4, _, by omega, ⟨v68, (v69 ++ ([b77] : List (List UInt8))), v70, (IntKind.i64.wrap (v71 + r76.1)), (IntKind.i64.wrap (v72 + (1 : Int))), by omega, H, rfl⟩, Le.mk [(0, 4)] hm rfl ⟨⟨_, rfl, rfl⟩, ⟨_, rfl, rfl⟩, ⟨_, rfl, rfl⟩, ⟨_, rfl, rfl⟩, ⟨_, rfl, rfl⟩, trivial⟩ ⟨⟨_, rfl, rfl⟩, trivial⟩ trivial⟩
        · replace H := condF hc H
          refine WpC.exit ?_
          refine WpC.seq ?_
          refine WpC.regionL ?_
          refine L.move hF rfl rfl rfl ?_
          refine L.assign hF rfl rfl rfl ?_
          refine L.assign hF rfl rfl rfl ?_
          refine L.nil ?_
          refine WpC.ret ?_
          cases H
          exact Leaves.ret rfl rfl rfl ⟨rfl, rfl⟩
  · refine WpC.regionL ?_
    refine L.move hF rfl rfl rfl ?_
    obtain ⟨r79, hr79, H⟩ := bindS H
    refine L.call [false] [] [] 2 hF rfl rfl rfl ent229 rfl rfl rfl rfl rfl (Fspec_TermOk_gives k  a0 r79 hr79) rfl ?_
    refine L.not hF rfl rfl rfl ?_
    refine L.move hF rfl rfl rfl ?_
    refine L.split (fun hc => ?_) (fun hc => ?_)
    · replace H := condT hc H
      refine L.off hF rfl rfl ?_
      refine L.off hF rfl rfl ?_
      refine L.off hF rfl rfl ?_
      refine L.pick hF rfl rfl rfl rfl ?_
      refine L.nil ?_
      exact ⟨_, ⟨k, a0, ([] : List (List UInt8)), true, by omega, H, rfl⟩, Le.mk [(0, 1)] hm rfl ⟨⟨_, rfl, rfl⟩, ⟨_, rfl, rfl⟩, ⟨_, rfl, rfl⟩, trivial⟩ ⟨⟨_, rfl, rfl⟩, trivial⟩ trivial⟩
    · replace H := condF hc H
      refine L.move hF rfl rfl rfl ?_
      obtain ⟨b80, hb80, H⟩ := bindS H
      refine L.idxS Try.underlying9 hF rfl rfl rfl rfl hb80 ?_
      refine L.binB (a := b80) (b := (108 : UInt8)) hF rfl rfl rfl rfl rfl ?_
      refine L.pick hF rfl rfl rfl rfl ?_
      refine L.nil ?_
      exact ⟨_, ⟨k, a0, ([] : List (List UInt8)), (b80 != (108 : UInt8)), by omega, H, rfl⟩, Le.mk [(0, 1)] hm rfl ⟨⟨_, rfl, rfl⟩, ⟨_, rfl, rfl⟩, ⟨_, rfl, rfl⟩, trivial⟩ ⟨⟨_, rfl, rfl⟩, trivial⟩ trivial⟩
/-! ### Fspec_ReadAtom -/
def Fspec_ReadAtom (k : Nat) (a0 : List UInt8) : Option (List UInt8 × Bool) := (Fspec_TermOk k a0).bind fun r7 => cond (!r7) (some (([] : List UInt8), false)) ((at? a0 (0 : Int)).bind fun b8 => cond (b8 != (97 : UInt8)) (some (([] : List UInt8), false)) ((cut? a0 (1 : Int) (a0.length : Int)).bind fun b9 => (Fspec_ReadVar k b9).bind fun r10 => (cut? a0 (IntKind.i64.wrap ((1 : Int) + r10.2)) (a0.length : Int)).bind fun b11 => some (b11, true)))
theorem ent269 : Enters Try.prog 269 := ⟨Try.f269, Try.func269, rfl, by decide⟩
set_option maxHeartbeats 8000000 in
set_option maxRecDepth 100000 in
theorem Fspec_ReadAtom_gives (k : Nat) (a0 : List UInt8) (r : List UInt8 × Bool) (H : Fspec_ReadAtom k a0 = some r) : Gives Try.prog 269 [V.one (cS a0)] [] [V.one (cS r.1), V.one (cL r.2)] [] := by
  refine Gives.intro Try.func269 rfl rfl rfl rfl ?_
  intro F hF hm
  unfold Fspec_ReadAtom at H
  obtain ⟨K, hK⟩ : ∃ K, k ≤ K := ⟨k, Nat.le_refl k⟩
  refine WpC.seq ?_
  refine WpC.regionL ?_
  refine L.assign hF rfl rfl rfl ?_
  refine L.assign hF rfl rfl rfl ?_
  refine L.nil ?_
  refine WpC.seq ?_
  refine WpC.seq ?_
  refine WpC.regionL ?_
  refine L.move hF rfl rfl rfl ?_
  obtain ⟨r7, hr7, H⟩ := bindS H
  refine L.call [false] [] [] 1 hF rfl rfl rfl ent229 rfl rfl rfl rfl rfl (Fspec_TermOk_gives k  a0 r7 hr7) rfl ?_
  refine L.not hF rfl rfl rfl ?_
  refine L.move hF rfl rfl rfl ?_
  refine L.split (fun hc => ?_) (fun hc => ?_)
  · replace H := condT hc H
    refine L.off hF rfl rfl ?_
    refine L.off hF rfl rfl ?_
    refine L.off hF rfl rfl ?_
    refine L.pick hF rfl rfl rfl rfl ?_
    refine L.nil ?_
    refine WpC.cond rfl (fun _ => ?_) (fun hc => by cases hc)
    refine WpC.seq ?_
    refine WpC.regionL ?_
    refine L.assign hF rfl rfl rfl ?_
    refine L.assign hF rfl rfl rfl ?_
    refine L.nil ?_
    refine WpC.ret ?_
    cases H
    exact Leaves.ret rfl rfl rfl ⟨rfl, rfl⟩
  · replace H := condF hc H
    refine L.move hF rfl rfl rfl ?_
    obtain ⟨b8, hb8, H⟩ := bindS H
    refine L.idxS Try.underlying9 hF rfl rfl rfl rfl hb8 ?_
    refine L.binB (a := b8) (b := (97 : UInt8)) hF rfl rfl rfl rfl rfl ?_
    refine L.pick hF rfl rfl rfl rfl ?_
    refine L.nil ?_
    refine WpC.cond rfl (fun hc => ?_) (fun hc => ?_)
    · replace H := condT hc H
      refine WpC.seq ?_
      refine WpC.regionL ?_
      refine L.assign hF rfl rfl rfl ?_
      refine L.assign hF rfl rfl rfl ?_
      refine L.nil ?_
      refine WpC.ret ?_
      cases H
      exact Leaves.ret rfl rfl rfl ⟨rfl, rfl⟩
    · replace H := condF hc H
      refine WpC.skip ?_
      refine WpC.seq ?_
      refine WpC.regionL ?_
      refine L.move hF rfl rfl rfl ?_
      obtain ⟨b9, hb9, H⟩ := bindS H
      refine L.cutS Try.underlying9 hF rfl rfl rfl rfl rfl hb9 ?_
      obtain ⟨r10, hr10, H⟩ := bindS H
      refine L.call [false] [] [] 2 hF rfl rfl rfl ent216 rfl rfl rfl rfl rfl (Fspec_ReadVar_gives k  b9 r10 hr10) rfl ?_
      refine L.move hF rfl rfl rfl ?_
      refine L.extract hF rfl rfl rfl rfl ?_
      refine L.extract hF rfl rfl rfl rfl ?_
      refine L.assign hF rfl rfl rfl ?_
      refine L.assign hF rfl rfl rfl ?_
      refine L.nil ?_
      refine WpC.seq ?_
      refine WpC.regionL ?_
      refine L.move hF rfl rfl rfl ?_
      refine L.move hF rfl rfl rfl ?_
      refine L.bin hF rfl rfl rfl rfl rfl rfl ?_
      obtain ⟨b11, hb11, H⟩ := bindS H
      refine L.cutS Try.underlying9 hF rfl rfl rfl rfl rfl hb11 ?_
      refine L.assign hF rfl rfl rfl ?_
      refine L.assign hF rfl rfl rfl ?_
      refine L.nil ?_
      refine WpC.ret ?_
      cases H
      exact Leaves.ret rfl rfl rfl ⟨rfl, rfl⟩
/-! ### Fspec_ReadNum -/
def Fspec_ReadNum (k : Nat) (a0 : List UInt8) : Option (Int × Bool) := (Fspec_ReadAtom k a0).bind fun r1 => (Fspec_ReadVar k r1.1).bind fun r2 => cond (!r1.2) (some ((0 : Int), false)) (cond (r2.2 == (0 : Int)) (some ((0 : Int), false)) (cond (r2.2 != (r1.1.length : Int)) (some ((0 : Int), false)) (some (r2.1, true))))
theorem ent224 : Enters Try.prog 224 := ⟨Try.f224, Try.func224, rfl, by decide⟩
set_option maxHeartbeats 8000000 in
set_option maxRecDepth 100000 in
theorem Fspec_ReadNum_gives (k : Nat) (a0 : List UInt8) (r : Int × Bool) (H : Fspec_ReadNum k a0 = some r) : Gives Try.prog 224 [V.one (cS a0)] [] [V.one (cI r.1), V.one (cL r.2)] [] := by
  refine Gives.intro Try.func224 rfl rfl rfl rfl ?_
  intro F hF hm
  unfold Fspec_ReadNum at H
  obtain ⟨K, hK⟩ : ∃ K, k ≤ K := ⟨k, Nat.le_refl k⟩
  refine WpC.seq ?_
  refine WpC.regionL ?_
  refine L.assign hF rfl rfl rfl ?_
  refine L.assign hF rfl rfl rfl ?_
  refine L.nil ?_
  refine WpC.seq ?_
  refine WpC.regionL ?_
  refine L.move hF rfl rfl rfl ?_
  obtain ⟨r1, hr1, H⟩ := bindS H
  refine L.call [false] [] [] 1 hF rfl rfl rfl ent269 rfl rfl rfl rfl rfl (Fspec_ReadAtom_gives k  a0 r1 hr1) rfl ?_
  refine L.move hF rfl rfl rfl ?_
  refine L.extract hF rfl rfl rfl rfl ?_
  refine L.extract hF rfl rfl rfl rfl ?_
  refine L.assign hF rfl rfl rfl ?_
  refine L.assign hF rfl rfl rfl ?_
  refine L.nil ?_
  refine WpC.seq ?_
  refine WpC.regionL ?_
  refine L.move hF rfl rfl rfl ?_
  obtain ⟨r2, hr2, H⟩ := bindS H
  refine L.call [false] [] [] 3 hF rfl rfl rfl ent216 rfl rfl rfl rfl rfl (Fspec_ReadVar_gives k  r1.1 r2 hr2) rfl ?_
  refine L.move hF rfl rfl rfl ?_
  refine L.extract hF rfl rfl rfl rfl ?_
  refine L.extract hF rfl rfl rfl rfl ?_
  refine L.assign hF rfl rfl rfl ?_
  refine L.assign hF rfl rfl rfl ?_
  refine L.nil ?_
  refine WpC.seq ?_
  refine WpC.seq ?_
  refine WpC.regionL ?_
  refine L.move hF rfl rfl rfl ?_
  refine L.not hF rfl rfl rfl ?_
  refine L.move hF rfl rfl rfl ?_
  refine L.split (fun hc => ?_) (fun hc => ?_)
  · replace H := condT hc H
    refine L.off hF rfl rfl ?_
    refine L.off hF rfl rfl ?_
    refine L.pick hF rfl rfl rfl rfl ?_
    refine L.move hF rfl rfl rfl ?_
    refine L.off hF rfl rfl ?_
    refine L.off hF rfl rfl ?_
    refine L.off hF rfl rfl ?_
    refine L.off hF rfl rfl ?_
    refine L.pick hF rfl rfl rfl rfl ?_
    refine L.nil ?_
    refine WpC.cond rfl (fun _ => ?_) (fun hc => by cases hc)
    refine WpC.seq ?_
    refine WpC.regionL ?_
    refine L.assign hF rfl rfl rfl ?_
    refine L.assign hF rfl rfl rfl ?_
    refine L.nil ?_
    refine WpC.ret ?_
    cases H
    exact Leaves.ret rfl rfl rfl ⟨rfl, rfl⟩
  · replace H := condF hc H
    refine L.move hF rfl rfl rfl ?_
    refine L.bin hF rfl rfl rfl rfl rfl rfl ?_
    refine L.pick hF rfl rfl rfl rfl ?_
    refine L.move hF rfl rfl rfl ?_
    refine L.split (fun hc => ?_) (fun hc => ?_)
    · replace H := condT hc H
      refine L.off hF rfl rfl ?_
      refine L.off hF rfl rfl ?_
      refine L.off hF rfl rfl ?_
      refine L.off hF rfl rfl ?_
      refine L.pick hF rfl rfl rfl rfl ?_
      refine L.nil ?_
      refine WpC.cond rfl (fun _ => ?_) (fun hc => by cases hc)
      refine WpC.seq ?_
      refine WpC.regionL ?_
      refine L.assign hF rfl rfl rfl ?_
      refine L.assign hF rfl rfl rfl ?_
      refine L.nil ?_
      refine WpC.ret ?_
      cases H
      exact Leaves.ret rfl rfl rfl ⟨rfl, rfl⟩
    · replace H := condF hc H
      refine L.move hF rfl rfl rfl ?_
      refine L.move hF rfl rfl rfl ?_
      refine L.lenS Try.underlying9 hF rfl rfl rfl ?_
      refine L.bin hF rfl rfl rfl rfl rfl rfl ?_
      refine L.pick hF rfl rfl rfl rfl ?_
      refine L.nil ?_
      refine WpC.cond rfl (fun hc => ?_) (fun hc => ?_)
      · replace H := condT hc H
        refine WpC.seq ?_
        refine WpC.regionL ?_
        refine L.assign hF rfl rfl rfl ?_
        refine L.assign hF rfl rfl rfl ?_
        refine L.nil ?_
        refine WpC.ret ?_
        cases H
        exact Leaves.ret rfl rfl rfl ⟨rfl, rfl⟩
      · replace H := condF hc H
        refine WpC.skip ?_
        refine WpC.seq ?_
        refine WpC.regionL ?_
        refine L.move hF rfl rfl rfl ?_
        refine L.assign hF rfl rfl rfl ?_
        refine L.assign hF rfl rfl rfl ?_
        refine L.nil ?_
        refine WpC.ret ?_
        cases H
        exact Leaves.ret rfl rfl rfl ⟨rfl, rfl⟩
/-! ### Fspec_ReadNums -/
def Fspec_ReadNums.j14 (cl12 : (List Int) → (List (List UInt8)) → Bool → Int → Option (List Int × Bool)) (k : Nat) (v104 : List Int) (v105 : List (List UInt8)) (v106 : Bool) (v107 : Int) (v108 : Int) : Option (List Int × Bool) := cond (decide ((2 * (v104.length + ([v108] : List Int).length) + 192) * 8 ≤ 281474976710656)) (cl12 (v104 ++ ([v108] : List Int)) v105 v106 (IntKind.i64.wrap (v107 + (1 : Int)))) none
def Fspec_ReadNums.l12 : Nat → (List Int) → (List (List UInt8)) → Bool → Int → Option (List Int × Bool)
  | 0, _, _, _, _ => none
  | k12 + 1, v90, v91, v92, v93 => cond (decide (v93 < (v91.length : Int))) ((at? v91 v93).bind fun b102 => (Fspec_ReadNum k12 b102).bind fun r103 => cond v92 (Fspec_ReadNums.j14 (Fspec_ReadNums.l12 k12) k12 v90 v91 r103.2 v93 r103.1) (Fspec_ReadNums.j14 (Fspec_ReadNums.l12 k12) k12 v90 v91 false v93 r103.1)) (cond (!v92) (some (([] : List Int), false)) (some (v90, true)))
def Fspec_ReadNums (k : Nat) (a0 : List UInt8) : Option (List Int × Bool) := (Fspec_Parts k a0).bind fun r1 => Fspec_ReadNums.l12 k ([] : List Int) r1.1 r1.2 (0 : Int)
theorem ent134 : Enters Try.prog 134 := ⟨Try.f134, Try.func134, rfl, by decide⟩
set_option maxHeartbeats 8000000 in
set_option maxRecDepth 100000 in
theorem Fspec_ReadNums_gives (k : Nat) (a0 : List UInt8) (r : List Int × Bool) (H : Fspec_ReadNums k a0 = some r) : Gives Try.prog 134 [V.one (cS a0)] [] [V.one (Cell.ow 1 (List.map eI r.1)), V.one (cL r.2)] [] := by
  refine Gives.intro Try.func134 rfl rfl rfl rfl ?_
  intro F hF hm
  unfold Fspec_ReadNums at H
  obtain ⟨K, hK⟩ : ∃ K, k ≤ K := ⟨k, Nat.le_refl k⟩
  refine WpC.seq ?_
  refine WpC.regionL ?_
  refine L.assign hF rfl rfl rfl ?_
  refine L.assign hF rfl rfl rfl ?_
  refine L.nil ?_
  refine WpC.seq ?_
  refine WpC.regionL ?_
  refine L.buildSlice (e := eI) 1 ([] : List Int) Try.underlying24 info3 rfl rfl rfl hF rfl rfl rfl rfl rfl rfl rfl rfl ?_
  refine L.assign hF rfl rfl rfl ?_
  refine L.nil ?_
  refine WpC.seq ?_
  refine WpC.regionL ?_
  refine L.move hF rfl rfl rfl ?_
  obtain ⟨r1, hr1, H⟩ := bindS H
  refine L.call [false] [] [] 2 hF rfl rfl rfl ent141 rfl rfl rfl rfl rfl (Fspec_Parts_gives k  a0 r1 hr1) rfl ?_
  refine L.move hF rfl rfl rfl ?_
  refine L.extract hF rfl rfl rfl rfl ?_
  refine L.extract hF rfl rfl rfl rfl ?_
  refine L.assign hF rfl rfl rfl ?_
  refine L.assign hF rfl rfl rfl ?_
  refine L.nil ?_
  refine WpC.seq ?_
  refine WpC.seq ?_
  refine WpC.regionL ?_
  refine L.assign hF rfl rfl rfl ?_
  refine L.nil ?_
  refine WpC.block ?_
  refine WpC.loopL (P := Try.prog) (fun n σ => ∃ v90 : List Int, ∃ v91 : List (List UInt8), ∃ v92 : Bool, ∃ v93 : Int, n ≤ K ∧ Fspec_ReadNums.l12 n v90 v91 v92 v93 = some r ∧ σ = mkSt [(4, one (Cell.own 0)), (5, one (Cell.own 1)), (6, one (cL v92)), (7, one (cI v93))] [(0, ⟨1, List.map eI v90⟩), (1, ⟨1, List.map eS v91⟩)] [] 2) k ⟨_, ⟨([] : List Int), r1.1, r1.2, (0 : Int), by omega, H, rfl⟩, Le.mk [(0, 1), (1, 2)] hm rfl ⟨⟨_, rfl, rfl⟩, ⟨_, rfl, rfl⟩, ⟨_, rfl, rfl⟩, ⟨_, rfl, rfl⟩, trivial⟩ ⟨⟨_, rfl, rfl⟩, ⟨_, rfl, rfl⟩, trivial⟩ trivial⟩ ?_
  clear H
  rintro k12 _ ⟨v90, v91, v92, v93, hk12, H, rfl⟩
  cases k12 with
  | zero => cases H
  | succ k12 =>
    rw [Fspec_ReadNums.l12] at H
    refine WpC.seq ?_
    refine WpC.seq ?_
    refine WpC.regionL ?_
    refine L.move hF rfl rfl rfl ?_
    refine L.move hF rfl rfl rfl ?_
    refine L.lenR (xs := v91) (e := eS) Try.underlying120 hF rfl rfl rfl rfl ?_
    refine L.bin hF rfl rfl rfl rfl rfl rfl ?_
    refine L.nil ?_
    refine WpC.cond rfl (fun hc => ?_) (fun hc => ?_)
    · replace H := condT hc H
      refine WpC.skip ?_
      refine WpC.seq ?_
      refine WpC.block ?_
      refine WpC.seq ?_
      refine WpC.regionL ?_
      refine L.move hF rfl rfl rfl ?_
      refine L.move hF rfl rfl rfl ?_
      obtain ⟨b102, hb102, H⟩ := bindS H
      refine L.idxR (xs := v91) (e := eS) Try.underlying120 info9 hF rfl rfl rfl rfl rfl hb102 rfl rfl ?_
      refine L.loadEp (xs := v91) (e := eS) shape9 hF rfl rfl rfl rfl (at?_get hb102).2 rfl rfl ?_
      obtain ⟨r103, hr103, H⟩ := bindS H
      refine L.call [false] [] [] 2 hF rfl rfl rfl ent224 rfl rfl rfl rfl rfl (Fspec_ReadNum_gives k12  b102 r103 hr103) rfl ?_
      refine L.move hF rfl rfl rfl ?_
      refine L.extract hF rfl rfl rfl rfl ?_
      refine L.extract hF rfl rfl rfl rfl ?_
      refine L.assign hF rfl rfl rfl ?_
      refine L.assign hF rfl rfl rfl ?_
      refine L.nil ?_
      refine WpC.join (fun σ => ∃ kj14 : Nat, ∃ v104 : List Int, ∃ v105 : List (List UInt8), ∃ v106 : Bool, ∃ v107 : Int, ∃ v108 : Int, kj14 ≤ K ∧ Fspec_ReadNums.j14 (Fspec_ReadNums.l12 k12) kj14 v104 v105 v106 v107 v108 = some r ∧ σ = mkSt [(4, one (Cell.own 0)), (5, one (Cell.own 1)), (6, one (cL v106)), (7, one (cI v107)), (8, one (cI v108))] [(0, ⟨1, List.map eI v104⟩), (1, ⟨1, List.map eS v105⟩)] [] 2) ?_ ?_
      · rintro _ ⟨kj14, v104, v105, v106, v107, v108, hkj14, H, rfl⟩
        unfold Fspec_ReadNums.j14 at H
        refine WpC.regionL ?_
        refine L.move hF rfl rfl rfl ?_
        refine L.move hF rfl rfl rfl ?_
        refine L.buildSlice (e := eI) 2 ([v108] : List Int) Try.underlying24 info3 rfl rfl rfl hF rfl rfl rfl rfl rfl rfl rfl rfl ?_
        obtain ⟨h109, H⟩ := condG H
        refine L.append (xs := v104) (ys := ([v108] : List Int)) (e := eI) 3 Try.underlying24 info3 rfl rfl hF rfl rfl rfl rfl rfl rfl rfl rfl (fun _ => rfl) (fun _ _ h1 h2 => by cases h1; cases h2; rfl) ⟨_, Try.underlying24⟩ (of_decide_eq_true h109) rfl rfl ?_
        refine L.assign hF rfl rfl rfl ?_
        refine L.nil ?_
        refine WpC.regionL ?_
        refine L.move hF rfl rfl rfl ?_
        refine L.bin hF rfl rfl rfl rfl rfl rfl ?_
        refine L.assign hF rfl rfl rfl ?_
        refine L.nil ?_
        exact ⟨k12, _, by omega, ⟨(v104 ++ ([v108] : List Int)), v105, v106, (IntKind.i64.wrap (v107 + (1 : Int))), by omega, H, rfl⟩, Le.mk [(0, 3), (1, 1)] hm rfl ⟨⟨_, rfl, rfl⟩, ⟨_, rfl, rfl⟩, ⟨_, rfl, rfl⟩, ⟨_, rfl, rfl⟩, trivial⟩ ⟨⟨_, rfl, rfl⟩, ⟨_, rfl, rfl⟩, trivial⟩ trivial⟩
      · refine WpC.regionL ?_
        refine L.move hF rfl rfl rfl ?_
        refine L.move hF rfl rfl rfl ?_
        refine L.split (fun hc => ?_) (fun hc => ?_)
        · replace H := condT hc H
          refine L.move hF rfl rfl rfl ?_
          refine L.pick hF rfl rfl rfl rfl ?_
          refine L.assign hF rfl rfl rfl ?_
          refine L.nil ?_
          exact ⟨_, ⟨k12, v90, v91, r103.2, v93, r103.1, by omega, H, rfl⟩, Le.mk [(0, 0), (1, 1)] hm rfl ⟨⟨_, rfl, rfl⟩, ⟨_, rfl, rfl⟩, ⟨_, rfl, rfl⟩, ⟨_, rfl, rfl⟩, ⟨_, rfl, rfl⟩, trivial⟩ ⟨⟨_, rfl, rfl⟩, ⟨_, rfl, rfl⟩, trivial⟩ trivial⟩
        · replace H := condF hc H
          refine L.off hF rfl rfl ?_
          refine L.pick hF rfl rfl rfl rfl ?_
          refine L.assign hF rfl rfl rfl ?_
          refine L.nil ?_
          exact ⟨_, ⟨k12, v90, v91, false, v93, r103.1, by omega, H, rfl⟩, Le.mk [(0, 0), (1, 1)] hm rfl ⟨⟨_, rfl, rfl⟩, ⟨_, rfl, rfl⟩, ⟨_, rfl, rfl⟩, ⟨_, rfl, rfl⟩, ⟨_, rfl, rfl⟩, trivial⟩ ⟨⟨_, rfl, rfl⟩, ⟨_, rfl, rfl⟩, trivial⟩ trivial⟩
    · replace H := condF hc H
      refine WpC.exit ?_
      refine WpC.seq ?_
      refine WpC.seq ?_
      refine WpC.regionL ?_
      refine L.move hF rfl rfl rfl ?_
      refine L.not hF rfl rfl rfl ?_
      refine L.nil ?_
      refine WpC.cond rfl (fun hc => ?_) (fun hc => ?_)
      · replace H := condT hc H
        refine WpC.seq ?_
        refine WpC.regionL ?_
        refine L.buildSlice (e := eI) 2 ([] : List Int) Try.underlying24 info3 rfl rfl rfl hF rfl rfl rfl rfl rfl rfl rfl rfl ?_
        refine L.assign hF rfl rfl rfl ?_
        refine L.assign hF rfl rfl rfl ?_
        refine L.nil ?_
        refine WpC.ret ?_
        cases H
        exact Leaves.ret rfl rfl rfl ⟨rfl, rfl⟩
      · replace H := condF hc H
        refine WpC.skip ?_
        refine WpC.seq ?_
        refine WpC.regionL ?_
        refine L.move hF rfl rfl rfl ?_
        refine L.assign hF rfl rfl rfl ?_
        refine L.assign hF rfl rfl rfl ?_
        refine L.nil ?_
        refine WpC.ret ?_
        cases H
        exact Leaves.ret rfl rfl rfl ⟨rfl, rfl⟩
/-! ### Fspec_ReadTimes -/
def Fspec_ReadTimes.j2 (k : Nat) (v5 : List UInt8) (v6 : List Int) (v7 : Bool) : Option (Timpl_Times × Bool) := cond v7 (some ((⟨(0 : Int), (0 : Int), (0 : Int), (0 : Int)⟩ : Timpl_Times), false)) ((at? v6 (0 : Int)).bind fun b8 => (at? v6 (1 : Int)).bind fun b9 => (at? v6 (2 : Int)).bind fun b10 => (at? v6 (3 : Int)).bind fun b11 => (Fspec_ShowTimes k (⟨b8, b9, b10, b11⟩ : Timpl_Times)).bind fun r13 => cond (r13 != v5) (some ((⟨(0 : Int), (0 : Int), (0 : Int), (0 : Int)⟩ : Timpl_Times), false)) (some ((⟨b8, b9, b10, b11⟩ : Timpl_Times), true)))
def Fspec_ReadTimes (k : Nat) (a0 : List UInt8) : Option (Timpl_Times × Bool) := (Fspec_ReadNums k a0).bind fun r1 => cond (!r1.2) (Fspec_ReadTimes.j2 k a0 r1.1 true) (Fspec_ReadTimes.j2 k a0 r1.1 ((r1.1.length : Int) != (4 : Int)))
theorem ent57 : Enters Try.prog 57 := ⟨Try.f57, Try.func57, rfl, by decide⟩
set_option maxHeartbeats 8000000 in
set_option maxRecDepth 100000 in
theorem Fspec_ReadTimes_gives (k : Nat) (a0 : List UInt8) (r : Timpl_Times × Bool) (H : Fspec_ReadTimes k a0 = some r) : Gives Try.prog 57 [V.one (cS a0)] [] [V.agg [cI r.1.Auth, cI r.1.Start, cI r.1.End, cI r.1.Renew], V.one (cL r.2)] [] := by
  refine Gives.intro Try.func57 rfl rfl rfl rfl ?_
  intro F hF hm
  unfold Fspec_ReadTimes at H
  obtain ⟨K, hK⟩ : ∃ K, k ≤ K := ⟨k, Nat.le_refl k⟩
  refine WpC.seq ?_
  refine WpC.regionL ?_
  refine L.alloc 1 info65 rfl hF rfl rfl rfl rfl ?_
  refine L.assign hF rfl rfl rfl ?_
  refine L.nil ?_
  refine WpC.seq ?_
  refine WpC.regionL ?_
  refine L.move hF rfl rfl rfl ?_
  obtain ⟨r1, hr1, H⟩ := bindS H
  refine L.call [false] [] [] 2 hF rfl rfl rfl ent134 rfl rfl rfl rfl rfl (Fspec_ReadNums_gives k  a0 r1 hr1) rfl ?_
  refine L.move hF rfl rfl rfl ?_
  refine L.extract hF rfl rfl rfl rfl ?_
  refine L.extract hF rfl rfl rfl rfl ?_
  refine L.assign hF rfl rfl rfl ?_
  refine L.assign hF rfl rfl rfl ?_
  refine L.nil ?_
  refine WpC.seq ?_
  refine WpC.join (fun σ => ∃ kj2 : Nat, ∃ v5 : List UInt8, ∃ v6 : List Int, ∃ v7 : Bool, kj2 ≤ K ∧ Fspec_ReadTimes.j2 kj2 v5 v6 v7 = some r ∧ σ = mkSt [(0, one (cS v5)), (2, one (Cell.ptr 0 0)), (4, one (Cell.own 1)), (18, one (cL v7))] [(1, ⟨1, List.map eI v6⟩)] [(0, [cI (0 : Int), cI (0 : Int), cI (0 : Int), cI (0 : Int)])] 2) ?_ ?_
  · rintro _ ⟨kj2, v5, v6, v7, hkj2, H, rfl⟩
    unfold Fspec_ReadTimes.j2 at H
    refine WpC.cond rfl (fun hc => ?_) (fun hc => ?_)
    · replace H := condT hc H
      refine WpC.seq ?_
      refine WpC.regionL ?_
      refine L.buildF built65 hF rfl rfl rfl rfl ?_
      refine L.storePtr shape65 hF rfl rfl rfl rfl rfl rfl rfl ?_
      refine L.assign hF rfl rfl rfl ?_
      refine L.nil ?_
      refine WpC.ret ?_
      cases H
      exact Leaves.ret rfl rfl rfl ⟨rfl, rfl⟩
    · replace H := condF hc H
      refine WpC.skip ?_
      refine WpC.seq ?_
      obtain ⟨b8, hb8, H⟩ := bindS H
      obtain ⟨b9, hb9, H⟩ := bindS H
      obtain ⟨b10, hb10, H⟩ := bindS H
      obtain ⟨b11, hb11, H⟩ := bindS H
      refine A.begin mixed rfl rfl ?_
      intro W hI hO
      have n32767 : W 0 #[true, true, true, true, true, true, true, true, true, true, true, true, true, true, true] (mkSt [(0, one (cS v5)), (2, one (Cell.ptr 0 0)), (6, one (Cell.ptr 1 0))] [] [(0, [cI (0 : Int), cI (0 : Int), cI (0 : Int), cI (0 : Int)]), (1, [cI b8, cI b9, cI b10, cI b11])] 2) := by
        refine hI _ _ _ (A.done (by kernel_rfl) ?_)
        refine WpC.seq ?_
        refine WpC.seq ?_
        refine WpC.regionL ?_
        refine L.loadPtr shape65 hF rfl rfl rfl rfl rfl rfl ?_
        obtain ⟨r13, hr13, H⟩ := bindS H
        refine L.call [false] [] [] 2 hF rfl rfl rfl ent135 rfl rfl rfl rfl rfl (Fspec_ShowTimes_gives kj2  (⟨b8, b9, b10, b11⟩ : Timpl_Times) r13 hr13) rfl ?_
        refine L.move hF rfl rfl rfl ?_
        refine L.binS hF rfl rfl rfl rfl rfl ?_
        refine L.nil ?_
        refine WpC.cond rfl (fun hc => ?_) (fun hc => ?_)
        · replace H := condT hc H
          refine WpC.seq ?_
          refine WpC.regionL ?_
          refine L.buildF built65 hF rfl rfl rfl rfl ?_
          refine L.storePtr shape65 hF rfl rfl rfl rfl rfl rfl rfl ?_
          refine L.assign hF rfl rfl rfl ?_
          refine L.nil ?_
          refine WpC.ret ?_
          cases H
          exact Leaves.ret rfl rfl rfl ⟨rfl, rfl⟩
        · replace H := condF hc H
          refine WpC.skip ?_
          refine WpC.seq ?_
          refine WpC.regionL ?_
          refine L.loadPtr shape65 hF rfl rfl rfl rfl rfl rfl ?_
          refine L.storePtr shape65 hF rfl rfl rfl rfl rfl rfl rfl ?_
          refine L.assign hF rfl rfl rfl ?_
          refine L.nil ?_
          refine WpC.ret ?_
          cases H
          exact Leaves.ret rfl rfl rfl ⟨rfl, rfl⟩
      have n16383 : W 1 #[true, true, true, true, true, true, true, true, true, true, true, true, true, true, false] (mkSt [(0, one (cS v5)), (2, one (Cell.ptr 0 0)), (6, one (Cell.ptr 1 0)), (32, agg [cI b8, cI b9, cI b10, cI b11])] [] [(0, [cI (0 : Int), cI (0 : Int), cI (0 : Int), cI (0 : Int)]), (1, [cI (0 : Int), cI (0 : Int), cI (0 : Int), cI (0 : Int)])] 2) := by
        refine hI _ _ _ ?_
        refine A.all [14] (by kernel_rfl) rfl ⟨⟨_, rfl, ?_⟩, trivial⟩
        · refine L.storePtr shape65 hF rfl rfl rfl rfl rfl rfl rfl ?_
          refine L.nil ?_
          exact A.on (hO _ _ _ n32767) (Le.mk [(0, 0), (1, 1)] hm rfl ⟨⟨_, rfl, rfl⟩, ⟨_, rfl, rfl⟩, ⟨_, rfl, rfl⟩, trivial⟩ trivial ⟨⟨_, _, rfl, rfl, rfl⟩, ⟨_, _, rfl, rfl, rfl⟩, trivial⟩)
      have n8191 : W 2 #[true, true, true, true, true, true, true, true, true, true, true, true, true, false, false] (mkSt [(0, one (cS v5)), (2, one (Cell.ptr 0 0)), (32, agg [cI b8, cI b9, cI b10, cI b11])] [] [(0, [cI (0 : Int), cI (0 : Int), cI (0 : Int), cI (0 : Int)])] 1) := by
        refine hI _ _ _ ?_
        refine A.all [13] (by kernel_rfl) rfl ⟨⟨_, rfl, ?_⟩, trivial⟩
        · refine L.alloc 1 info65 rfl hF rfl rfl rfl rfl ?_
          refine L.nil ?_
          exact A.on (hO _ _ _ n16383) (Le.mk [(0, 0), (1, 1)] hm rfl ⟨⟨_, rfl, rfl⟩, ⟨_, rfl, rfl⟩, ⟨_, rfl, rfl⟩, ⟨_, rfl, rfl⟩, trivial⟩ trivial ⟨⟨_, _, rfl, rfl, rfl⟩, ⟨_, _, rfl, rfl, rfl⟩, trivial⟩)
      have n12287 : W 2 #[true, true, true, true, true, true, true, true, true, true, true, true, false, true, false] (mkSt [(0, one (cS v5)), (2, one (Cell.ptr 0 0)), (6, one (Cell.ptr 1 0)), (22, one (cI b8)), (25, one (cI b9)), (28, one (cI b10)), (31, one (cI b11))] [] [(0, [cI (0 : Int), cI (0 : Int), cI (0 : Int), cI (0 : Int)]), (1, [cI (0 : Int), cI (0 : Int), cI (0 : Int), cI (0 : Int)])] 2) := by
        refine hI _ _ _ ?_
        refine A.take 12 rfl (by kernel_rfl) (by kernel_rfl) (by kernel_rfl) rfl (Ca.build rfl (by rw [built65]; rfl)) (fun Q0 k0 => L.buildF built65 hF rfl rfl rfl rfl (L.nil k0)) ?_
        exact A.on (hO _ _ _ n16383) (Le.mk [(0, 0), (1, 1)] hm rfl ⟨⟨_, rfl, rfl⟩, ⟨_, rfl, rfl⟩, ⟨_, rfl, rfl⟩, ⟨_, rfl, rfl⟩, trivial⟩ trivial ⟨⟨_, _, rfl, rfl, rfl⟩, ⟨_, _, rfl, rfl, rfl⟩, trivial⟩)
      have n10239 : W 3 #[true, true, true, true, true, true, true, true, true, true, true, false, false, true, false] (mkSt [(0, one (cS v5)), (2, one (Cell.ptr 0 0)), (6, one (Cell.ptr 1 0)), (22, one (cI b8)), (25, one (cI b9)), (28, one (cI b10)), (30, one (Cell.ep 2 ((3 : Int).toNat) 0))] [(2, ⟨1, List.map eI v6⟩)] [(0, [cI (0 : Int), cI (0 : Int), cI (0 : Int), cI (0 : Int)]), (1, [cI (0 : Int), cI (0 : Int), cI (0 : Int), cI (0 : Int)])] 3) := by
        refine hI _ _ _ ?_
        refine A.all [11] (by kernel_rfl) rfl ⟨⟨_, rfl, ?_⟩, trivial⟩
        · refine L.loadEp (xs := v6) (e := eI) shape3 hF rfl rfl rfl rfl (at?_get hb11).2 rfl rfl ?_
          refine L.nil ?_
          exact A.on (hO _ _ _ n12287) (Le.mk [(0, 0), (1, 1)] hm rfl ⟨⟨_, rfl, rfl⟩, ⟨_, rfl, rfl⟩, ⟨_, rfl, rfl⟩, ⟨_, rfl, rfl⟩, ⟨_, rfl, rfl⟩, ⟨_, rfl, rfl⟩, ⟨_, rfl, rfl⟩, trivial⟩ trivial ⟨⟨_, _, rfl, rfl, rfl⟩, ⟨_, _, rfl, rfl, rfl⟩, trivial⟩)
      have n12255 : W 3 #[true, true, true, true, true, false, true, true, true, true, true, true, false, true, false] (mkSt [(0, one (cS v5)), (2, one (Cell.ptr 0 0)), (6, one (Cell.ptr 1 0)), (22, one (cI b8)), (24, one (Cell.ep 2 ((1 : Int).toNat) 0)), (28, one (cI b10)), (31, one (cI b11))] [(2, ⟨1, List.map eI v6⟩)] [(0, [cI (0 : Int), cI (0 : Int), cI (0 : Int), cI (0 : Int)]), (1, [cI (0 : Int), cI (0 : Int), cI (0 : Int), cI (0 : Int)])] 3) := by
        refine hI _ _ _ ?_
        refine A.all [5] (by kernel_rfl) rfl ⟨⟨_, rfl, ?_⟩, trivial⟩
        · refine L.loadEp (xs := v6) (e := eI) shape3 hF rfl rfl rfl rfl (at?_get hb9).2 rfl rfl ?_
          refine L.nil ?_
          exact A.on (hO _ _ _ n12287) (Le.mk [(0, 0), (1, 1)] hm rfl ⟨⟨_, rfl, rfl⟩, ⟨_, rfl, rfl⟩, ⟨_, rfl, rfl⟩, ⟨_, rfl, rfl⟩, ⟨_, rfl, rfl⟩, ⟨_, rfl, rfl⟩, ⟨_, rfl, rfl⟩, trivial⟩ trivial ⟨⟨_, _, rfl, rfl, rfl⟩, ⟨_, _, rfl, rfl, rfl⟩, trivial⟩)
      have n12283 : W 3 #[true, true, false, true, true, true, true, true, true, true, true, true, false, true, false] (mkSt [(0, one (cS v5)), (2, one (Cell.ptr 0 0)), (6, one (Cell.ptr 1 0)), (21, one (Cell.ep 2 ((0 : Int).toNat) 0)), (25, one (cI b9)), (28, one (cI b10)), (31, one (cI b11))] [(2, ⟨1, List.map eI v6⟩)] [(0, [cI (0 : Int), cI (0 : Int), cI (0 : Int), cI (0 : Int)]), (1, [cI (0 : Int), cI (0 : Int), cI (0 : Int), cI (0 : Int)])] 3) := by
        refine hI _ _ _ ?_
        refine A.all [2] (by kernel_rfl) rfl ⟨⟨_, rfl, ?_⟩, trivial⟩
        · refine L.loadEp (xs := v6) (e := eI) shape3 hF rfl rfl rfl rfl (at?_get hb8).2 rfl rfl ?_
          refine L.nil ?_
          exact A.on (hO _ _ _ n12287) (Le.mk [(0, 0), (1, 1)] hm rfl ⟨⟨_, rfl, rfl⟩, ⟨_, rfl, rfl⟩, ⟨_, rfl, rfl⟩, ⟨_, rfl, rfl⟩, ⟨_, rfl, rfl⟩, ⟨_, rfl, rfl⟩, ⟨_, rfl, rfl⟩, trivial⟩ trivial ⟨⟨_, _, rfl, rfl, rfl⟩, ⟨_, _, rfl, rfl, rfl⟩, trivial⟩)
      have n4095 : W 3 #[true, true, true, true, true, true, true, true, true, true, true, true, false, false, false] (mkSt [(0, one (cS v5)), (2, one (Cell.ptr 0 0)), (22, one (cI b8)), (25, one (cI b9)), (28, one (cI b10)), (31, one (cI b11))] [] [(0, [cI (0 : Int), cI (0 : Int), cI (0 : Int), cI (0 : Int)])] 1) := by
        refine hI _ _ _ ?_
        refine A.take 12 rfl (by kernel_rfl) (by kernel_rfl) (by kernel_rfl) rfl (Ca.build rfl (by rw [built65]; rfl)) (fun Q0 k0 => L.buildF built65 hF rfl rfl rfl rfl (L.nil k0)) ?_
        exact A.on (hO _ _ _ n8191) (Le.mk [(0, 0)] hm rfl ⟨⟨_, rfl, rfl⟩, ⟨_, rfl, rfl⟩, ⟨_, rfl, rfl⟩, trivial⟩ trivial ⟨⟨_, _, rfl, rfl, rfl⟩, trivial⟩)
      have n12031 : W 3 #[true, true, true, true, true, true, true, true, false, true, true, true, false, true, false] (mkSt [(0, one (cS v5)), (2, one (Cell.ptr 0 0)), (6, one (Cell.ptr 1 0)), (22, one (cI b8)), (25, one (cI b9)), (27, one (Cell.ep 2 ((2 : Int).toNat) 0)), (31, one (cI b11))] [(2, ⟨1, List.map eI v6⟩)] [(0, [cI (0 : Int), cI (0 : Int), cI (0 : Int), cI (0 : Int)]), (1, [cI (0 : Int), cI (0 : Int), cI (0 : Int), cI (0 : Int)])] 3) := by
        refine hI _ _ _ ?_
        refine A.all [8] (by kernel_rfl) rfl ⟨⟨_, rfl, ?_⟩, trivial⟩
        · refine L.loadEp (xs := v6) (e := eI) shape3 hF rfl rfl rfl rfl (at?_get hb10).2 rfl rfl ?_
          refine L.nil ?_
          exact A.on (hO _ _ _ n12287) (Le.mk [(0, 0), (1, 1)] hm rfl ⟨⟨_, rfl, rfl⟩, ⟨_, rfl, rfl⟩, ⟨_, rfl, rfl⟩, ⟨_, rfl, rfl⟩, ⟨_, rfl, rfl⟩, ⟨_, rfl, rfl⟩, ⟨_, rfl, rfl⟩, trivial⟩ trivial ⟨⟨_, _, rfl, rfl, rfl⟩, ⟨_, _, rfl, rfl, rfl⟩, trivial⟩)
      have n10207 : W 4 #[true, true, true, true, true, false, true, true, true, true, true, false, false, true, false] (mkSt [(0, one (cS v5)), (2, one (Cell.ptr 0 0)), (6, one (Cell.ptr 1 0)), (22, one (cI b8)), (24, one (Cell.ep 2 ((1 : Int).toNat) 0)), (28, one (cI b10)), (30, one (Cell.ep 2 ((3 : Int).toNat) 0))] [(2, ⟨1, List.map eI v6⟩)] [(0, [cI (0 : Int), cI (0 : Int), cI (0 : Int), cI (0 : Int)]), (1, [cI (0 : Int), cI (0 : Int), cI (0 : Int), cI (0 : Int)])] 3) := by
        refine hI _ _ _ ?_
        refine A.all [5, 11] (by kernel_rfl) rfl ⟨⟨_, rfl, ?_⟩, ⟨_, rfl, ?_⟩, trivial⟩
        · refine L.loadEp (xs := v6) (e := eI) shape3 hF rfl rfl rfl rfl (at?_get hb9).2 rfl rfl ?_
          refine L.nil ?_
          exact A.on (hO _ _ _ n10239) (Le.mk [(0, 0), (1, 1), (2, 2)] hm rfl ⟨⟨_, rfl, rfl⟩, ⟨_, rfl, rfl⟩, ⟨_, rfl, rfl⟩, ⟨_, rfl, rfl⟩, ⟨_, rfl, rfl⟩, ⟨_, rfl, rfl⟩, ⟨_, rfl, rfl⟩, trivial⟩ ⟨⟨_, rfl, rfl⟩, trivial⟩ ⟨⟨_, _, rfl, rfl, rfl⟩, ⟨_, _, rfl, rfl, rfl⟩, trivial⟩)
        · refine L.loadEp (xs := v6) (e := eI) shape3 hF rfl rfl rfl rfl (at?_get hb11).2 rfl rfl ?_
          refine L.nil ?_
          exact A.on (hO _ _ _ n12255) (Le.mk [(0, 0), (1, 1), (2, 2)] hm rfl ⟨⟨_, rfl, rfl⟩, ⟨_, rfl, rfl⟩, ⟨_, rfl, rfl⟩, ⟨_, rfl, rfl⟩, ⟨_, rfl, rfl⟩, ⟨_, rfl, rfl⟩, ⟨_, rfl, rfl⟩, trivial⟩ ⟨⟨_, rfl, rfl⟩, trivial⟩ ⟨⟨_, _, rfl, rfl, rfl⟩, ⟨_, _, rfl, rfl, rfl⟩, trivial⟩)
      have n10235 : W 4 #[true, true, false, true, true, true, true, true, true, true, true, false, false, true, false] (mkSt [(0, one (cS v5)), (2, one (Cell.ptr 0 0)), (6, one (Cell.ptr 1 0)), (21, one (Cell.ep 2 ((0 : Int).toNat) 0)), (25, one (cI b9)), (28, one (cI b10)), (30, one (Cell.ep 2 ((3 : Int).toNat) 0))] [(2, ⟨1, List.map eI v6⟩)] [(0, [cI (0 : Int), cI (0 : Int), cI (0 : Int), cI (0 : Int)]), (1, [cI (0 : Int), cI (0 : Int), cI (0 : Int), cI (0 : Int)])] 3) := by
        refine hI _ _ _ ?_
        refine A.all [2, 11] (by kernel_rfl) rfl ⟨⟨_, rfl, ?_⟩, ⟨_, rfl, ?_⟩, trivial⟩
        · refine L.loadEp (xs := v6) (e := eI) shape3 hF rfl rfl rfl rfl (at?_get hb8).2 rfl rfl ?_
          refine L.nil ?_
          exact A.on (hO _ _ _ n10239) (Le.mk [(0, 0), (1, 1), (2, 2)] hm rfl ⟨⟨_, rfl, rfl⟩, ⟨_, rfl, rfl⟩, ⟨_, rfl, rfl⟩, ⟨_, rfl, rfl⟩, ⟨_, rfl, rfl⟩, ⟨_, rfl, rfl⟩, ⟨_, rfl, rfl⟩, trivial⟩ ⟨⟨_, rfl, rfl⟩, trivial⟩ ⟨⟨_, _, rfl, rfl, rfl⟩, ⟨_, _, rfl, rfl, rfl⟩, trivial⟩)
        · refine L.loadEp (xs := v6) (e := eI) shape3 hF rfl rfl rfl rfl (at?_get hb11).2 rfl rfl ?_
          refine L.nil ?_
          exact A.on (hO _ _ _ n12283) (Le.mk [(0, 0), (1, 1), (2, 2)] hm rfl ⟨⟨_, rfl, rfl⟩, ⟨_, rfl, rfl⟩, ⟨_, rfl, rfl⟩, ⟨_, rfl, rfl⟩, ⟨_, rfl, rfl⟩, ⟨_, rfl, rfl⟩, ⟨_, rfl, rfl⟩, trivial⟩ ⟨⟨_, rfl, rfl⟩, trivial⟩ ⟨⟨_, _, rfl, rfl, rfl⟩, ⟨_, _, rfl, rfl, rfl⟩, trivial⟩)
      have n9983 : W 4 #[true, true, true, true, true, true, true, true, false, true, true, false, false, true, false] (mkSt [(0, one (cS v5)), (2, one (Cell.ptr 0 0)), (6, one (Cell.ptr 1 0)), (22, one (cI b8)), (25, one (cI b9)), (27, one (Cell.ep 2 ((2 : Int).toNat) 0)), (30, one (Cell.ep 2 ((3 : Int).toNat) 0))] [(2, ⟨1, List.map eI v6⟩)] [(0, [cI (0 : Int), cI (0 : Int), cI (0 : Int), cI (0 : Int)]), (1, [cI (0 : Int), cI (0 : Int), cI (0 : Int), cI (0 : Int)])] 3) := by
        refine hI _ _ _ ?_
        refine A.all [8, 11] (by kernel_rfl) rfl ⟨⟨_, rfl, ?_⟩, ⟨_, rfl, ?_⟩, trivial⟩
        · refine L.loadEp (xs := v6) (e := eI) shape3 hF rfl rfl rfl rfl (at?_get hb10).2 rfl rfl ?_
          refine L.nil ?_
          exact A.on (hO _ _ _ n10239) (Le.mk [(0, 0), (1, 1), (2, 2)] hm rfl ⟨⟨_, rfl, rfl⟩, ⟨_, rfl, rfl⟩, ⟨_, rfl, rfl⟩, ⟨_, rfl, rfl⟩, ⟨_, rfl, rfl⟩, ⟨_, rfl, rfl⟩, ⟨_, rfl, rfl⟩, trivial⟩ ⟨⟨_, rfl, rfl⟩, trivial⟩ ⟨⟨_, _, rfl, rfl, rfl⟩, ⟨_, _, rfl, rfl, rfl⟩, trivial⟩)
        · refine L.loadEp (xs := v6) (e := eI) shape3 hF rfl rfl rfl rfl (at?_get hb11).2 rfl rfl ?_
          refine L.nil ?_
          exact A.on (hO _ _ _ n12031) (Le.mk [(0, 0), (1, 1), (2, 2)] hm rfl ⟨⟨_, rfl, rfl⟩, ⟨_, rfl, rfl⟩, ⟨_, rfl, rfl⟩, ⟨_, rfl, rfl⟩, ⟨_, rfl, rfl⟩, ⟨_, rfl, rfl⟩, ⟨_, rfl, rfl⟩, trivial⟩ ⟨⟨_, rfl, rfl⟩, trivial⟩ ⟨⟨_, _, rfl, rfl, rfl⟩, ⟨_, _, rfl, rfl, rfl⟩, trivial⟩)
      have n2047 : W 4 #[true, true, true, true, true, true, true, true, true, true, true, false, false, false, false] (mkSt [(0, one (cS v5)), (2, one (Cell.ptr 0 0)), (22, one (cI b8)), (25, one (cI b9)), (28, one (cI b10)), (30, one (Cell.ep 1 ((3 : Int).toNat) 0))] [(1, ⟨1, List.map eI v6⟩)] [(0, [cI (0 : Int), cI (0 : Int), cI (0 : Int), cI (0 : Int)])] 2) := by
        refine hI _ _ _ ?_
        refine A.all [11, 13] (by kernel_rfl) rfl ⟨⟨_, rfl, ?_⟩, ⟨_, rfl, ?_⟩, trivial⟩
        · refine L.loadEp (xs := v6) (e := eI) shape3 hF rfl rfl rfl rfl (at?_get hb11).2 rfl rfl ?_
          refine L.nil ?_
          exact A.on (hO _ _ _ n4095) (Le.mk [(0, 0)] hm rfl ⟨⟨_, rfl, rfl⟩, ⟨_, rfl, rfl⟩, ⟨_, rfl, rfl⟩, ⟨_, rfl, rfl⟩, ⟨_, rfl, rfl⟩, ⟨_, rfl, rfl⟩, trivial⟩ trivial ⟨⟨_, _, rfl, rfl, rfl⟩, trivial⟩)
        · refine L.alloc 2 info65 rfl hF rfl rfl rfl rfl ?_
          refine L.nil ?_
          exact A.on (hO _ _ _ n10239) (Le.mk [(0, 0), (1, 2), (2, 1)] hm rfl ⟨⟨_, rfl, rfl⟩, ⟨_, rfl, rfl⟩, ⟨_, rfl, rfl⟩, ⟨_, rfl, rfl⟩, ⟨_, rfl, rfl⟩, ⟨_, rfl, rfl⟩, ⟨_, rfl, rfl⟩, trivial⟩ ⟨⟨_, rfl, rfl⟩, trivial⟩ ⟨⟨_, _, rfl, rfl, rfl⟩, ⟨_, _, rfl, rfl, rfl⟩, trivial⟩)
      have n12251 : W 4 #[true, true, false, true, true, false, true, true, true, true, true, true, false, true, false] (mkSt [(0, one (cS v5)), (2, one (Cell.ptr 0 0)), (6, one (Cell.ptr 1 0)), (21, one (Cell.ep 2 ((0 : Int).toNat) 0)), (24, one (Cell.ep 2 ((1 : Int).toNat) 0)), (28, one (cI b10)), (31, one (cI b11))] [(2, ⟨1, List.map eI v6⟩)] [(0, [cI (0 : Int), cI (0 : Int), cI (0 : Int), cI (0 : Int)]), (1, [cI (0 : Int), cI (0 : Int), cI (0 : Int), cI (0 : Int)])] 3) := by
        refine hI _ _ _ ?_
        refine A.all [2, 5] (by kernel_rfl) rfl ⟨⟨_, rfl, ?_⟩, ⟨_, rfl, ?_⟩, trivial⟩
        · refine L.loadEp (xs := v6) (e := eI) shape3 hF rfl rfl rfl rfl (at?_get hb8).2 rfl rfl ?_
          refine L.nil ?_
          exact A.on (hO _ _ _ n12255) (Le.mk [(0, 0), (1, 1), (2, 2)] hm rfl ⟨⟨_, rfl, rfl⟩, ⟨_, rfl, rfl⟩, ⟨_, rfl, rfl⟩, ⟨_, rfl, rfl⟩, ⟨_, rfl, rfl⟩, ⟨_, rfl, rfl⟩, ⟨_, rfl, rfl⟩, trivial⟩ ⟨⟨_, rfl, rfl⟩, trivial⟩ ⟨⟨_, _, rfl, rfl, rfl⟩, ⟨_, _, rfl, rfl, rfl⟩, trivial⟩)
        · refine L.loadEp (xs := v6) (e := eI) shape3 hF rfl rfl rfl rfl (at?_get hb9).2 rfl rfl ?_
          refine L.nil ?_
          exact A.on (hO _ _ _ n12283) (Le.mk [(0, 0), (1, 1), (2, 2)] hm rfl ⟨⟨_, rfl, rfl⟩, ⟨_, rfl, rfl⟩, ⟨_, rfl, rfl⟩, ⟨_, rfl, rfl⟩, ⟨_, rfl, rfl⟩, ⟨_, rfl, rfl⟩, ⟨_, rfl, rfl⟩, trivial⟩ ⟨⟨_, rfl, rfl⟩, trivial⟩ ⟨⟨_, _, rfl, rfl, rfl⟩, ⟨_, _, rfl, rfl, rfl⟩, trivial⟩)
      have n4063 : W 4 #[true, true, true, true, true, false, true, true, true, true, true, true, false, false, false] (mkSt [(0, one (cS v5)), (2, one (Cell.ptr 0 0)), (22, one (cI b8)), (24, one (Cell.ep 1 ((1 : Int).toNat) 0)), (28, one (cI b10)), (31, one (cI b11))] [(1, ⟨1, List.map eI v6⟩)] [(0, [cI (0 : Int), cI (0 : Int), cI (0 : Int), cI (0 : Int)])] 2) := by
        refine hI _ _ _ ?_
        refine A.all [5, 13] (by kernel_rfl) rfl ⟨⟨_, rfl, ?_⟩, ⟨_, rfl, ?_⟩, trivial⟩
        · refine L.loadEp (xs := v6) (e := eI) shape3 hF rfl rfl rfl rfl (at?_get hb9).2 rfl rfl ?_
          refine L.nil ?_
          exact A.on (hO _ _ _ n4095) (Le.mk [(0, 0)] hm rfl ⟨⟨_, rfl, rfl⟩, ⟨_, rfl, rfl⟩, ⟨_, rfl, rfl⟩, ⟨_, rfl, rfl⟩, ⟨_, rfl, rfl⟩, ⟨_, rfl, rfl⟩, trivial⟩ trivial ⟨⟨_, _, rfl, rfl, rfl⟩, trivial⟩)
        · refine L.alloc 2 info65 rfl hF rfl rfl rfl rfl ?_
          refine L.nil ?_
          exact A.on (hO _ _ _ n12255) (Le.mk [(0, 0), (1, 2), (2, 1)] hm rfl ⟨⟨_, rfl, rfl⟩, ⟨_, rfl, rfl⟩, ⟨_, rfl, rfl⟩, ⟨_, rfl, rfl⟩, ⟨_, rfl, rfl⟩, ⟨_, rfl, rfl⟩, ⟨_, rfl, rfl⟩, trivial⟩ ⟨⟨_, rfl, rfl⟩, trivial⟩ ⟨⟨_, _, rfl, rfl, rfl⟩, ⟨_, _, rfl, rfl, rfl⟩, trivial⟩)
      have n11999 : W 4 #[true, true, true, true, true, false, true, true, false, true, true, true, false, true, false] (mkSt [(0, one (cS v5)), (2, one (Cell.ptr 0 0)), (6, one (Cell.ptr 1 0)), (22, one (cI b8)), (24, one (Cell.ep 2 ((1 : Int).toNat) 0)), (27, one (Cell.ep 2 ((2 : Int).toNat) 0)), (31, one (cI b11))] [(2, ⟨1, List.map eI v6⟩)] [(0, [cI (0 : Int), cI (0 : Int), cI (0 : Int), cI (0 : Int)]), (1, [cI (0 : Int), cI (0 : Int), cI (0 : Int), cI (0 : Int)])] 3) := by
        refine hI _ _ _ ?_
        refine A.all [5, 8] (by kernel_rfl) rfl ⟨⟨_, rfl, ?_⟩, ⟨_, rfl, ?_⟩, trivial⟩
        · refine L.loadEp (xs := v6) (e := eI) shape3 hF rfl rfl rfl rfl (at?_get hb9).2 rfl rfl ?_
          refine L.nil ?_
          exact A.on (hO _ _ _ n12031) (Le.mk [(0, 0), (1, 1), (2, 2)] hm rfl ⟨⟨_, rfl, rfl⟩, ⟨_, rfl, rfl⟩, ⟨_, rfl, rfl⟩, ⟨_, rfl, rfl⟩, ⟨_, rfl, rfl⟩, ⟨_, rfl, rfl⟩, ⟨_, rfl, rfl⟩, trivial⟩ ⟨⟨_, rfl, rfl⟩, trivial⟩ ⟨⟨_, _, rfl, rfl, rfl⟩, ⟨_, _, rfl, rfl, rfl⟩, trivial⟩)
        · refine L.loadEp (xs := v6) (e := eI) shape3 hF rfl rfl rfl rfl (at?_get hb10).2 rfl rfl ?_
          refine L.nil ?_
          exact A.on (hO _ _ _ n12255) (Le.mk [(0, 0), (1, 1), (2, 2)] hm rfl ⟨⟨_, rfl, rfl⟩, ⟨_, rfl, rfl⟩, ⟨_, rfl, rfl⟩, ⟨_, rfl, rfl⟩, ⟨_, rfl, rfl⟩, ⟨_, rfl, rfl⟩, ⟨_, rfl, rfl⟩, trivial⟩ ⟨⟨_, rfl, rfl⟩, trivial⟩ ⟨⟨_, _, rfl, rfl, rfl⟩, ⟨_, _, rfl, rfl, rfl⟩, trivial⟩)
      have n12027 : W 4 #[true, true, false, true, true, true, true, true, false, true, true, true, false, true, false] (mkSt [(0, one (cS v5)), (2, one (Cell.ptr 0 0)), (6, one (Cell.ptr 1 0)), (21, one (Cell.ep 2 ((0 : Int).toNat) 0)), (25, one (cI b9)), (27, one (Cell.ep 2 ((2 : Int).toNat) 0)), (31, one (cI b11))] [(2, ⟨1, List.map eI v6⟩)] [(0, [cI (0 : Int), cI (0 : Int), cI (0 : Int), cI (0 : Int)]), (1, [cI (0 : Int), cI (0 : Int), cI (0 : Int), cI (0 : Int)])] 3) := by
        refine hI _ _ _ ?_
        refine A.all [2, 8] (by kernel_rfl) rfl ⟨⟨_, rfl, ?_⟩, ⟨_, rfl, ?_⟩, trivial⟩
        · refine L.loadEp (xs := v6) (e := eI) shape3 hF rfl rfl rfl rfl (at?_get hb8).2 rfl rfl ?_
          refine L.nil ?_
          exact A.on (hO _ _ _ n12031) (Le.mk [(0, 0), (1, 1), (2, 2)] hm rfl ⟨⟨_, rfl, rfl⟩, ⟨_, rfl, rfl⟩, ⟨_, rfl, rfl⟩, ⟨_, rfl, rfl⟩, ⟨_, rfl, rfl⟩, ⟨_, rfl, rfl⟩, ⟨_, rfl, rfl⟩, trivial⟩ ⟨⟨_, rfl, rfl⟩, trivial⟩ ⟨⟨_, _, rfl, rfl, rfl⟩, ⟨_, _, rfl, rfl, rfl⟩, trivial⟩)
        · refine L.loadEp (xs := v6) (e := eI) shape3 hF rfl rfl rfl rfl (at?_get hb10).2 rfl rfl ?_
          refine L.nil ?_
          exact A.on (hO _ _ _ n12283) (Le.mk [(0, 0), (1, 1), (2, 2)] hm rfl ⟨⟨_, rfl, rfl⟩, ⟨_, rfl, rfl⟩, ⟨_, rfl, rfl⟩, ⟨_, rfl, rfl⟩, ⟨_, rfl, rfl⟩, ⟨_, rfl, rfl⟩, ⟨_, rfl, rfl⟩, trivial⟩ ⟨⟨_, rfl, rfl⟩, trivial⟩ ⟨⟨_, _, rfl, rfl, rfl⟩, ⟨_, _, rfl, rfl, rfl⟩, trivial⟩)
      have n4091 : W 4 #[true, true, false, true, true, true, true, true, true, true, true, true, false, false, false] (mkSt [(0, one (cS v5)), (2, one (Cell.ptr 0 0)), (21, one (Cell.ep 1 ((0 : Int).toNat) 0)), (25, one (cI b9)), (28, one (cI b10)), (31, one (cI b11))] [(1, ⟨1, List.map eI v6⟩)] [(0, [cI (0 : Int), cI (0 : Int), cI (0 : Int), cI (0 : Int)])] 2) := by
        refine hI _ _ _ ?_
        refine A.all [2, 13] (by kernel_rfl) rfl ⟨⟨_, rfl, ?_⟩, ⟨_, rfl, ?_⟩, trivial⟩
        · refine L.loadEp (xs := v6) (e := eI) shape3 hF rfl rfl rfl rfl (at?_get hb8).2 rfl rfl ?_
          refine L.nil ?_
          exact A.on (hO _ _ _ n4095) (Le.mk [(0, 0)] hm rfl ⟨⟨_, rfl, rfl⟩, ⟨_, rfl, rfl⟩, ⟨_, rfl, rfl⟩, ⟨_, rfl, rfl⟩, ⟨_, rfl, rfl⟩, ⟨_, rfl, rfl⟩, trivial⟩ trivial ⟨⟨_, _, rfl, rfl, rfl⟩, trivial⟩)
        · refine L.alloc 2 info65 rfl hF rfl rfl rfl rfl ?_
          refine L.nil ?_
          exact A.on (hO _ _ _ n12283) (Le.mk [(0, 0), (1, 2), (2, 1)] hm rfl ⟨⟨_, rfl, rfl⟩, ⟨_, rfl, rfl⟩, ⟨_, rfl, rfl⟩, ⟨_, rfl, rfl⟩, ⟨_, rfl, rfl⟩, ⟨_, rfl, rfl⟩, ⟨_, rfl, rfl⟩, trivial⟩ ⟨⟨_, rfl, rfl⟩, trivial⟩ ⟨⟨_, _, rfl, rfl, rfl⟩, ⟨_, _, rfl, rfl, rfl⟩, trivial⟩)
      have n3839 : W 4 #[true, true, true, true, true, true, true, true, false, true, true, true, false, false, false] (mkSt [(0, one (cS v5)), (2, one (Cell.ptr 0 0)), (22, one (cI b8)), (25, one (cI b9)), (27, one (Cell.ep 1 ((2 : Int).toNat) 0)), (31, one (cI b11))] [(1, ⟨1, List.map eI v6⟩)] [(0, [cI (0 : Int), cI (0 : Int), cI (0 : Int), cI (0 : Int)])] 2) := by
        refine hI _ _ _ ?_
        refine A.all [8, 13] (by kernel_rfl) rfl ⟨⟨_, rfl, ?_⟩, ⟨_, rfl, ?_⟩, trivial⟩
        · refine L.loadEp (xs := v6) (e := eI) shape3 hF rfl rfl rfl rfl (at?_get hb10).2 rfl rfl ?_
          refine L.nil ?_
          exact A.on (hO _ _ _ n4095) (Le.mk [(0, 0)] hm rfl ⟨⟨_, rfl, rfl⟩, ⟨_, rfl, rfl⟩, ⟨_, rfl, rfl⟩, ⟨_, rfl, rfl⟩, ⟨_, rfl, rfl⟩, ⟨_, rfl, rfl⟩, trivial⟩ trivial ⟨⟨_, _, rfl, rfl, rfl⟩, trivial⟩)
        · refine L.alloc 2 info65 rfl hF rfl rfl rfl rfl ?_
          refine L.nil ?_
          exact A.on (hO _ _ _ n12031) (Le.mk [(0, 0), (1, 2), (2, 1)] hm rfl ⟨⟨_, rfl, rfl⟩, ⟨_, rfl, rfl⟩, ⟨_, rfl, rfl⟩, ⟨_, rfl, rfl⟩, ⟨_, rfl, rfl⟩, ⟨_, rfl, rfl⟩, ⟨_, rfl, rfl⟩, trivial⟩ ⟨⟨_, rfl, rfl⟩, trivial⟩ ⟨⟨_, _, rfl, rfl, rfl⟩, ⟨_, _, rfl, rfl, rfl⟩, trivial⟩)
      have n2015 : W 5 #[true, true, true, true, true, false, true, true, true, true, true, false, false, false, false] (mkSt [(0, one (cS v5)), (2, one (Cell.ptr 0 0)), (22, one (cI b8)), (24, one (Cell.ep 1 ((1 : Int).toNat) 0)), (28, one (cI b10)), (30, one (Cell.ep 1 ((3 : Int).toNat) 0))] [(1, ⟨1, List.map eI v6⟩)] [(0, [cI (0 : Int), cI (0 : Int), cI (0 : Int), cI (0 : Int)])] 2) := by
        refine hI _ _ _ ?_
        refine A.all [5, 11, 13] (by kernel_rfl) rfl ⟨⟨_, rfl, ?_⟩, ⟨_, rfl, ?_⟩, ⟨_, rfl, ?_⟩, trivial⟩
        · refine L.loadEp (xs := v6) (e := eI) shape3 hF rfl rfl rfl rfl (at?_get hb9).2 rfl rfl ?_
          refine L.nil ?_
          exact A.on (hO _ _ _ n2047) (Le.mk [(0, 0), (1, 1)] hm rfl ⟨⟨_, rfl, rfl⟩, ⟨_, rfl, rfl⟩, ⟨_, rfl, rfl⟩, ⟨_, rfl, rfl⟩, ⟨_, rfl, rfl⟩, ⟨_, rfl, rfl⟩, trivial⟩ ⟨⟨_, rfl, rfl⟩, trivial⟩ ⟨⟨_, _, rfl, rfl, rfl⟩, trivial⟩)
        · refine L.loadEp (xs := v6) (e := eI) shape3 hF rfl rfl rfl rfl (at?_get hb11).2 rfl rfl ?_
          refine L.nil ?_
          exact A.on (hO _ _ _ n4063) (Le.mk [(0, 0), (1, 1)] hm rfl ⟨⟨_, rfl, rfl⟩, ⟨_, rfl, rfl⟩, ⟨_, rfl, rfl⟩, ⟨_, rfl, rfl⟩, ⟨_, rfl, rfl⟩, ⟨_, rfl, rfl⟩, trivial⟩ ⟨⟨_, rfl, rfl⟩, trivial⟩ ⟨⟨_, _, rfl, rfl, rfl⟩, trivial⟩)
        · refine L.alloc 2 info65 rfl hF rfl rfl rfl rfl ?_
          refine L.nil ?_
          exact A.on (hO _ _ _ n10207) (Le.mk [(0, 0), (1, 2), (2, 1)] hm rfl ⟨⟨_, rfl, rfl⟩, ⟨_, rfl, rfl⟩, ⟨_, rfl, rfl⟩, ⟨_, rfl, rfl⟩, ⟨_, rfl, rfl⟩, ⟨_, rfl, rfl⟩, ⟨_, rfl, rfl⟩, trivial⟩ ⟨⟨_, rfl, rfl⟩, trivial⟩ ⟨⟨_, _, rfl, rfl, rfl⟩, ⟨_, _, rfl, rfl, rfl⟩, trivial⟩)
      have n2043 : W 5 #[true, true, false, true, true, true, true, true, true, true, true, false, false, false, false] (mkSt [(0, one (cS v5)), (2, one (Cell.ptr 0 0)), (21, one (Cell.ep 1 ((0 : Int).toNat) 0)), (25, one (cI b9)), (28, one (cI b10)), (30, one (Cell.ep 1 ((3 : Int).toNat) 0))] [(1, ⟨1, List.map eI v6⟩)] [(0, [cI (0 : Int), cI (0 : Int), cI (0 : Int), cI (0 : Int)])] 2) := by
        refine hI _ _ _ ?_
        refine A.all [2, 11, 13] (by kernel_rfl) rfl ⟨⟨_, rfl, ?_⟩, ⟨_, rfl, ?_⟩, ⟨_, rfl, ?_⟩, trivial⟩
        · refine L.loadEp (xs := v6) (e := eI) shape3 hF rfl rfl rfl rfl (at?_get hb8).2 rfl rfl ?_
          refine L.nil ?_
          exact A.on (hO _ _ _ n2047) (Le.mk [(0, 0), (1, 1)] hm rfl ⟨⟨_, rfl, rfl⟩, ⟨_, rfl, rfl⟩, ⟨_, rfl, rfl⟩, ⟨_, rfl, rfl⟩, ⟨_, rfl, rfl⟩, ⟨_, rfl, rfl⟩, trivial⟩ ⟨⟨_, rfl, rfl⟩, trivial⟩ ⟨⟨_, _, rfl, rfl, rfl⟩, trivial⟩)
        · refine L.loadEp (xs := v6) (e := eI) shape3 hF rfl rfl rfl rfl (at?_get hb11).2 rfl rfl ?_
          refine L.nil ?_
          exact A.on (hO _ _ _ n4091) (Le.mk [(0, 0), (1, 1)] hm rfl ⟨⟨_, rfl, rfl⟩, ⟨_, rfl, rfl⟩, ⟨_, rfl, rfl⟩, ⟨_, rfl, rfl⟩, ⟨_, rfl, rfl⟩, ⟨_, rfl, rfl⟩, trivial⟩ ⟨⟨_, rfl, rfl⟩, trivial⟩ ⟨⟨_, _, rfl, rfl, rfl⟩, trivial⟩)
        · refine L.alloc 2 info65 rfl hF rfl rfl rfl rfl ?_
          refine L.nil ?_
          exact A.on (hO _ _ _ n10235) (Le.mk [(0, 0), (1, 2), (2, 1)] hm rfl ⟨⟨_, rfl, rfl⟩, ⟨_, rfl, rfl⟩, ⟨_, rfl, rfl⟩, ⟨_, rfl, rfl⟩, ⟨_, rfl, rfl⟩, ⟨_, rfl, rfl⟩, ⟨_, rfl, rfl⟩, trivial⟩ ⟨⟨_, rfl, rfl⟩, trivial⟩ ⟨⟨_, _, rfl, rfl, rfl⟩, ⟨_, _, rfl, rfl, rfl⟩, trivial⟩)
      have n1791 : W 5 #[true, true, true, true, true, true, true, true, false, true, true, false, false, false, false] (mkSt [(0, one (cS v5)), (2, one (Cell.ptr 0 0)), (22, one (cI b8)), (25, one (cI b9)), (27, one (Cell.ep 1 ((2 : Int).toNat) 0)), (30, one (Cell.ep 1 ((3 : Int).toNat) 0))] [(1, ⟨1, List.map eI v6⟩)] [(0, [cI (0 : Int), cI (0 : Int), cI (0 : Int), cI (0 : Int)])] 2) := by
        refine hI _ _ _ ?_
        refine A.all [8, 11, 13] (by kernel_rfl) rfl ⟨⟨_, rfl, ?_⟩, ⟨_, rfl, ?_⟩, ⟨_, rfl, ?_⟩, trivial⟩
        · refine L.loadEp (xs := v6) (e := eI) shape3 hF rfl rfl rfl rfl (at?_get hb10).2 rfl rfl ?_
          refine L.nil ?_
          exact A.on (hO _ _ _ n2047) (Le.mk [(0, 0), (1, 1)] hm rfl ⟨⟨_, rfl, rfl⟩, ⟨_, rfl, rfl⟩, ⟨_, rfl, rfl⟩, ⟨_, rfl, rfl⟩, ⟨_, rfl, rfl⟩, ⟨_, rfl, rfl⟩, trivial⟩ ⟨⟨_, rfl, rfl⟩, trivial⟩ ⟨⟨_, _, rfl, rfl, rfl⟩, trivial⟩)
        · refine L.loadEp (xs := v6) (e := eI) shape3 hF rfl rfl rfl rfl (at?_get hb11).2 rfl rfl ?_
          refine L.nil ?_
          exact A.on (hO _ _ _ n3839) (Le.mk [(0, 0), (1, 1)] hm rfl ⟨⟨_, rfl, rfl⟩, ⟨_, rfl, rfl⟩, ⟨_, rfl, rfl⟩, ⟨_, rfl, rfl⟩, ⟨_, rfl, rfl⟩, ⟨_, rfl, rfl⟩, trivial⟩ ⟨⟨_, rfl, rfl⟩, trivial⟩ ⟨⟨_, _, rfl, rfl, rfl⟩, trivial⟩)
        · refine L.alloc 2 info65 rfl hF rfl rfl rfl rfl ?_
          refine L.nil ?_
          exact A.on (hO _ _ _ n9983) (Le.mk [(0, 0), (1, 2), (2, 1)] hm rfl ⟨⟨_, rfl, rfl⟩, ⟨_, rfl, rfl⟩, ⟨_, rfl, rfl⟩, ⟨_, rfl, rfl⟩, ⟨_, rfl, rfl⟩, ⟨_, rfl, rfl⟩, ⟨_, rfl, rfl⟩, trivial⟩ ⟨⟨_, rfl, rfl⟩, trivial⟩ ⟨⟨_, _, rfl, rfl, rfl⟩, ⟨_, _, rfl, rfl, rfl⟩, trivial⟩)
      have n4059 : W 5 #[true, true, false, true, true, false, true, true, true, true, true, true, false, false, false] (mkSt [(0, one (cS v5)), (2, one (Cell.ptr 0 0)), (21, one (Cell.ep 1 ((0 : Int).toNat) 0)), (24, one (Cell.ep 1 ((1 : Int).toNat) 0)), (28, one (cI b10)), (31, one (cI b11))] [(1, ⟨1, List.map eI v6⟩)] [(0, [cI (0 : Int), cI (0 : Int), cI (0 : Int), cI (0 : Int)])] 2) := by
        refine hI _ _ _ ?_
        refine A.all [2, 5, 13] (by kernel_rfl) rfl ⟨⟨_, rfl, ?_⟩, ⟨_, rfl, ?_⟩, ⟨_, rfl, ?_⟩, trivial⟩
        · refine L.loadEp (xs := v6) (e := eI) shape3 hF rfl rfl rfl rfl (at?_get hb8).2 rfl rfl ?_
          refine L.nil ?_
          exact A.on (hO _ _ _ n4063) (Le.mk [(0, 0), (1, 1)] hm rfl ⟨⟨_, rfl, rfl⟩, ⟨_, rfl, rfl⟩, ⟨_, rfl, rfl⟩, ⟨_, rfl, rfl⟩, ⟨_, rfl, rfl⟩, ⟨_, rfl, rfl⟩, trivial⟩ ⟨⟨_, rfl, rfl⟩, trivial⟩ ⟨⟨_, _, rfl, rfl, rfl⟩, trivial⟩)
        · refine L.loadEp (xs := v6) (e := eI) shape3 hF rfl rfl rfl rfl (at?_get hb9).2 rfl rfl ?_
          refine L.nil ?_
          exact A.on (hO _ _ _ n4091) (Le.mk [(0, 0), (1, 1)] hm rfl ⟨⟨_, rfl, rfl⟩, ⟨_, rfl, rfl⟩, ⟨_, rfl, rfl⟩, ⟨_, rfl, rfl⟩, ⟨_, rfl, rfl⟩, ⟨_, rfl, rfl⟩, trivial⟩ ⟨⟨_, rfl, rfl⟩, trivial⟩ ⟨⟨_, _, rfl, rfl, rfl⟩, trivial⟩)
        · refine L.alloc 2 info65 rfl hF rfl rfl rfl rfl ?_
          refine L.nil ?_
          exact A.on (hO _ _ _ n12251) (Le.mk [(0, 0), (1, 2), (2, 1)] hm rfl ⟨⟨_, rfl, rfl⟩, ⟨_, rfl, rfl⟩, ⟨_, rfl, rfl⟩, ⟨_, rfl, rfl⟩, ⟨_, rfl, rfl⟩, ⟨_, rfl, rfl⟩, ⟨_, rfl, rfl⟩, trivial⟩ ⟨⟨_, rfl, rfl⟩, trivial⟩ ⟨⟨_, _, rfl, rfl, rfl⟩, ⟨_, _, rfl, rfl, rfl⟩, trivial⟩)
      have n3835 : W 5 #[true, true, false, true, true, true, true, true, false, true, true, true, false, false, false] (mkSt [(0, one (cS v5)), (2, one (Cell.ptr 0 0)), (21, one (Cell.ep 1 ((0 : Int).toNat) 0)), (25, one (cI b9)), (27, one (Cell.ep 1 ((2 : Int).toNat) 0)), (31, one (cI b11))] [(1, ⟨1, List.map eI v6⟩)] [(0, [cI (0 : Int), cI (0 : Int), cI (0 : Int), cI (0 : Int)])] 2) := by
        refine hI _ _ _ ?_
        refine A.all [2, 8, 13] (by kernel_rfl) rfl ⟨⟨_, rfl, ?_⟩, ⟨_, rfl, ?_⟩, ⟨_, rfl, ?_⟩, trivial⟩
        · refine L.loadEp (xs := v6) (e := eI) shape3 hF rfl rfl rfl rfl (at?_get hb8).2 rfl rfl ?_
          refine L.nil ?_
          exact A.on (hO _ _ _ n3839) (Le.mk [(0, 0), (1, 1)] hm rfl ⟨⟨_, rfl, rfl⟩, ⟨_, rfl, rfl⟩, ⟨_, rfl, rfl⟩, ⟨_, rfl, rfl⟩, ⟨_, rfl, rfl⟩, ⟨_, rfl, rfl⟩, trivial⟩ ⟨⟨_, rfl, rfl⟩, trivial⟩ ⟨⟨_, _, rfl, rfl, rfl⟩, trivial⟩)
        · refine L.loadEp (xs := v6) (e := eI) shape3 hF rfl rfl rfl rfl (at?_get hb10).2 rfl rfl ?_
          refine L.nil ?_
          exact A.on (hO _ _ _ n4091) (Le.mk [(0, 0), (1, 1)] hm rfl ⟨⟨_, rfl, rfl⟩, ⟨_, rfl, rfl⟩, ⟨_, rfl, rfl⟩, ⟨_, rfl, rfl⟩, ⟨_, rfl, rfl⟩, ⟨_, rfl, rfl⟩, trivial⟩ ⟨⟨_, rfl, rfl⟩, trivial⟩ ⟨⟨_, _, rfl, rfl, rfl⟩, trivial⟩)
        · refine L.alloc 2 info65 rfl hF rfl rfl rfl rfl ?_
          refine L.nil ?_
          exact A.on (hO _ _ _ n12027) (Le.mk [(0, 0), (1, 2), (2, 1)] hm rfl ⟨⟨_, rfl, rfl⟩, ⟨_, rfl, rfl⟩, ⟨_, rfl, rfl⟩, ⟨_, rfl, rfl⟩, ⟨_, rfl, rfl⟩, ⟨_, rfl, rfl⟩, ⟨_, rfl, rfl⟩, trivial⟩ ⟨⟨_, rfl, rfl⟩, trivial⟩ ⟨⟨_, _, rfl, rfl, rfl⟩, ⟨_, _, rfl, rfl, rfl⟩, trivial⟩)
      have n3807 : W 5 #[true, true, true, true, true, false, true, true, false, true, true, true, false, false, false] (mkSt [(0, one (cS v5)), (2, one (Cell.ptr 0 0)), (22, one (cI b8)), (24, one (Cell.ep 1 ((1 : Int).toNat) 0)), (27, one (Cell.ep 1 ((2 : Int).toNat) 0)), (31, one (cI b11))] [(1, ⟨1, List.map eI v6⟩)] [(0, [cI (0 : Int), cI (0 : Int), cI (0 : Int), cI (0 : Int)])] 2) := by
        refine hI _ _ _ ?_
        refine A.all [5, 8, 13] (by kernel_rfl) rfl ⟨⟨_, rfl, ?_⟩, ⟨_, rfl, ?_⟩, ⟨_, rfl, ?_⟩, trivial⟩
        · refine L.loadEp (xs := v6) (e := eI) shape3 hF rfl rfl rfl rfl (at?_get hb9).2 rfl rfl ?_
          refine L.nil ?_
          exact A.on (hO _ _ _ n3839) (Le.mk [(0, 0), (1, 1)] hm rfl ⟨⟨_, rfl, rfl⟩, ⟨_, rfl, rfl⟩, ⟨_, rfl, rfl⟩, ⟨_, rfl, rfl⟩, ⟨_, rfl, rfl⟩, ⟨_, rfl, rfl⟩, trivial⟩ ⟨⟨_, rfl, rfl⟩, trivial⟩ ⟨⟨_, _, rfl, rfl, rfl⟩, trivial⟩)
        · refine L.loadEp (xs := v6) (e := eI) shape3 hF rfl rfl rfl rfl (at?_get hb10).2 rfl rfl ?_
          refine L.nil ?_
          exact A.on (hO _ _ _ n4063) (Le.mk [(0, 0), (1, 1)] hm rfl ⟨⟨_, rfl, rfl⟩, ⟨_, rfl, rfl⟩, ⟨_, rfl, rfl⟩, ⟨_, rfl, rfl⟩, ⟨_, rfl, rfl⟩, ⟨_, rfl, rfl⟩, trivial⟩ ⟨⟨_, rfl, rfl⟩, trivial⟩ ⟨⟨_, _, rfl, rfl, rfl⟩, trivial⟩)
        · refine L.alloc 2 info65 rfl hF rfl rfl rfl rfl ?_
          refine L.nil ?_
          exact A.on (hO _ _ _ n11999) (Le.mk [(0, 0), (1, 2), (2, 1)] hm rfl ⟨⟨_, rfl, rfl⟩, ⟨_, rfl, rfl⟩, ⟨_, rfl, rfl⟩, ⟨_, rfl, rfl⟩, ⟨_, rfl, rfl⟩, ⟨_, rfl, rfl⟩, ⟨_, rfl, rfl⟩, trivial⟩ ⟨⟨_, rfl, rfl⟩, trivial⟩ ⟨⟨_, _, rfl, rfl, rfl⟩, ⟨_, _, rfl, rfl, rfl⟩, trivial⟩)
      have n11995 : W 5 #[true, true, false, true, true, false, true, true, false, true, true, true, false, true, false] (mkSt [(0, one (cS v5)), (2, one (Cell.ptr 0 0)), (6, one (Cell.ptr 1 0)), (21, one (Cell.ep 2 ((0 : Int).toNat) 0)), (24, one (Cell.ep 2 ((1 : Int).toNat) 0)), (27, one (Cell.ep 2 ((2 : Int).toNat) 0)), (31, one (cI b11))] [(2, ⟨1, List.map eI v6⟩)] [(0, [cI (0 : Int), cI (0 : Int), cI (0 : Int), cI (0 : Int)]), (1, [cI (0 : Int), cI (0 : Int), cI (0 : Int), cI (0 : Int)])] 3) := by
        refine hI _ _ _ ?_
        refine A.all [2, 5, 8] (by kernel_rfl) rfl ⟨⟨_, rfl, ?_⟩, ⟨_, rfl, ?_⟩, ⟨_, rfl, ?_⟩, trivial⟩
        · refine L.loadEp (xs := v6) (e := eI) shape3 hF rfl rfl rfl rfl (at?_get hb8).2 rfl rfl ?_
          refine L.nil ?_
          exact A.on (hO _ _ _ n11999) (Le.mk [(0, 0), (1, 1), (2, 2)] hm rfl ⟨⟨_, rfl, rfl⟩, ⟨_, rfl, rfl⟩, ⟨_, rfl, rfl⟩, ⟨_, rfl, rfl⟩, ⟨_, rfl, rfl⟩, ⟨_, rfl, rfl⟩, ⟨_, rfl, rfl⟩, trivial⟩ ⟨⟨_, rfl, rfl⟩, trivial⟩ ⟨⟨_, _, rfl, rfl, rfl⟩, ⟨_, _, rfl, rfl, rfl⟩, trivial⟩)
        · refine L.loadEp (xs := v6) (e := eI) shape3 hF rfl rfl rfl rfl (at?_get hb9).2 rfl rfl ?_
          refine L.nil ?_
          exact A.on (hO _ _ _ n12027) (Le.mk [(0, 0), (1, 1), (2, 2)] hm rfl ⟨⟨_, rfl, rfl⟩, ⟨_, rfl, rfl⟩, ⟨_, rfl, rfl⟩, ⟨_, rfl, rfl⟩, ⟨_, rfl, rfl⟩, ⟨_, rfl, rfl⟩, ⟨_, rfl, rfl⟩, trivial⟩ ⟨⟨_, rfl, rfl⟩, trivial⟩ ⟨⟨_, _, rfl, rfl, rfl⟩, ⟨_, _, rfl, rfl, rfl⟩, trivial⟩)
        · refine L.loadEp (xs := v6) (e := eI) shape3 hF rfl rfl rfl rfl (at?_get hb10).2 rfl rfl ?_
          refine L.nil ?_
          exact A.on (hO _ _ _ n12251) (Le.mk [(0, 0), (1, 1), (2, 2)] hm rfl ⟨⟨_, rfl, rfl⟩, ⟨_, rfl, rfl⟩, ⟨_, rfl, rfl⟩, ⟨_, rfl, rfl⟩, ⟨_, rfl, rfl⟩, ⟨_, rfl, rfl⟩, ⟨_, rfl, rfl⟩, trivial⟩ ⟨⟨_, rfl, rfl⟩, trivial⟩ ⟨⟨_, _, rfl, rfl, rfl⟩, ⟨_, _, rfl, rfl, rfl⟩, trivial⟩)
      have n10203 : W 5 #[true, true, false, true, true, false, true, true, true, true, true, false, false, true, false] (mkSt [(0, one (cS v5)), (2, one (Cell.ptr 0 0)), (6, one (Cell.ptr 1 0)), (21, one (Cell.ep 2 ((0 : Int).toNat) 0)), (24, one (Cell.ep 2 ((1 : Int).toNat) 0)), (28, one (cI b10)), (30, one (Cell.ep 2 ((3 : Int).toNat) 0))] [(2, ⟨1, List.map eI v6⟩)] [(0, [cI (0 : Int), cI (0 : Int), cI (0 : Int), cI (0 : Int)]), (1, [cI (0 : Int), cI (0 : Int), cI (0 : Int), cI (0 : Int)])] 3) := by
        refine hI _ _ _ ?_
        refine A.all [2, 5, 11] (by kernel_rfl) rfl ⟨⟨_, rfl, ?_⟩, ⟨_, rfl, ?_⟩, ⟨_, rfl, ?_⟩, trivial⟩
        · refine L.loadEp (xs := v6) (e := eI) shape3 hF rfl rfl rfl rfl (at?_get hb8).2 rfl rfl ?_
          refine L.nil ?_
          exact A.on (hO _ _ _ n10207) (Le.mk [(0, 0), (1, 1), (2, 2)] hm rfl ⟨⟨_, rfl, rfl⟩, ⟨_, rfl, rfl⟩, ⟨_, rfl, rfl⟩, ⟨_, rfl, rfl⟩, ⟨_, rfl, rfl⟩, ⟨_, rfl, rfl⟩, ⟨_, rfl, rfl⟩, trivial⟩ ⟨⟨_, rfl, rfl⟩, trivial⟩ ⟨⟨_, _, rfl, rfl, rfl⟩, ⟨_, _, rfl, rfl, rfl⟩, trivial⟩)
        · refine L.loadEp (xs := v6) (e := eI) shape3 hF rfl rfl rfl rfl (at?_get hb9).2 rfl rfl ?_
          refine L.nil ?_
          exact A.on (hO _ _ _ n10235) (Le.mk [(0, 0), (1, 1), (2, 2)] hm rfl ⟨⟨_, rfl, rfl⟩, ⟨_, rfl, rfl⟩, ⟨_, rfl, rfl⟩, ⟨_, rfl, rfl⟩, ⟨_, rfl, rfl⟩, ⟨_, rfl, rfl⟩, ⟨_, rfl, rfl⟩, trivial⟩ ⟨⟨_, rfl, rfl⟩, trivial⟩ ⟨⟨_, _, rfl, rfl, rfl⟩, ⟨_, _, rfl, rfl, rfl⟩, trivial⟩)
        · refine L.loadEp (xs := v6) (e := eI) shape3 hF rfl rfl rfl rfl (at?_get hb11).2 rfl rfl ?_
          refine L.nil ?_
          exact A.on (hO _ _ _ n12251) (Le.mk [(0, 0), (1, 1), (2, 2)] hm rfl ⟨⟨_, rfl, rfl⟩, ⟨_, rfl, rfl⟩, ⟨_, rfl, rfl⟩, ⟨_, rfl, rfl⟩, ⟨_, rfl, rfl⟩, ⟨_, rfl, rfl⟩, ⟨_, rfl, rfl⟩, trivial⟩ ⟨⟨_, rfl, rfl⟩, trivial⟩ ⟨⟨_, _, rfl, rfl, rfl⟩, ⟨_, _, rfl, rfl, rfl⟩, trivial⟩)
      have n9951 : W 5 #[true, true, true, true, true, false, true, true, false, true, true, false, false, true, false] (mkSt [(0, one (cS v5)), (2, one (Cell.ptr 0 0)), (6, one (Cell.ptr 1 0)), (22, one (cI b8)), (24, one (Cell.ep 2 ((1 : Int).toNat) 0)), (27, one (Cell.ep 2 ((2 : Int).toNat) 0)), (30, one (Cell.ep 2 ((3 : Int).toNat) 0))] [(2, ⟨1, List.map eI v6⟩)] [(0, [cI (0 : Int), cI (0 : Int), cI (0 : Int), cI (0 : Int)]), (1, [cI (0 : Int), cI (0 : Int), cI (0 : Int), cI (0 : Int)])] 3) := by
        refine hI _ _ _ ?_
        refine A.all [5, 8, 11] (by kernel_rfl) rfl ⟨⟨_, rfl, ?_⟩, ⟨_, rfl, ?_⟩, ⟨_, rfl, ?_⟩, trivial⟩
        · refine L.loadEp (xs := v6) (e := eI) shape3 hF rfl rfl rfl rfl (at?_get hb9).2 rfl rfl ?_
          refine L.nil ?_
          exact A.on (hO _ _ _ n9983) (Le.mk [(0, 0), (1, 1), (2, 2)] hm rfl ⟨⟨_, rfl, rfl⟩, ⟨_, rfl, rfl⟩, ⟨_, rfl, rfl⟩, ⟨_, rfl, rfl⟩, ⟨_, rfl, rfl⟩, ⟨_, rfl, rfl⟩, ⟨_, rfl, rfl⟩, trivial⟩ ⟨⟨_, rfl, rfl⟩, trivial⟩ ⟨⟨_, _, rfl, rfl, rfl⟩, ⟨_, _, rfl, rfl, rfl⟩, trivial⟩)
        · refine L.loadEp (xs := v6) (e := eI) shape3 hF rfl rfl rfl rfl (at?_get hb10).2 rfl rfl ?_
          refine L.nil ?_
          exact A.on (hO _ _ _ n10207) (Le.mk [(0, 0), (1, 1), (2, 2)] hm rfl ⟨⟨_, rfl, rfl⟩, ⟨_, rfl, rfl⟩, ⟨_, rfl, rfl⟩, ⟨_, rfl, rfl⟩, ⟨_, rfl, rfl⟩, ⟨_, rfl, rfl⟩, ⟨_, rfl, rfl⟩, trivial⟩ ⟨⟨_, rfl, rfl⟩, trivial⟩ ⟨⟨_, _, rfl, rfl, rfl⟩, ⟨_, _, rfl, rfl, rfl⟩, trivial⟩)
        · refine L.loadEp (xs := v6) (e := eI) shape3 hF rfl rfl rfl rfl (at?_get hb11).2 rfl rfl ?_
          refine L.nil ?_
          exact A.on (hO _ _ _ n11999) (Le.mk [(0, 0), (1, 1), (2, 2)] hm rfl ⟨⟨_, rfl, rfl⟩, ⟨_, rfl, rfl⟩, ⟨_, rfl, rfl⟩, ⟨_, rfl, rfl⟩, ⟨_, rfl, rfl⟩, ⟨_, rfl, rfl⟩, ⟨_, rfl, rfl⟩, trivial⟩ ⟨⟨_, rfl, rfl⟩, trivial⟩ ⟨⟨_, _, rfl, rfl, rfl⟩, ⟨_, _, rfl, rfl, rfl⟩, trivial⟩)
      have n9979 : W 5 #[true, true, false, true, true, true, true, true, false, true, true, false, false, true, false] (mkSt [(0, one (cS v5)), (2, one (Cell.ptr 0 0)), (6, one (Cell.ptr 1 0)), (21, one (Cell.ep 2 ((0 : Int).toNat) 0)), (25, one (cI b9)), (27, one (Cell.ep 2 ((2 : Int).toNat) 0)), (30, one (Cell.ep 2 ((3 : Int).toNat) 0))] [(2, ⟨1, List.map eI v6⟩)] [(0, [cI (0 : Int), cI (0 : Int), cI (0 : Int), cI (0 : Int)]), (1, [cI (0 : Int), cI (0 : Int), cI (0 : Int), cI (0 : Int)])] 3) := by
        refine hI _ _ _ ?_
        refine A.all [2, 8, 11] (by kernel_rfl) rfl ⟨⟨_, rfl, ?_⟩, ⟨_, rfl, ?_⟩, ⟨_, rfl, ?_⟩, trivial⟩
        · refine L.loadEp (xs := v6) (e := eI) shape3 hF rfl rfl rfl rfl (at?_get hb8).2 rfl rfl ?_
          refine L.nil ?_
          exact A.on (hO _ _ _ n9983) (Le.mk [(0, 0), (1, 1), (2, 2)] hm rfl ⟨⟨_, rfl, rfl⟩, ⟨_, rfl, rfl⟩, ⟨_, rfl, rfl⟩, ⟨_, rfl, rfl⟩, ⟨_, rfl, rfl⟩, ⟨_, rfl, rfl⟩, ⟨_, rfl, rfl⟩, trivial⟩ ⟨⟨_, rfl, rfl⟩, trivial⟩ ⟨⟨_, _, rfl, rfl, rfl⟩, ⟨_, _, rfl, rfl, rfl⟩, trivial⟩)
        · refine L.loadEp (xs := v6) (e := eI) shape3 hF rfl rfl rfl rfl (at?_get hb10).2 rfl rfl ?_
          refine L.nil ?_
          exact A.on (hO _ _ _ n10235) (Le.mk [(0, 0), (1, 1), (2, 2)] hm rfl ⟨⟨_, rfl, rfl⟩, ⟨_, rfl, rfl⟩, ⟨_, rfl, rfl⟩, ⟨_, rfl, rfl⟩, ⟨_, rfl, rfl⟩, ⟨_, rfl, rfl⟩, ⟨_, rfl, rfl⟩, trivial⟩ ⟨⟨_, rfl, rfl⟩, trivial⟩ ⟨⟨_, _, rfl, rfl, rfl⟩, ⟨_, _, rfl, rfl, rfl⟩, trivial⟩)
        · refine L.loadEp (xs := v6) (e := eI) shape3 hF rfl rfl rfl rfl (at?_get hb11).2 rfl rfl ?_
          refine L.nil ?_
          exact A.on (hO _ _ _ n12027) (Le.mk [(0, 0), (1, 1), (2, 2)] hm rfl ⟨⟨_, rfl, rfl⟩, ⟨_, rfl, rfl⟩, ⟨_, rfl, rfl⟩, ⟨_, rfl, rfl⟩, ⟨_, rfl, rfl⟩, ⟨_, rfl, rfl⟩, ⟨_, rfl, rfl⟩, trivial⟩ ⟨⟨_, rfl, rfl⟩, trivial⟩ ⟨⟨_, _, rfl, rfl, rfl⟩, ⟨_, _, rfl, rfl, rfl⟩, trivial⟩)
      have n1787 : W 6 #[true, true, false, true, true, true, true, true, false, true, true, false, false, false, false] (mkSt [(0, one (cS v5)), (2, one (Cell.ptr 0 0)), (21, one (Cell.ep 1 ((0 : Int).toNat) 0)), (25, one (cI b9)), (27, one (Cell.ep 1 ((2 : Int).toNat) 0)), (30, one (Cell.ep 1 ((3 : Int).toNat) 0))] [(1, ⟨1, List.map eI v6⟩)] [(0, [cI (0 : Int), cI (0 : Int), cI (0 : Int), cI (0 : Int)])] 2) := by
        refine hI _ _ _ ?_
        refine A.all [2, 8, 11, 13] (by kernel_rfl) rfl ⟨⟨_, rfl, ?_⟩, ⟨_, rfl, ?_⟩, ⟨_, rfl, ?_⟩, ⟨_, rfl, ?_⟩, trivial⟩
        · refine L.loadEp (xs := v6) (e := eI) shape3 hF rfl rfl rfl rfl (at?_get hb8).2 rfl rfl ?_
          refine L.nil ?_
          exact A.on (hO _ _ _ n1791) (Le.mk [(0, 0), (1, 1)] hm rfl ⟨⟨_, rfl, rfl⟩, ⟨_, rfl, rfl⟩, ⟨_, rfl, rfl⟩, ⟨_, rfl, rfl⟩, ⟨_, rfl, rfl⟩, ⟨_, rfl, rfl⟩, trivial⟩ ⟨⟨_, rfl, rfl⟩, trivial⟩ ⟨⟨_, _, rfl, rfl, rfl⟩, trivial⟩)
        · refine L.loadEp (xs := v6) (e := eI) shape3 hF rfl rfl rfl rfl (at?_get hb10).2 rfl rfl ?_
          refine L.nil ?_
          exact A.on (hO _ _ _ n2043) (Le.mk [(0, 0), (1, 1)] hm rfl ⟨⟨_, rfl, rfl⟩, ⟨_, rfl, rfl⟩, ⟨_, rfl, rfl⟩, ⟨_, rfl, rfl⟩, ⟨_, rfl, rfl⟩, ⟨_, rfl, rfl⟩, trivial⟩ ⟨⟨_, rfl, rfl⟩, trivial⟩ ⟨⟨_, _, rfl, rfl, rfl⟩, trivial⟩)
        · refine L.loadEp (xs := v6) (e := eI) shape3 hF rfl rfl rfl rfl (at?_get hb11).2 rfl rfl ?_
          refine L.nil ?_
          exact A.on (hO _ _ _ n3835) (Le.mk [(0, 0), (1, 1)] hm rfl ⟨⟨_, rfl, rfl⟩, ⟨_, rfl, rfl⟩, ⟨_, rfl, rfl⟩, ⟨_, rfl, rfl⟩, ⟨_, rfl, rfl⟩, ⟨_, rfl, rfl⟩, trivial⟩ ⟨⟨_, rfl, rfl⟩, trivial⟩ ⟨⟨_, _, rfl, rfl, rfl⟩, trivial⟩)
        · refine L.alloc 2 info65 rfl hF rfl rfl rfl rfl ?_
          refine L.nil ?_
          exact A.on (hO _ _ _ n9979) (Le.mk [(0, 0), (1, 2), (2, 1)] hm rfl ⟨⟨_, rfl, rfl⟩, ⟨_, rfl, rfl⟩, ⟨_, rfl, rfl⟩, ⟨_, rfl, rfl⟩, ⟨_, rfl, rfl⟩, ⟨_, rfl, rfl⟩, ⟨_, rfl, rfl⟩, trivial⟩ ⟨⟨_, rfl, rfl⟩, trivial⟩ ⟨⟨_, _, rfl, rfl, rfl⟩, ⟨_, _, rfl, rfl, rfl⟩, trivial⟩)
      have n9947 : W 6 #[true, true, false, true, true, false, true, true, false, true, true, false, false, true, false] (mkSt [(0, one (cS v5)), (2, one (Cell.ptr 0 0)), (6, one (Cell.ptr 1 0)), (21, one (Cell.ep 2 ((0 : Int).toNat) 0)), (24, one (Cell.ep 2 ((1 : Int).toNat) 0)), (27, one (Cell.ep 2 ((2 : Int).toNat) 0)), (30, one (Cell.ep 2 ((3 : Int).toNat) 0))] [(2, ⟨1, List.map eI v6⟩)] [(0, [cI (0 : Int), cI (0 : Int), cI (0 : Int), cI (0 : Int)]), (1, [cI (0 : Int), cI (0 : Int), cI (0 : Int), cI (0 : Int)])] 3) := by
        refine hI _ _ _ ?_
        refine A.all [2, 5, 8, 11] (by kernel_rfl) rfl ⟨⟨_, rfl, ?_⟩, ⟨_, rfl, ?_⟩, ⟨_, rfl, ?_⟩, ⟨_, rfl, ?_⟩, trivial⟩
        · refine L.loadEp (xs := v6) (e := eI) shape3 hF rfl rfl rfl rfl (at?_get hb8).2 rfl rfl ?_
          refine L.nil ?_
          exact A.on (hO _ _ _ n9951) (Le.mk [(0, 0), (1, 1), (2, 2)] hm rfl ⟨⟨_, rfl, rfl⟩, ⟨_, rfl, rfl⟩, ⟨_, rfl, rfl⟩, ⟨_, rfl, rfl⟩, ⟨_, rfl, rfl⟩, ⟨_, rfl, rfl⟩, ⟨_, rfl, rfl⟩, trivial⟩ ⟨⟨_, rfl, rfl⟩, trivial⟩ ⟨⟨_, _, rfl, rfl, rfl⟩, ⟨_, _, rfl, rfl, rfl⟩, trivial⟩)
        · refine L.loadEp (xs := v6) (e := eI) shape3 hF rfl rfl rfl rfl (at?_get hb9).2 rfl rfl ?_
          refine L.nil ?_
          exact A.on (hO _ _ _ n9979) (Le.mk [(0, 0), (1, 1), (2, 2)] hm rfl ⟨⟨_, rfl, rfl⟩, ⟨_, rfl, rfl⟩, ⟨_, rfl, rfl⟩, ⟨_, rfl, rfl⟩, ⟨_, rfl, rfl⟩, ⟨_, rfl, rfl⟩, ⟨_, rfl, rfl⟩, trivial⟩ ⟨⟨_, rfl, rfl⟩, trivial⟩ ⟨⟨_, _, rfl, rfl, rfl⟩, ⟨_, _, rfl, rfl, rfl⟩, trivial⟩)
        · refine L.loadEp (xs := v6) (e := eI) shape3 hF rfl rfl rfl rfl (at?_get hb10).2 rfl rfl ?_
          refine L.nil ?_
          exact A.on (hO _ _ _ n10203) (Le.mk [(0, 0), (1, 1), (2, 2)] hm rfl ⟨⟨_, rfl, rfl⟩, ⟨_, rfl, rfl⟩, ⟨_, rfl, rfl⟩, ⟨_, rfl, rfl⟩, ⟨_, rfl, rfl⟩, ⟨_, rfl, rfl⟩, ⟨_, rfl, rfl⟩, trivial⟩ ⟨⟨_, rfl, rfl⟩, trivial⟩ ⟨⟨_, _, rfl, rfl, rfl⟩, ⟨_, _, rfl, rfl, rfl⟩, trivial⟩)
        · refine L.loadEp (xs := v6) (e := eI) shape3 hF rfl rfl rfl rfl (at?_get hb11).2 rfl rfl ?_
          refine L.nil ?_
          exact A.on (hO _ _ _ n11995) (Le.mk [(0, 0), (1, 1), (2, 2)] hm rfl ⟨⟨_, rfl, rfl⟩, ⟨_, rfl, rfl⟩, ⟨_, rfl, rfl⟩, ⟨_, rfl, rfl⟩, ⟨_, rfl, rfl⟩, ⟨_, rfl, rfl⟩, ⟨_, rfl, rfl⟩, trivial⟩ ⟨⟨_, rfl, rfl⟩, trivial⟩ ⟨⟨_, _, rfl, rfl, rfl⟩, ⟨_, _, rfl, rfl, rfl⟩, trivial⟩)
      have n2011 : W 6 #[true, true, false, true, true, false, true, true, true, true, true, false, false, false, false] (mkSt [(0, one (cS v5)), (2, one (Cell.ptr 0 0)), (21, one (Cell.ep 1 ((0 : Int).toNat) 0)), (24, one (Cell.ep 1 ((1 : Int).toNat) 0)), (28, one (cI b10)), (30, one (Cell.ep 1 ((3 : Int).toNat) 0))] [(1, ⟨1, List.map eI v6⟩)] [(0, [cI (0 : Int), cI (0 : Int), cI (0 : Int), cI (0 : Int)])] 2) := by
        refine hI _ _ _ ?_
        refine A.all [2, 5, 11, 13] (by kernel_rfl) rfl ⟨⟨_, rfl, ?_⟩, ⟨_, rfl, ?_⟩, ⟨_, rfl, ?_⟩, ⟨_, rfl, ?_⟩, trivial⟩
        · refine L.loadEp (xs := v6) (e := eI) shape3 hF rfl rfl rfl rfl (at?_get hb8).2 rfl rfl ?_
          refine L.nil ?_
          exact A.on (hO _ _ _ n2015) (Le.mk [(0, 0), (1, 1)] hm rfl ⟨⟨_, rfl, rfl⟩, ⟨_, rfl, rfl⟩, ⟨_, rfl, rfl⟩, ⟨_, rfl, rfl⟩, ⟨_, rfl, rfl⟩, ⟨_, rfl, rfl⟩, trivial⟩ ⟨⟨_, rfl, rfl⟩, trivial⟩ ⟨⟨_, _, rfl, rfl, rfl⟩, trivial⟩)
        · refine L.loadEp (xs := v6) (e := eI) shape3 hF rfl rfl rfl rfl (at?_get hb9).2 rfl rfl ?_
          refine L.nil ?_
          exact A.on (hO _ _ _ n2043) (Le.mk [(0, 0), (1, 1)] hm rfl ⟨⟨_, rfl, rfl⟩, ⟨_, rfl, rfl⟩, ⟨_, rfl, rfl⟩, ⟨_, rfl, rfl⟩, ⟨_, rfl, rfl⟩, ⟨_, rfl, rfl⟩, trivial⟩ ⟨⟨_, rfl, rfl⟩, trivial⟩ ⟨⟨_, _, rfl, rfl, rfl⟩, trivial⟩)
        · refine L.loadEp (xs := v6) (e := eI) shape3 hF rfl rfl rfl rfl (at?_get hb11).2 rfl rfl ?_
          refine L.nil ?_
          exact A.on (hO _ _ _ n4059) (Le.mk [(0, 0), (1, 1)] hm rfl ⟨⟨_, rfl, rfl⟩, ⟨_, rfl, rfl⟩, ⟨_, rfl, rfl⟩, ⟨_, rfl, rfl⟩, ⟨_, rfl, rfl⟩, ⟨_, rfl, rfl⟩, trivial⟩ ⟨⟨_, rfl, rfl⟩, trivial⟩ ⟨⟨_, _, rfl, rfl, rfl⟩, trivial⟩)
        · refine L.alloc 2 info65 rfl hF rfl rfl rfl rfl ?_
          refine L.nil ?_
          exact A.on (hO _ _ _ n10203) (Le.mk [(0, 0), (1, 2), (2, 1)] hm rfl ⟨⟨_, rfl, rfl⟩, ⟨_, rfl, rfl⟩, ⟨_, rfl, rfl⟩, ⟨_, rfl, rfl⟩, ⟨_, rfl, rfl⟩, ⟨_, rfl, rfl⟩, ⟨_, rfl, rfl⟩, trivial⟩ ⟨⟨_, rfl, rfl⟩, trivial⟩ ⟨⟨_, _, rfl, rfl, rfl⟩, ⟨_, _, rfl, rfl, rfl⟩, trivial⟩)
      have n3803 : W 6 #[true, true, false, true, true, false, true, true, false, true, true, true, false, false, false] (mkSt [(0, one (cS v5)), (2, one (Cell.ptr 0 0)), (21, one (Cell.ep 1 ((0 : Int).toNat) 0)), (24, one (Cell.ep 1 ((1 : Int).toNat) 0)), (27, one (Cell.ep 1 ((2 : Int).toNat) 0)), (31, one (cI b11))] [(1, ⟨1, List.map eI v6⟩)] [(0, [cI (0 : Int), cI (0 : Int), cI (0 : Int), cI (0 : Int)])] 2) := by
        refine hI _ _ _ ?_
        refine A.all [2, 5, 8, 13] (by kernel_rfl) rfl ⟨⟨_, rfl, ?_⟩, ⟨_, rfl, ?_⟩, ⟨_, rfl, ?_⟩, ⟨_, rfl, ?_⟩, trivial⟩
        · refine L.loadEp (xs := v6) (e := eI) shape3 hF rfl rfl rfl rfl (at?_get hb8).2 rfl rfl ?_
          refine L.nil ?_
          exact A.on (hO _ _ _ n3807) (Le.mk [(0, 0), (1, 1)] hm rfl ⟨⟨_, rfl, rfl⟩, ⟨_, rfl, rfl⟩, ⟨_, rfl, rfl⟩, ⟨_, rfl, rfl⟩, ⟨_, rfl, rfl⟩, ⟨_, rfl, rfl⟩, trivial⟩ ⟨⟨_, rfl, rfl⟩, trivial⟩ ⟨⟨_, _, rfl, rfl, rfl⟩, trivial⟩)
        · refine L.loadEp (xs := v6) (e := eI) shape3 hF rfl rfl rfl rfl (at?_get hb9).2 rfl rfl ?_
          refine L.nil ?_
          exact A.on (hO _ _ _ n3835) (Le.mk [(0, 0), (1, 1)] hm rfl ⟨⟨_, rfl, rfl⟩, ⟨_, rfl, rfl⟩, ⟨_, rfl, rfl⟩, ⟨_, rfl, rfl⟩, ⟨_, rfl, rfl⟩, ⟨_, rfl, rfl⟩, trivial⟩ ⟨⟨_, rfl, rfl⟩, trivial⟩ ⟨⟨_, _, rfl, rfl, rfl⟩, trivial⟩)
        · refine L.loadEp (xs := v6) (e := eI) shape3 hF rfl rfl rfl rfl (at?_get hb10).2 rfl rfl ?_
          refine L.nil ?_
          exact A.on (hO _ _ _ n4059) (Le.mk [(0, 0), (1, 1)] hm rfl ⟨⟨_, rfl, rfl⟩, ⟨_, rfl, rfl⟩, ⟨_, rfl, rfl⟩, ⟨_, rfl, rfl⟩, ⟨_, rfl, rfl⟩, ⟨_, rfl, rfl⟩, trivial⟩ ⟨⟨_, rfl, rfl⟩, trivial⟩ ⟨⟨_, _, rfl, rfl, rfl⟩, trivial⟩)
        · refine L.alloc 2 info65 rfl hF rfl rfl rfl rfl ?_
          refine L.nil ?_
          exact A.on (hO _ _ _ n11995) (Le.mk [(0, 0), (1, 2), (2, 1)] hm rfl ⟨⟨_, rfl, rfl⟩, ⟨_, rfl, rfl⟩, ⟨_, rfl, rfl⟩, ⟨_, rfl, rfl⟩, ⟨_, rfl, rfl⟩, ⟨_, rfl, rfl⟩, ⟨_, rfl, rfl⟩, trivial⟩ ⟨⟨_, rfl, rfl⟩, trivial⟩ ⟨⟨_, _, rfl, rfl, rfl⟩, ⟨_, _, rfl, rfl, rfl⟩, trivial⟩)
      have n1759 : W 6 #[true, true, true, true, true, false, true, true, false, true, true, false, false, false, false] (mkSt [(0, one (cS v5)), (2, one (Cell.ptr 0 0)), (22, one (cI b8)), (24, one (Cell.ep 1 ((1 : Int).toNat) 0)), (27, one (Cell.ep 1 ((2 : Int).toNat) 0)), (30, one (Cell.ep 1 ((3 : Int).toNat) 0))] [(1, ⟨1, List.map eI v6⟩)] [(0, [cI (0 : Int), cI (0 : Int), cI (0 : Int), cI (0 : Int)])] 2) := by
        refine hI _ _ _ ?_
        refine A.all [5, 8, 11, 13] (by kernel_rfl) rfl ⟨⟨_, rfl, ?_⟩, ⟨_, rfl, ?_⟩, ⟨_, rfl, ?_⟩, ⟨_, rfl, ?_⟩, trivial⟩
        · refine L.loadEp (xs := v6) (e := eI) shape3 hF rfl rfl rfl rfl (at?_get hb9).2 rfl rfl ?_
          refine L.nil ?_
          exact A.on (hO _ _ _ n1791) (Le.mk [(0, 0), (1, 1)] hm rfl ⟨⟨_, rfl, rfl⟩, ⟨_, rfl, rfl⟩, ⟨_, rfl, rfl⟩, ⟨_, rfl, rfl⟩, ⟨_, rfl, rfl⟩, ⟨_, rfl, rfl⟩, trivial⟩ ⟨⟨_, rfl, rfl⟩, trivial⟩ ⟨⟨_, _, rfl, rfl, rfl⟩, trivial⟩)
        · refine L.loadEp (xs := v6) (e := eI) shape3 hF rfl rfl rfl rfl (at?_get hb10).2 rfl rfl ?_
          refine L.nil ?_
          exact A.on (hO _ _ _ n2015) (Le.mk [(0, 0), (1, 1)] hm rfl ⟨⟨_, rfl, rfl⟩, ⟨_, rfl, rfl⟩, ⟨_, rfl, rfl⟩, ⟨_, rfl, rfl⟩, ⟨_, rfl, rfl⟩, ⟨_, rfl, rfl⟩, trivial⟩ ⟨⟨_, rfl, rfl⟩, trivial⟩ ⟨⟨_, _, rfl, rfl, rfl⟩, trivial⟩)
        · refine L.loadEp (xs := v6) (e := eI) shape3 hF rfl rfl rfl rfl (at?_get hb11).2 rfl rfl ?_
          refine L.nil ?_
          exact A.on (hO _ _ _ n3807) (Le.mk [(0, 0), (1, 1)] hm rfl ⟨⟨_, rfl, rfl⟩, ⟨_, rfl, rfl⟩, ⟨_, rfl, rfl⟩, ⟨_, rfl, rfl⟩, ⟨_, rfl, rfl⟩, ⟨_, rfl, rfl⟩, trivial⟩ ⟨⟨_, rfl, rfl⟩, trivial⟩ ⟨⟨_, _, rfl, rfl, rfl⟩, trivial⟩)
        · refine L.alloc 2 info65 rfl hF rfl rfl rfl rfl ?_
          refine L.nil ?_
          exact A.on (hO _ _ _ n9951) (Le.mk [(0, 0), (1, 2), (2, 1)] hm rfl ⟨⟨_, rfl, rfl⟩, ⟨_, rfl, rfl⟩, ⟨_, rfl, rfl⟩, ⟨_, rfl, rfl⟩, ⟨_, rfl, rfl⟩, ⟨_, rfl, rfl⟩, ⟨_, rfl, rfl⟩, trivial⟩ ⟨⟨_, rfl, rfl⟩, trivial⟩ ⟨⟨_, _, rfl, rfl, rfl⟩, ⟨_, _, rfl, rfl, rfl⟩, trivial⟩)
      have n1755 : W 7 #[true, true, false, true, true, false, true, true, false, true, true, false, false, false, false] (mkSt [(0, one (cS v5)), (2, one (Cell.ptr 0 0)), (21, one (Cell.ep 1 ((0 : Int).toNat) 0)), (24, one (Cell.ep 1 ((1 : Int).toNat) 0)), (27, one (Cell.ep 1 ((2 : Int).toNat) 0)), (30, one (Cell.ep 1 ((3 : Int).toNat) 0))] [(1, ⟨1, List.map eI v6⟩)] [(0, [cI (0 : Int), cI (0 : Int), cI (0 : Int), cI (0 : Int)])] 2) := by
        refine hI _ _ _ ?_
        refine A.all [2, 5, 8, 11, 13] (by kernel_rfl) rfl ⟨⟨_, rfl, ?_⟩, ⟨_, rfl, ?_⟩, ⟨_, rfl, ?_⟩, ⟨_, rfl, ?_⟩, ⟨_, rfl, ?_⟩, trivial⟩
        · refine L.loadEp (xs := v6) (e := eI) shape3 hF rfl rfl rfl rfl (at?_get hb8).2 rfl rfl ?_
          refine L.nil ?_
          exact A.on (hO _ _ _ n1759) (Le.mk [(0, 0), (1, 1)] hm rfl ⟨⟨_, rfl, rfl⟩, ⟨_, rfl, rfl⟩, ⟨_, rfl, rfl⟩, ⟨_, rfl, rfl⟩, ⟨_, rfl, rfl⟩, ⟨_, rfl, rfl⟩, trivial⟩ ⟨⟨_, rfl, rfl⟩, trivial⟩ ⟨⟨_, _, rfl, rfl, rfl⟩, trivial⟩)
        · refine L.loadEp (xs := v6) (e := eI) shape3 hF rfl rfl rfl rfl (at?_get hb9).2 rfl rfl ?_
          refine L.nil ?_
          exact A.on (hO _ _ _ n1787) (Le.mk [(0, 0), (1, 1)] hm rfl ⟨⟨_, rfl, rfl⟩, ⟨_, rfl, rfl⟩, ⟨_, rfl, rfl⟩, ⟨_, rfl, rfl⟩, ⟨_, rfl, rfl⟩, ⟨_, rfl, rfl⟩, trivial⟩ ⟨⟨_, rfl, rfl⟩, trivial⟩ ⟨⟨_, _, rfl, rfl, rfl⟩, trivial⟩)
        · refine L.loadEp (xs := v6) (e := eI) shape3 hF rfl rfl rfl rfl (at?_get hb10).2 rfl rfl ?_
          refine L.nil ?_
          exact A.on (hO _ _ _ n2011) (Le.mk [(0, 0), (1, 1)] hm rfl ⟨⟨_, rfl, rfl⟩, ⟨_, rfl, rfl⟩, ⟨_, rfl, rfl⟩, ⟨_, rfl, rfl⟩, ⟨_, rfl, rfl⟩, ⟨_, rfl, rfl⟩, trivial⟩ ⟨⟨_, rfl, rfl⟩, trivial⟩ ⟨⟨_, _, rfl, rfl, rfl⟩, trivial⟩)
        · refine L.loadEp (xs := v6) (e := eI) shape3 hF rfl rfl rfl rfl (at?_get hb11).2 rfl rfl ?_
          refine L.nil ?_
          exact A.on (hO _ _ _ n3803) (Le.mk [(0, 0), (1, 1)] hm rfl ⟨⟨_, rfl, rfl⟩, ⟨_, rfl, rfl⟩, ⟨_, rfl, rfl⟩, ⟨_, rfl, rfl⟩, ⟨_, rfl, rfl⟩, ⟨_, rfl, rfl⟩, trivial⟩ ⟨⟨_, rfl, rfl⟩, trivial⟩ ⟨⟨_, _, rfl, rfl, rfl⟩, trivial⟩)
        · refine L.alloc 2 info65 rfl hF rfl rfl rfl rfl ?_
          refine L.nil ?_
          exact A.on (hO _ _ _ n9947) (Le.mk [(0, 0), (1, 2), (2, 1)] hm rfl ⟨⟨_, rfl, rfl⟩, ⟨_, rfl, rfl⟩, ⟨_, rfl, rfl⟩, ⟨_, rfl, rfl⟩, ⟨_, rfl, rfl⟩, ⟨_, rfl, rfl⟩, ⟨_, rfl, rfl⟩, trivial⟩ ⟨⟨_, rfl, rfl⟩, trivial⟩ ⟨⟨_, _, rfl, rfl, rfl⟩, ⟨_, _, rfl, rfl, rfl⟩, trivial⟩)
      have n731 : W 8 #[true, true, false, true, true, false, true, true, false, true, false, false, false, false, false] (mkSt [(0, one (cS v5)), (2, one (Cell.ptr 0 0)), (21, one (Cell.ep 1 ((0 : Int).toNat) 0)), (24, one (Cell.ep 1 ((1 : Int).toNat) 0)), (27, one (Cell.ep 1 ((2 : Int).toNat) 0)), (29, one (Cell.own 1))] [(1, ⟨1, List.map eI v6⟩)] [(0, [cI (0 : Int), cI (0 : Int), cI (0 : Int), cI (0 : Int)])] 2) := by
        refine hI _ _ _ ?_
        refine A.take 10 rfl (by kernel_rfl) (by kernel_rfl) (by kernel_rfl) rfl (Ca.indexAddr) (fun Q0 k0 => L.idxR (xs := v6) (e := eI) Try.underlying24 info3 hF rfl rfl rfl rfl rfl hb11 rfl rfl (L.nil k0)) ?_
        exact A.on (hO _ _ _ n1755) (Le.mk [(0, 0), (1, 1)] hm rfl ⟨⟨_, rfl, rfl⟩, ⟨_, rfl, rfl⟩, ⟨_, rfl, rfl⟩, ⟨_, rfl, rfl⟩, ⟨_, rfl, rfl⟩, ⟨_, rfl, rfl⟩, trivial⟩ ⟨⟨_, rfl, rfl⟩, trivial⟩ ⟨⟨_, _, rfl, rfl, rfl⟩, trivial⟩)
      have n219 : W 9 #[true, true, false, true, true, false, true, true, false, false, false, false, false, false, false] (mkSt [(0, one (cS v5)), (2, one (Cell.ptr 0 0)), (4, one (Cell.own 1)), (21, one (Cell.ep 1 ((0 : Int).toNat) 0)), (24, one (Cell.ep 1 ((1 : Int).toNat) 0)), (27, one (Cell.ep 1 ((2 : Int).toNat) 0))] [(1, ⟨1, List.map eI v6⟩)] [(0, [cI (0 : Int), cI (0 : Int), cI (0 : Int), cI (0 : Int)])] 2) := by
        refine hI _ _ _ ?_
        refine A.take 9 rfl (by kernel_rfl) (by kernel_rfl) (by kernel_rfl) rfl (Ca.move) (fun Q0 k0 => L.move hF rfl rfl rfl (L.nil k0)) ?_
        exact A.on (hO _ _ _ n731) (Le.mk [(0, 0), (1, 1)] hm rfl ⟨⟨_, rfl, rfl⟩, ⟨_, rfl, rfl⟩, ⟨_, rfl, rfl⟩, ⟨_, rfl, rfl⟩, ⟨_, rfl, rfl⟩, ⟨_, rfl, rfl⟩, trivial⟩ ⟨⟨_, rfl, rfl⟩, trivial⟩ ⟨⟨_, _, rfl, rfl, rfl⟩, trivial⟩)
      have n91 : W 10 #[true, true, false, true, true, false, true, false, false, false, false, false, false, false, false] (mkSt [(0, one (cS v5)), (2, one (Cell.ptr 0 0)), (4, one (Cell.own 1)), (21, one (Cell.ep 1 ((0 : Int).toNat) 0)), (24, one (Cell.ep 1 ((1 : Int).toNat) 0)), (26, one (Cell.own 1))] [(1, ⟨1, List.map eI v6⟩)] [(0, [cI (0 : Int), cI (0 : Int), cI (0 : Int), cI (0 : Int)])] 2) := by
        refine hI _ _ _ ?_
        refine A.take 7 rfl (by kernel_rfl) (by kernel_rfl) (by kernel_rfl) rfl (Ca.indexAddr) (fun Q0 k0 => L.idxR (xs := v6) (e := eI) Try.underlying24 info3 hF rfl rfl rfl rfl rfl hb10 rfl rfl (L.nil k0)) ?_
        exact A.on (hO _ _ _ n219) (Le.mk [(0, 0), (1, 1)] hm rfl ⟨⟨_, rfl, rfl⟩, ⟨_, rfl, rfl⟩, ⟨_, rfl, rfl⟩, ⟨_, rfl, rfl⟩, ⟨_, rfl, rfl⟩, ⟨_, rfl, rfl⟩, trivial⟩ ⟨⟨_, rfl, rfl⟩, trivial⟩ ⟨⟨_, _, rfl, rfl, rfl⟩, trivial⟩)
      have n27 : W 11 #[true, true, false, true, true, false, false, false, false, false, false, false, false, false, false] (mkSt [(0, one (cS v5)), (2, one (Cell.ptr 0 0)), (4, one (Cell.own 1)), (21, one (Cell.ep 1 ((0 : Int).toNat) 0)), (24, one (Cell.ep 1 ((1 : Int).toNat) 0))] [(1, ⟨1, List.map eI v6⟩)] [(0, [cI (0 : Int), cI (0 : Int), cI (0 : Int), cI (0 : Int)])] 2) := by
        refine hI _ _ _ ?_
        refine A.take 6 rfl (by kernel_rfl) (by kernel_rfl) (by kernel_rfl) rfl (Ca.move) (fun Q0 k0 => L.move hF rfl rfl rfl (L.nil k0)) ?_
        exact A.on (hO _ _ _ n91) (Le.mk [(0, 0), (1, 1)] hm rfl ⟨⟨_, rfl, rfl⟩, ⟨_, rfl, rfl⟩, ⟨_, rfl, rfl⟩, ⟨_, rfl, rfl⟩, ⟨_, rfl, rfl⟩, ⟨_, rfl, rfl⟩, trivial⟩ ⟨⟨_, rfl, rfl⟩, trivial⟩ ⟨⟨_, _, rfl, rfl, rfl⟩, trivial⟩)
      have n11 : W 12 #[true, true, false, true, false, false, false, false, false, false, false, false, false, false, false] (mkSt [(0, one (cS v5)), (2, one (Cell.ptr 0 0)), (4, one (Cell.own 1)), (21, one (Cell.ep 1 ((0 : Int).toNat) 0)), (23, one (Cell.own 1))] [(1, ⟨1, List.map eI v6⟩)] [(0, [cI (0 : Int), cI (0 : Int), cI (0 : Int), cI (0 : Int)])] 2) := by
        refine hI _ _ _ ?_
        refine A.take 4 rfl (by kernel_rfl) (by kernel_rfl) (by kernel_rfl) rfl (Ca.indexAddr) (fun Q0 k0 => L.idxR (xs := v6) (e := eI) Try.underlying24 info3 hF rfl rfl rfl rfl rfl hb9 rfl rfl (L.nil k0)) ?_
        exact A.on (hO _ _ _ n27) (Le.mk [(0, 0), (1, 1)] hm rfl ⟨⟨_, rfl, rfl⟩, ⟨_, rfl, rfl⟩, ⟨_, rfl, rfl⟩, ⟨_, rfl, rfl⟩, ⟨_, rfl, rfl⟩, trivial⟩ ⟨⟨_, rfl, rfl⟩, trivial⟩ ⟨⟨_, _, rfl, rfl, rfl⟩, trivial⟩)
      have n3 : W 13 #[true, true, false, false, false, false, false, false, false, false, false, false, false, false, false] (mkSt [(0, one (cS v5)), (2, one (Cell.ptr 0 0)), (4, one (Cell.own 1)), (21, one (Cell.ep 1 ((0 : Int).toNat) 0))] [(1, ⟨1, List.map eI v6⟩)] [(0, [cI (0 : Int), cI (0 : Int), cI (0 : Int), cI (0 : Int)])] 2) := by
        refine hI _ _ _ ?_
        refine A.take 3 rfl (by kernel_rfl) (by kernel_rfl) (by kernel_rfl) rfl (Ca.move) (fun Q0 k0 => L.move hF rfl rfl rfl (L.nil k0)) ?_
        exact A.on (hO _ _ _ n11) (Le.mk [(0, 0), (1, 1)] hm rfl ⟨⟨_, rfl, rfl⟩, ⟨_, rfl, rfl⟩, ⟨_, rfl, rfl⟩, ⟨_, rfl, rfl⟩, ⟨_, rfl, rfl⟩, trivial⟩ ⟨⟨_, rfl, rfl⟩, trivial⟩ ⟨⟨_, _, rfl, rfl, rfl⟩, trivial⟩)
      have n1 : W 14 #[true, false, false, false, false, false, false, false, false, false, false, false, false, false, false] (mkSt [(0, one (cS v5)), (2, one (Cell.ptr 0 0)), (4, one (Cell.own 1)), (20, one (Cell.own 1))] [(1, ⟨1, List.map eI v6⟩)] [(0, [cI (0 : Int), cI (0 : Int), cI (0 : Int), cI (0 : Int)])] 2) := by
        refine hI _ _ _ ?_
        refine A.take 1 rfl (by kernel_rfl) (by kernel_rfl) (by kernel_rfl) rfl (Ca.indexAddr) (fun Q0 k0 => L.idxR (xs := v6) (e := eI) Try.underlying24 info3 hF rfl rfl rfl rfl rfl hb8 rfl rfl (L.nil k0)) ?_
        exact A.on (hO _ _ _ n3) (Le.mk [(0, 0), (1, 1)] hm rfl ⟨⟨_, rfl, rfl⟩, ⟨_, rfl, rfl⟩, ⟨_, rfl, rfl⟩, ⟨_, rfl, rfl⟩, trivial⟩ ⟨⟨_, rfl, rfl⟩, trivial⟩ ⟨⟨_, _, rfl, rfl, rfl⟩, trivial⟩)
      have n0 : W 15 #[false, false, false, false, false, false, false, false, false, false, false, false, false, false, false] (mkSt [(0, one (cS v5)), (2, one (Cell.ptr 0 0)), (4, one (Cell.own 1))] [(1, ⟨1, List.map eI v6⟩)] [(0, [cI (0 : Int), cI (0 : Int), cI (0 : Int), cI (0 : Int)])] 2) := by
        refine hI _ _ _ ?_
        refine A.take 0 rfl (by kernel_rfl) (by kernel_rfl) (by kernel_rfl) rfl (Ca.move) (fun Q0 k0 => L.move hF rfl rfl rfl (L.nil k0)) ?_
        exact A.on (hO _ _ _ n1) (Le.mk [(0, 0), (1, 1)] hm rfl ⟨⟨_, rfl, rfl⟩, ⟨_, rfl, rfl⟩, ⟨_, rfl, rfl⟩, ⟨_, rfl, rfl⟩, trivial⟩ ⟨⟨_, rfl, rfl⟩, trivial⟩ ⟨⟨_, _, rfl, rfl, rfl⟩, trivial⟩)
      exact hI _ _ _ (A.on (hO _ _ _ n0) (Le.mk [(0, 0), (1, 1)] hm rfl ⟨⟨_, rfl, rfl⟩, ⟨_, rfl, rfl⟩, ⟨_, rfl, rfl⟩, trivial⟩ ⟨⟨_, rfl, rfl⟩, trivial⟩ ⟨⟨_, _, rfl, rfl, rfl⟩, trivial⟩))
  · refine WpC.regionL ?_
    refine L.move hF rfl rfl rfl ?_
    refine L.not hF rfl rfl rfl ?_
    refine L.move hF rfl rfl rfl ?_
    refine L.split (fun hc => ?_) (fun hc => ?_)
    · replace H := condT hc H
      refine L.off hF rfl rfl ?_
      refine L.off hF rfl rfl ?_
      refine L.off hF rfl rfl ?_
      refine L.pick hF rfl rfl rfl rfl ?_
      refine L.nil ?_
      exact ⟨_, ⟨k, a0, r1.1, true, by omega, H, rfl⟩, Le.mk [(0, 1), (1, 2)] hm rfl ⟨⟨_, rfl, rfl⟩, ⟨_, rfl, rfl⟩, ⟨_, rfl, rfl⟩, ⟨_, rfl, rfl⟩, trivial⟩ ⟨⟨_, rfl, rfl⟩, trivial⟩ ⟨⟨_, _, rfl, rfl, rfl⟩, trivial⟩⟩
    · replace H := condF hc H
      refine L.move hF rfl rfl rfl ?_
      refine L.lenR (xs := r1.1) (e := eI) Try.underlying24 hF rfl rfl rfl rfl ?_
      refine L.bin hF rfl rfl rfl rfl rfl rfl ?_
      refine L.pick hF rfl rfl rfl rfl ?_
      refine L.nil ?_
      exact ⟨_, ⟨k, a0, r1.1, ((r1.1.length : Int) != (4 : Int)), by omega, H, rfl⟩, Le.mk [(0, 1), (1, 2)] hm rfl ⟨⟨_, rfl, rfl⟩, ⟨_, rfl, rfl⟩, ⟨_, rfl, rfl⟩, ⟨_, rfl, rfl⟩, trivial⟩ ⟨⟨_, rfl, rfl⟩, trivial⟩ ⟨⟨_, _, rfl, rfl, rfl⟩, trivial⟩⟩
/-! ### Flaws_FnTimeText -/
def Flaws_FnTimeText (k : Nat) (a0 : List UInt8) : Option Bool := (Flaws_big k a0).bind fun r2 => cond r2 (some true) ((Fspec_DrawShowTimes k a0).bind fun r3 => (Fimpl_ShowTimes k r3).bind fun r4 => (Fimpl_ReadTimes k r4).bind fun r5 => (Fspec_DrawReadTimes k a0).bind fun r6 => (Fimpl_ReadTimes k r6).bind fun r7 => (Fspec_ReadTimes k r6).bind fun r8 => (Fspec_TimesOk k r3).bind fun r12 => cond (r5.2 == r12) (cond (!r5.2) (cond (r7.2 == r8.2) (cond (!r7.2) (some true) ((Fimpl_ShowTimes k r7.1).bind fun r13 => some (r13 == r6))) (some false)) (cond ((r5.1.Auth == r3.Auth) && ((r5.1.Start == r3.Start) && ((r5.1.End == r3.End) && ((r5.1.Renew == r3.Renew) && true)))) (cond (r7.2 == r8.2) (cond (!r7.2) (some true) ((Fimpl_ShowTimes k r7.1).bind fun r14 => some (r14 == r6))) (some false)) (some false))) (some false))
theorem ent13 : Enters Try.prog 13 := ⟨Try.f13, Try.func13, rfl, by decide⟩
set_option maxHeartbeats 8000000 in
set_option maxRecDepth 100000 in
theorem Flaws_FnTimeText_gives (k : Nat) (a0 : List UInt8) (r : Bool) (H : Flaws_FnTimeText k a0 = some r) : Gives Try.prog 13 [V.one (Cell.sl true (List.map eB a0))] [] [V.one (cL r)] [] := by
  refine Gives.intro Try.func13 rfl rfl rfl rfl ?_
  intro F hF hm
  unfold Flaws_FnTimeText at H
  obtain ⟨K, hK⟩ : ∃ K, k ≤ K := ⟨k, Nat.le_refl k⟩
  refine WpC.seq ?_
  refine WpC.regionL ?_
  refine L.assign hF rfl rfl rfl ?_
  refine L.nil ?_
  refine WpC.seq ?_
  refine WpC.seq ?_
  refine WpC.regionL ?_
  refine L.move hF rfl rfl rfl ?_
  obtain ⟨r2, hr2, H⟩ := bindS H
  refine L.call [false] [] [] 1 hF rfl rfl rfl ent47 rfl rfl rfl rfl rfl (Flaws_big_gives k true a0 r2 hr2) rfl ?_
  refine L.nil ?_
  refine WpC.cond rfl (fun hc => ?_) (fun hc => ?_)
  · replace H := condT hc H
    refine WpC.seq ?_
    refine WpC.regionL ?_
    refine L.assign hF rfl rfl rfl ?_
    refine L.nil ?_
    refine WpC.ret ?_
    cases H
    exact Leaves.ret rfl rfl rfl ⟨rfl, rfl⟩
  · replace H := condF hc H
    refine WpC.skip ?_
    refine WpC.seq ?_
    refine WpC.regionL ?_
    refine L.move hF rfl rfl rfl ?_
    obtain ⟨r3, hr3, H⟩ := bindS H
    refine L.call [false] [] [] 2 hF rfl rfl rfl ent62 rfl rfl rfl rfl rfl (Fspec_DrawShowTimes_gives k  a0 r3 hr3) rfl ?_
    refine L.alloc 6 info65 rfl hF rfl rfl rfl rfl ?_
    refine L.storePtr shape65 hF rfl rfl rfl rfl rfl rfl rfl ?_
    refine L.nil ?_
    refine WpC.seq ?_
    refine WpC.regionL ?_
    refine L.loadPtr shape65 hF rfl rfl rfl rfl rfl rfl ?_
    obtain ⟨r4, hr4, H⟩ := bindS H
    refine L.call [false] [] [] 7 hF rfl rfl rfl ent63 rfl rfl rfl rfl rfl (Fimpl_ShowTimes_gives k  r3 r4 hr4) rfl ?_
    obtain ⟨r5, hr5, H⟩ := bindS H
    refine L.call [false] [] [] 8 hF rfl rfl rfl ent58 rfl rfl rfl rfl rfl (Fimpl_ReadTimes_gives k  r4 r5 hr5) rfl ?_
    refine L.move hF rfl rfl rfl ?_
    refine L.extract hF rfl rfl rfl rfl ?_
    refine L.extract hF rfl rfl rfl rfl ?_
    refine L.alloc 13 info65 rfl hF rfl rfl rfl rfl ?_
    refine L.storePtr shape65 hF rfl rfl rfl rfl rfl rfl rfl ?_
    refine L.assign hF rfl rfl rfl ?_
    refine L.nil ?_
    refine WpC.seq ?_
    refine WpC.regionL ?_
    refine L.move hF rfl rfl rfl ?_
    obtain ⟨r6, hr6, H⟩ := bindS H
    refine L.call [false] [] [] 14 hF rfl rfl rfl ent64 rfl rfl rfl rfl rfl (Fspec_DrawReadTimes_gives k  a0 r6 hr6) rfl ?_
    refine L.assign hF rfl rfl rfl ?_
    refine L.nil ?_
    refine WpC.seq ?_
    refine WpC.regionL ?_
    refine L.move hF rfl rfl rfl ?_
    obtain ⟨r7, hr7, H⟩ := bindS H
    refine L.call [false] [] [] 15 hF rfl rfl rfl ent58 rfl rfl rfl rfl rfl (Fimpl_ReadTimes_gives k  r6 r7 hr7) rfl ?_
    refine L.move hF rfl rfl rfl ?_
    refine L.extract hF rfl rfl rfl rfl ?_
    refine L.extract hF rfl rfl rfl rfl ?_
    refine L.alloc 20 info65 rfl hF rfl rfl rfl rfl ?_
    refine L.storePtr shape65 hF rfl rfl rfl rfl rfl rfl rfl ?_
    refine L.assign hF rfl rfl rfl ?_
    refine L.nil ?_
    refine WpC.seq ?_
    refine WpC.regionL ?_
    refine L.move hF rfl rfl rfl ?_
    obtain ⟨r8, hr8, H⟩ := bindS H
    refine L.call [false] [] [] 21 hF rfl rfl rfl ent57 rfl rfl rfl rfl rfl (Fspec_ReadTimes_gives k  r6 r8 hr8) rfl ?_
    refine L.move hF rfl rfl rfl ?_
    refine L.extract hF rfl rfl rfl rfl ?_
    refine L.extract hF rfl rfl rfl rfl ?_
    refine L.alloc 26 info65 rfl hF rfl rfl rfl rfl ?_
    refine L.storePtr shape65 hF rfl rfl rfl rfl rfl rfl rfl ?_
    refine L.assign hF rfl rfl rfl ?_
    refine L.nil ?_
    refine WpC.seq ?_
    refine WpC.regionL ?_
    refine L.move hF rfl rfl rfl ?_
    refine L.loadPtr shape65 hF rfl rfl rfl rfl rfl rfl ?_
    obtain ⟨r12, hr12, H⟩ := bindS H
    refine L.call [false] [] [] 27 hF rfl rfl rfl ent65 rfl rfl rfl rfl rfl (Fspec_TimesOk_gives k  r3 r12 hr12) rfl ?_
    refine L.eqL Try.underlying4 hF rfl rfl rfl rfl ?_
    refine L.move hF rfl rfl rfl ?_
    refine L.split (fun hc => ?_) (fun hc => ?_)
    · replace H := condT hc H
      refine L.move hF rfl rfl rfl ?_
      refine L.not hF rfl rfl rfl ?_
      refine L.move hF rfl rfl rfl ?_
      refine L.split (fun hc => ?_) (fun hc => ?_)
      · replace H := condT hc H
        refine L.off hF rfl rfl ?_
        refine L.off hF rfl rfl ?_
        refine L.off hF rfl rfl ?_
        refine L.pick hF rfl rfl rfl rfl ?_
        refine L.pick hF rfl rfl rfl rfl ?_
        refine L.move hF rfl rfl rfl ?_
        refine L.move hF rfl rfl rfl ?_
        refine L.move hF rfl rfl rfl ?_
        refine L.eqL Try.underlying4 hF rfl rfl rfl rfl ?_
        refine L.pick hF rfl rfl rfl rfl ?_
        refine L.move hF rfl rfl rfl ?_
        refine L.split (fun hc => ?_) (fun hc => ?_)
        · replace H := condT hc H
          refine L.move hF rfl rfl rfl ?_
          refine L.not hF rfl rfl rfl ?_
          refine L.move hF rfl rfl rfl ?_
          refine L.split (fun hc => ?_) (fun hc => ?_)
          · replace H := condT hc H
            refine L.off hF rfl rfl ?_
            refine L.off hF rfl rfl ?_
            refine L.off hF rfl rfl ?_
            refine L.off hF rfl rfl ?_
            refine L.pick hF rfl rfl rfl rfl ?_
            refine L.pick hF rfl rfl rfl rfl ?_
            refine L.assign hF rfl rfl rfl ?_
            refine L.nil ?_
            refine WpC.ret ?_
            cases H
            exact Leaves.ret rfl rfl rfl ⟨rfl, rfl⟩
          · replace H := condF hc H
            refine L.loadPtr shape65 hF rfl rfl rfl rfl rfl rfl ?_
            obtain ⟨r13, hr13, H⟩ := bindS H
            refine L.call [false] [] [] 28 hF rfl rfl rfl ent63 rfl rfl rfl rfl rfl (Fimpl_ShowTimes_gives k  r7.1 r13 hr13) rfl ?_
            refine L.move hF rfl rfl rfl ?_
            refine L.binS hF rfl rfl rfl rfl rfl ?_
            refine L.pick hF rfl rfl rfl rfl ?_
            refine L.pick hF rfl rfl rfl rfl ?_
            refine L.assign hF rfl rfl rfl ?_
            refine L.nil ?_
            refine WpC.ret ?_
            cases H
            exact Leaves.ret rfl rfl rfl ⟨rfl, rfl⟩
        · replace H := condF hc H
          refine L.off hF rfl rfl ?_
          refine L.off hF rfl rfl ?_
          refine L.off hF rfl rfl ?_
          refine L.off hF rfl rfl ?_
          refine L.off hF rfl rfl ?_
          refine L.off hF rfl rfl ?_
          refine L.off hF rfl rfl ?_
          refine L.off hF rfl rfl ?_
          refine L.pick hF rfl rfl rfl rfl ?_
          refine L.assign hF rfl rfl rfl ?_
          refine L.nil ?_
          refine WpC.ret ?_
          cases H
          exact Leaves.ret rfl rfl rfl ⟨rfl, rfl⟩
      · replace H := condF hc H
        refine L.loadPtr shape65 hF rfl rfl rfl rfl rfl rfl ?_
        refine L.loadPtr shape65 hF rfl rfl rfl rfl rfl rfl ?_
        refine L.eqA (r := ((r5.1.Auth == r3.Auth) && ((r5.1.Start == r3.Start) && ((r5.1.End == r3.End) && ((r5.1.Renew == r3.Renew) && true))))) hF rfl rfl rfl rfl rfl rfl (by kernel_rfl) (by kernel_rfl) ?_
        refine L.pick hF rfl rfl rfl rfl ?_
        refine L.pick hF rfl rfl rfl rfl ?_
        refine L.move hF rfl rfl rfl ?_
        refine L.split (fun hc => ?_) (fun hc => ?_)
        · replace H := condT hc H
          refine L.move hF rfl rfl rfl ?_
          refine L.move hF rfl rfl rfl ?_
          refine L.eqL Try.underlying4 hF rfl rfl rfl rfl ?_
          refine L.pick hF rfl rfl rfl rfl ?_
          refine L.move hF rfl rfl rfl ?_
          refine L.split (fun hc => ?_) (fun hc => ?_)
          · replace H := condT hc H
            refine L.move hF rfl rfl rfl ?_
            refine L.not hF rfl rfl rfl ?_
            refine L.move hF rfl rfl rfl ?_
            refine L.split (fun hc => ?_) (fun hc => ?_)
            · replace H := condT hc H
              refine L.off hF rfl rfl ?_
              refine L.off hF rfl rfl ?_
              refine L.off hF rfl rfl ?_
              refine L.off hF rfl rfl ?_
              refine L.pick hF rfl rfl rfl rfl ?_
              refine L.pick hF rfl rfl rfl rfl ?_
              refine L.assign hF rfl rfl rfl ?_
              refine L.nil ?_
              refine WpC.ret ?_
              cases H
              exact Leaves.ret rfl rfl rfl ⟨rfl, rfl⟩
            · replace H := condF hc H
              refine L.loadPtr shape65 hF rfl rfl rfl rfl rfl rfl ?_
              obtain ⟨r14, hr14, H⟩ := bindS H
              refine L.call [false] [] [] 28 hF rfl rfl rfl ent63 rfl rfl rfl rfl rfl (Fimpl_ShowTimes_gives k  r7.1 r14 hr14) rfl ?_
              refine L.move hF rfl rfl rfl ?_
              refine L.binS hF rfl rfl rfl rfl rfl ?_
              refine L.pick hF rfl rfl rfl rfl ?_
              refine L.pick hF rfl rfl rfl rfl ?_
              refine L.assign hF rfl rfl rfl ?_
              refine L.nil ?_
              refine WpC.ret ?_
              cases H
              exact Leaves.ret rfl rfl rfl ⟨rfl, rfl⟩
          · replace H := condF hc H
            refine L.off hF rfl rfl ?_
            refine L.off hF rfl rfl ?_
            refine L.off hF rfl rfl ?_
            refine L.off hF rfl rfl ?_
            refine L.off hF rfl rfl ?_
            refine L.off hF rfl rfl ?_
            refine L.off hF rfl rfl ?_
            refine L.off hF rfl rfl ?_
            refine L.pick hF rfl rfl rfl rfl ?_
            refine L.assign hF rfl rfl rfl ?_
            refine L.nil ?_
            refine WpC.ret ?_
            cases H
            exact Leaves.ret rfl rfl rfl ⟨rfl, rfl⟩
        · replace H := condF hc H
          refine L.off hF rfl rfl ?_
          refine L.off hF rfl rfl ?_
          refine L.off hF rfl rfl ?_
          refine L.pick hF rfl rfl rfl rfl ?_
          refine L.move hF rfl rfl rfl ?_
          refine L.off hF rfl rfl ?_
          refine L.off hF rfl rfl ?_
          refine L.off hF rfl rfl ?_
          refine L.off hF rfl rfl ?_
          refine L.off hF rfl rfl ?_
          refine L.off hF rfl rfl ?_
          refine L.off hF rfl rfl ?_
          refine L.off hF rfl rfl ?_
          refine L.pick hF rfl rfl rfl rfl ?_
          refine L.assign hF rfl rfl rfl ?_
          refine L.nil ?_
          refine WpC.ret ?_
          cases H
          exact Leaves.ret rfl rfl rfl ⟨rfl, rfl⟩
    · replace H := condF hc H
      refine L.off hF rfl rfl ?_
      refine L.off hF rfl rfl ?_
      refine L.off hF rfl rfl ?_
      refine L.off hF rfl rfl ?_
      refine L.off hF rfl rfl ?_
      refine L.off hF rfl rfl ?_
      refine L.off hF rfl rfl ?_
      refine L.pick hF rfl rfl rfl rfl ?_
      refine L.move hF rfl rfl rfl ?_
      refine L.off hF rfl rfl ?_
      refine L.off hF rfl rfl ?_
      refine L.off hF rfl rfl ?_
      refine L.pick hF rfl rfl rfl rfl ?_
      refine L.move hF rfl rfl rfl ?_
      refine L.off hF rfl rfl ?_
      refine L.off hF rfl rfl ?_
      refine L.off hF rfl rfl ?_
      refine L.off hF rfl rfl ?_
      refine L.off hF rfl rfl ?_
      refine L.off hF rfl rfl ?_
      refine L.off hF rfl rfl ?_
      refine L.off hF rfl rfl ?_
      refine L.pick hF rfl rfl rfl rfl ?_
      refine L.assign hF rfl rfl rfl ?_
      refine L.nil ?_
      refine WpC.ret ?_
      cases H
      exact Leaves.ret rfl rfl rfl ⟨rfl, rfl⟩
theorem open50 : Go.MG.Opens Try.prog 50 (Go.MG.eR Go.MG.eB) (Go.MG.wfR (fun _ => True)) := Go.MG.Opens.slice Try.underlying50 (Go.MG.Opens.u8 Try.underlying5) (fun _ => (by kernel_rfl : Try.prog.cellsOf 5 = 1).symm) (fun _ => rfl) (fun _ => rfl) (by kernel_rfl)
end Go.Proofs.Ytcolcmjcjpikcaa.M
