import Derived.Test.YtcolcmjcjpikcaaFTakeReplyx0
import Derived.Test.YtcolcmjcjpikcaaProg
namespace Go.Proofs.Ytcolcmjcjpikcaa.M
open Go Go.MG
set_option linter.unusedVariables false
set_option linter.unusedSimpArgs false
/-! ### Fimpl_Var -/
def Fimpl_Var.l2 : Nat → Int → (List UInt8) → Option (List UInt8)
  | 0, _, _ => none
  | k2 + 1, v16, v17 => cond (decide (v16 > (127 : Int))) (cond (decide ((2 * (v17.length + ([(ofI (Go.bits .or .i64 (Go.bits .and .i64 v16 (127 : Int)) (128 : Int)))] : List UInt8).length) + 192) * 1 ≤ 281474976710656)) ((Fimpl_Var.l2 k2) (shrI .i64 v16 (7 : Int)) (v17 ++ ([(ofI (Go.bits .or .i64 (Go.bits .and .i64 v16 (127 : Int)) (128 : Int)))] : List UInt8))) none) (cond (decide ((2 * (v17.length + ([(ofI v16)] : List UInt8).length) + 192) * 1 ≤ 281474976710656)) (some (v17 ++ ([(ofI v16)] : List UInt8))) none)
def Fimpl_Var (k : Nat) (a0 : Int) : Option (List UInt8) := (Fimpl_within k a0 (0 : Int) (562949953421311 : Int)).bind fun r2 => cond (!r2) (some ([] : List UInt8)) (Fimpl_Var.l2 k a0 ([] : List UInt8))
theorem ent124 : Enters Try.prog 124 := ⟨Try.f124, Try.func124, rfl, by decide⟩
set_option maxHeartbeats 8000000 in
set_option maxRecDepth 100000 in
theorem Fimpl_Var_gives (k : Nat) (a0 : Int) (r : List UInt8) (H : Fimpl_Var k a0 = some r) : Gives Try.prog 124 [V.one (cI a0)] [] [V.one (cS r)] [] := by
  refine Gives.intro Try.func124 rfl rfl rfl rfl ?_
  intro F hF hm
  unfold Fimpl_Var at H
  obtain ⟨K, hK⟩ : ∃ K, k ≤ K := ⟨k, Nat.le_refl k⟩
  refine WpC.seq ?_
  refine WpC.regionL ?_
  refine L.assign hF rfl rfl rfl ?_
  refine L.nil ?_
  refine WpC.seq ?_
  refine WpC.seq ?_
  refine WpC.regionL ?_
  refine L.move hF rfl rfl rfl ?_
  obtain ⟨r2, hr2, H⟩ := bindS H
  refine L.call [false, false, false] [] [] 1 hF rfl rfl rfl ent113 rfl rfl rfl rfl rfl (Fimpl_within_gives k  a0 (0 : Int) (562949953421311 : Int) r2 hr2) rfl ?_
  refine L.not hF rfl rfl rfl ?_
  refine L.nil ?_
  refine WpC.cond rfl (fun hc => ?_) (fun hc => ?_)
  · replace H := condT hc H
    refine WpC.seq ?_
    refine WpC.regionL ?_
    refine L.assign hF rfl rfl rfl ?_
    refine L.nil ?_
    refine WpC.ret ?_
    cases H
    exact Leaves.ret rfl rfl rfl ⟨rfl, rfl⟩
  · replace H := condF hc H
    refine WpC.skip ?_
    refine WpC.seq ?_
    refine WpC.regionL ?_
    refine L.buildSlice (e := eB) 2 ([] : List UInt8) Try.underlying50 info5 rfl rfl rfl hF rfl rfl rfl rfl rfl rfl rfl rfl ?_
    refine L.assign hF rfl rfl rfl ?_
    refine L.nil ?_
    refine WpC.seq ?_
    refine WpC.block ?_
    refine WpC.loopL (P := Try.prog) (fun n σ => ∃ v16 : Int, ∃ v17 : List UInt8, n ≤ K ∧ Fimpl_Var.l2 n v16 v17 = some r ∧ σ = mkSt [(0, one (cI v16)), (3, one (Cell.own 0))] [(0, ⟨1, List.map eB v17⟩)] [] 1) k ⟨_, ⟨a0, ([] : List UInt8), by omega, H, rfl⟩, Le.mk [(0, 2)] hm rfl ⟨⟨_, rfl, rfl⟩, ⟨_, rfl, rfl⟩, trivial⟩ ⟨⟨_, rfl, rfl⟩, trivial⟩ trivial⟩ ?_
    clear H
    rintro k2 _ ⟨v16, v17, hk2, H, rfl⟩
    cases k2 with
    | zero => cases H
    | succ k2 =>
      rw [Fimpl_Var.l2] at H
      refine WpC.seq ?_
      refine WpC.seq ?_
      refine WpC.regionL ?_
      refine L.move hF rfl rfl rfl ?_
      refine L.bin hF rfl rfl rfl rfl rfl rfl ?_
      refine L.nil ?_
      refine WpC.cond rfl (fun hc => ?_) (fun hc => ?_)
      · replace H := condT hc H
        refine WpC.skip ?_
        refine WpC.block ?_
        refine WpC.seq ?_
        refine WpC.regionL ?_
        refine L.move hF rfl rfl rfl ?_
        refine L.move hF rfl rfl rfl ?_
        refine L.bin hF rfl rfl rfl rfl rfl rfl ?_
        refine L.bin hF rfl rfl rfl rfl rfl rfl ?_
        refine L.toB Try.underlying3 Try.underlying5 hF rfl rfl rfl ?_
        refine L.buildSlice (e := eB) 1 ([(ofI (Go.bits .or .i64 (Go.bits .and .i64 v16 (127 : Int)) (128 : Int)))] : List UInt8) Try.underlying50 info5 rfl rfl rfl hF rfl rfl rfl rfl rfl rfl rfl rfl ?_
        obtain ⟨h18, H⟩ := condG H
        refine L.append (xs := v17) (ys := ([(ofI (Go.bits .or .i64 (Go.bits .and .i64 v16 (127 : Int)) (128 : Int)))] : List UInt8)) (e := eB) 2 Try.underlying50 info5 rfl rfl hF rfl rfl rfl rfl rfl rfl rfl rfl (fun _ => rfl) (fun _ _ h1 h2 => by cases h1; cases h2; rfl) ⟨_, Try.underlying50⟩ (of_decide_eq_true h18) rfl rfl ?_
        refine L.assign hF rfl rfl rfl ?_
        refine L.nil ?_
        refine WpC.regionL ?_
        refine L.move hF rfl rfl rfl ?_
        refine L.shr hF rfl rfl rfl rfl (by decide) ?_
        refine L.assign hF rfl rfl rfl ?_
        refine L.nil ?_
        exact ⟨k2, _, by omega, ⟨(shrI .i64 v16 (7 : Int)), (v17 ++ ([(ofI (Go.bits .or .i64 (Go.bits .and .i64 v16 (127 : Int)) (128 : Int)))] : List UInt8)), by omega, H, rfl⟩, Le.mk [(0, 2)] hm rfl ⟨⟨_, rfl, rfl⟩, ⟨_, rfl, rfl⟩, trivial⟩ ⟨⟨_, rfl, rfl⟩, trivial⟩ trivial⟩
      · replace H := condF hc H
        refine WpC.exit ?_
        refine WpC.seq ?_
        refine WpC.regionL ?_
        refine L.move hF rfl rfl rfl ?_
        refine L.move hF rfl rfl rfl ?_
        refine L.toB Try.underlying3 Try.underlying5 hF rfl rfl rfl ?_
        refine L.buildSlice (e := eB) 1 ([(ofI v16)] : List UInt8) Try.underlying50 info5 rfl rfl rfl hF rfl rfl rfl rfl rfl rfl rfl rfl ?_
        obtain ⟨h19, H⟩ := condG H
        refine L.append (xs := v17) (ys := ([(ofI v16)] : List UInt8)) (e := eB) 2 Try.underlying50 info5 rfl rfl hF rfl rfl rfl rfl rfl rfl rfl rfl (fun _ => rfl) (fun _ _ h1 h2 => by cases h1; cases h2; rfl) ⟨_, Try.underlying50⟩ (of_decide_eq_true h19) rfl rfl ?_
        refine L.b2s (xs := (v17 ++ ([(ofI v16)] : List UInt8))) Try.underlying50 Try.underlying5 Try.underlying9 hF rfl rfl rfl rfl ?_
        refine L.assign hF rfl rfl rfl ?_
        refine L.nil ?_
        refine WpC.ret ?_
        cases H
        exact Leaves.ret rfl rfl rfl ⟨rfl, rfl⟩
/-! ### Fimpl_ReadVar -/
def Fimpl_ReadVar.l2 : Nat → (List UInt8) → Int → Int → Option (Int × Int)
  | 0, _, _, _ => none
  | k2 + 1, v82, v83, v84 => cond (decide (v84 < (v82.length : Int))) (cond (decide (v84 < (7 : Int))) ((at? v82 v84).bind fun b92 => cond (!(decide ((IntKind.i64.wrap ((7 : Int) * v84)) < 0))) ((at? v82 v84).bind fun b94 => cond (decide (b94 < (128 : UInt8))) ((Fimpl_Var k2 (Go.bits .or .i64 v83 (shlI .i64 ((b92 &&& (127 : UInt8)).toNat : Int) (IntKind.i64.wrap ((7 : Int) * v84))))).bind fun r97 => (cut? v82 (0 : Int) (IntKind.i64.wrap (v84 + (1 : Int)))).bind fun b98 => cond (r97 != b98) (some ((0 : Int), (0 : Int))) (some ((Go.bits .or .i64 v83 (shlI .i64 ((b92 &&& (127 : UInt8)).toNat : Int) (IntKind.i64.wrap ((7 : Int) * v84)))), (IntKind.i64.wrap (v84 + (1 : Int)))))) ((Fimpl_ReadVar.l2 k2) v82 (Go.bits .or .i64 v83 (shlI .i64 ((b92 &&& (127 : UInt8)).toNat : Int) (IntKind.i64.wrap ((7 : Int) * v84)))) (IntKind.i64.wrap (v84 + (1 : Int))))) none) (some ((0 : Int), (0 : Int)))) (some ((0 : Int), (0 : Int)))
def Fimpl_ReadVar (k : Nat) (a0 : List UInt8) : Option (Int × Int) := Fimpl_ReadVar.l2 k a0 (0 : Int) (0 : Int)
theorem ent217 : Enters Try.prog 217 := ⟨Try.f217, Try.func217, rfl, by decide⟩
set_option maxHeartbeats 8000000 in
set_option maxRecDepth 100000 in
theorem Fimpl_ReadVar_gives (k : Nat) (a0 : List UInt8) (r : Int × Int) (H : Fimpl_ReadVar k a0 = some r) : Gives Try.prog 217 [V.one (cS a0)] [] [V.one (cI r.1), V.one (cI r.2)] [] := by
  refine Gives.intro Try.func217 rfl rfl rfl rfl ?_
  intro F hF hm
  unfold Fimpl_ReadVar at H
  obtain ⟨K, hK⟩ : ∃ K, k ≤ K := ⟨k, Nat.le_refl k⟩
  refine WpC.seq ?_
  refine WpC.regionL ?_
  refine L.assign hF rfl rfl rfl ?_
  refine L.assign hF rfl rfl rfl ?_
  refine L.nil ?_
  refine WpC.seq ?_
  refine WpC.regionL ?_
  refine L.assign hF rfl rfl rfl ?_
  refine L.nil ?_
  refine WpC.seq ?_
  refine WpC.seq ?_
  refine WpC.regionL ?_
  refine L.assign hF rfl rfl rfl ?_
  refine L.nil ?_
  refine WpC.block ?_
  refine WpC.loopL (P := Try.prog) (fun n σ => ∃ v82 : List UInt8, ∃ v83 : Int, ∃ v84 : Int, n ≤ K ∧ Fimpl_ReadVar.l2 n v82 v83 v84 = some r ∧ σ = mkSt [(0, one (cS v82)), (4, one (cI v83)), (5, one (cI v84))] [] [] 0) k ⟨_, ⟨a0, (0 : Int), (0 : Int), by omega, H, rfl⟩, Le.mk [] hm rfl ⟨⟨_, rfl, rfl⟩, ⟨_, rfl, rfl⟩, ⟨_, rfl, rfl⟩, trivial⟩ trivial trivial⟩ ?_
  clear H
  rintro k2 _ ⟨v82, v83, v84, hk2, H, rfl⟩
  cases k2 with
  | zero => cases H
  | succ k2 =>
    rw [Fimpl_ReadVar.l2] at H
    refine WpC.seq ?_
    refine WpC.seq ?_
    refine WpC.regionL ?_
    refine L.move hF rfl rfl rfl ?_
    refine L.move hF rfl rfl rfl ?_
    refine L.lenS Try.underlying9 hF rfl rfl rfl ?_
    refine L.bin hF rfl rfl rfl rfl rfl rfl ?_
    refine L.move hF rfl rfl rfl ?_
    refine L.split (fun hc => ?_) (fun hc => ?_)
    · replace H := condT hc H
      refine L.move hF rfl rfl rfl ?_
      refine L.bin hF rfl rfl rfl rfl rfl rfl ?_
      refine L.pick hF rfl rfl rfl rfl ?_
      refine L.nil ?_
      refine WpC.cond rfl (fun hc => ?_) (fun hc => ?_)
      · replace H := condT hc H
        refine WpC.skip ?_
        refine WpC.seq ?_
        refine WpC.block ?_
        refine WpC.seq ?_
        refine WpC.regionL ?_
        refine L.move hF rfl rfl rfl ?_
        refine L.move hF rfl rfl rfl ?_
        refine L.move hF rfl rfl rfl ?_
        obtain ⟨b92, hb92, H⟩ := bindS H
        refine L.idxS Try.underlying9 hF rfl rfl rfl rfl hb92 ?_
        refine L.binB (a := b92) (b := (127 : UInt8)) hF rfl rfl rfl rfl rfl ?_
        refine L.ofB Try.underlying5 Try.underlying3 hF rfl rfl rfl ?_
        refine L.move hF rfl rfl rfl ?_
        refine L.bin hF rfl rfl rfl rfl rfl rfl ?_
        obtain ⟨h93, H⟩ := condG H
        refine L.shl hF rfl rfl rfl rfl (by simpa using h93) ?_
        refine L.bin hF rfl rfl rfl rfl rfl rfl ?_
        refine L.assign hF rfl rfl rfl ?_
        refine L.nil ?_
        refine WpC.seq ?_
        refine WpC.regionL ?_
        refine L.move hF rfl rfl rfl ?_
        refine L.move hF rfl rfl rfl ?_
        obtain ⟨b94, hb94, H⟩ := bindS H
        refine L.idxS Try.underlying9 hF rfl rfl rfl rfl hb94 ?_
        refine L.binB (a := b94) (b := (128 : UInt8)) hF rfl rfl rfl rfl rfl ?_
        refine L.nil ?_
        refine WpC.cond rfl (fun hc => ?_) (fun hc => ?_)
        · replace H := condT hc H
          refine WpC.seq ?_
          refine WpC.seq ?_
          obtain ⟨r97, hr97, H⟩ := bindS H
          obtain ⟨b98, hb98, H⟩ := bindS H
          refine A.begin mixed rfl rfl ?_
          intro W hI hO
          have n127 : W 0 #[true, true, true, true, true, true, true] (mkSt [(4, one (cI (Go.bits .or .i64 v83 (shlI .i64 ((b92 &&& (127 : UInt8)).toNat : Int) (IntKind.i64.wrap ((7 : Int) * v84)))))), (5, one (cI v84)), (36, one (cL (r97 != b98)))] [] [] 0) := by
            refine hI _ _ _ (A.done (by kernel_rfl) ?_)
            refine WpC.cond rfl (fun hc => ?_) (fun hc => ?_)
            · replace H := condT hc H
              refine WpC.seq ?_
              refine WpC.regionL ?_
              refine L.assign hF rfl rfl rfl ?_
              refine L.assign hF rfl rfl rfl ?_
              refine L.nil ?_
              refine WpC.ret ?_
              cases H
              exact Leaves.ret rfl rfl rfl ⟨rfl, rfl⟩
            · replace H := condF hc H
              refine WpC.skip ?_
              refine WpC.seq ?_
              refine WpC.regionL ?_
              refine L.move hF rfl rfl rfl ?_
              refine L.move hF rfl rfl rfl ?_
              refine L.bin hF rfl rfl rfl rfl rfl rfl ?_
              refine L.assign hF rfl rfl rfl ?_
              refine L.assign hF rfl rfl rfl ?_
              refine L.nil ?_
              refine WpC.ret ?_
              cases H
              exact Leaves.ret rfl rfl rfl ⟨rfl, rfl⟩
          have n63 : W 1 #[true, true, true, true, true, true, false] (mkSt [(4, one (cI (Go.bits .or .i64 v83 (shlI .i64 ((b92 &&& (127 : UInt8)).toNat : Int) (IntKind.i64.wrap ((7 : Int) * v84)))))), (5, one (cI v84)), (31, one (cS r97)), (35, one (cS b98))] [] [] 0) := by
            refine hI _ _ _ ?_
            refine A.take 6 rfl (by kernel_rfl) (by kernel_rfl) (by kernel_rfl) rfl (Ca.bin rfl rfl (calm_str _ _ _ _ _ _)) (fun Q0 k0 => L.binS hF rfl rfl rfl rfl rfl (L.nil k0)) ?_
            exact A.on (hO _ _ _ n127) (Le.mk [] hm rfl ⟨⟨_, rfl, rfl⟩, ⟨_, rfl, rfl⟩, ⟨_, rfl, rfl⟩, trivial⟩ trivial trivial)
          have n61 : W 2 #[true, false, true, true, true, true, false] (mkSt [(4, one (cI (Go.bits .or .i64 v83 (shlI .i64 ((b92 &&& (127 : UInt8)).toNat : Int) (IntKind.i64.wrap ((7 : Int) * v84)))))), (5, one (cI v84)), (30, one (cI (Go.bits .or .i64 v83 (shlI .i64 ((b92 &&& (127 : UInt8)).toNat : Int) (IntKind.i64.wrap ((7 : Int) * v84)))))), (35, one (cS b98))] [] [] 0) := by
            refine hI _ _ _ ?_
            refine A.all [1] (by kernel_rfl) rfl ⟨⟨_, rfl, ?_⟩, trivial⟩
            · refine L.call [false] [] [] 0 hF rfl rfl rfl ent124 rfl rfl rfl rfl rfl (Fimpl_Var_gives k2  (Go.bits .or .i64 v83 (shlI .i64 ((b92 &&& (127 : UInt8)).toNat : Int) (IntKind.i64.wrap ((7 : Int) * v84)))) r97 hr97) rfl ?_
              refine L.nil ?_
              exact A.on (hO _ _ _ n63) (Le.mk [] hm rfl ⟨⟨_, rfl, rfl⟩, ⟨_, rfl, rfl⟩, ⟨_, rfl, rfl⟩, ⟨_, rfl, rfl⟩, trivial⟩ trivial trivial)
          have n29 : W 3 #[true, false, true, true, true, false, false] (mkSt [(4, one (cI (Go.bits .or .i64 v83 (shlI .i64 ((b92 &&& (127 : UInt8)).toNat : Int) (IntKind.i64.wrap ((7 : Int) * v84)))))), (5, one (cI v84)), (30, one (cI (Go.bits .or .i64 v83 (shlI .i64 ((b92 &&& (127 : UInt8)).toNat : Int) (IntKind.i64.wrap ((7 : Int) * v84)))))), (32, one (cS v82)), (34, one (cI (IntKind.i64.wrap (v84 + (1 : Int)))))] [] [] 0) := by
            refine hI _ _ _ ?_
            refine A.take 5 rfl (by kernel_rfl) (by kernel_rfl) (by kernel_rfl) rfl (Ca.slice) (fun Q0 k0 => L.cutS Try.underlying9 hF rfl rfl rfl rfl rfl hb98 (L.nil k0)) ?_
            exact A.on (hO _ _ _ n61) (Le.mk [] hm rfl ⟨⟨_, rfl, rfl⟩, ⟨_, rfl, rfl⟩, ⟨_, rfl, rfl⟩, ⟨_, rfl, rfl⟩, trivial⟩ trivial trivial)
          have n13 : W 4 #[true, false, true, true, false, false, false] (mkSt [(4, one (cI (Go.bits .or .i64 v83 (shlI .i64 ((b92 &&& (127 : UInt8)).toNat : Int) (IntKind.i64.wrap ((7 : Int) * v84)))))), (5, one (cI v84)), (30, one (cI (Go.bits .or .i64 v83 (shlI .i64 ((b92 &&& (127 : UInt8)).toNat : Int) (IntKind.i64.wrap ((7 : Int) * v84)))))), (32, one (cS v82)), (33, one (cI v84))] [] [] 0) := by
            refine hI _ _ _ ?_
            refine A.take 4 rfl (by kernel_rfl) (by kernel_rfl) (by kernel_rfl) rfl (Ca.bin rfl rfl (calm_int _ _ _ _ _ _ _ _)) (fun Q0 k0 => L.bin hF rfl rfl rfl rfl rfl rfl (L.nil k0)) ?_
            exact A.on (hO _ _ _ n29) (Le.mk [] hm rfl ⟨⟨_, rfl, rfl⟩, ⟨_, rfl, rfl⟩, ⟨_, rfl, rfl⟩, ⟨_, rfl, rfl⟩, ⟨_, rfl, rfl⟩, trivial⟩ trivial trivial)
          have n5 : W 5 #[true, false, true, false, false, false, false] (mkSt [(4, one (cI (Go.bits .or .i64 v83 (shlI .i64 ((b92 &&& (127 : UInt8)).toNat : Int) (IntKind.i64.wrap ((7 : Int) * v84)))))), (5, one (cI v84)), (30, one (cI (Go.bits .or .i64 v83 (shlI .i64 ((b92 &&& (127 : UInt8)).toNat : Int) (IntKind.i64.wrap ((7 : Int) * v84)))))), (32, one (cS v82))] [] [] 0) := by
            refine hI _ _ _ ?_
            refine A.take 3 rfl (by kernel_rfl) (by kernel_rfl) (by kernel_rfl) rfl (Ca.move) (fun Q0 k0 => L.move hF rfl rfl rfl (L.nil k0)) ?_
            exact A.on (hO _ _ _ n13) (Le.mk [] hm rfl ⟨⟨_, rfl, rfl⟩, ⟨_, rfl, rfl⟩, ⟨_, rfl, rfl⟩, ⟨_, rfl, rfl⟩, ⟨_, rfl, rfl⟩, trivial⟩ trivial trivial)
          have n1 : W 6 #[true, false, false, false, false, false, false] (mkSt [(0, one (cS v82)), (4, one (cI (Go.bits .or .i64 v83 (shlI .i64 ((b92 &&& (127 : UInt8)).toNat : Int) (IntKind.i64.wrap ((7 : Int) * v84)))))), (5, one (cI v84)), (30, one (cI (Go.bits .or .i64 v83 (shlI .i64 ((b92 &&& (127 : UInt8)).toNat : Int) (IntKind.i64.wrap ((7 : Int) * v84))))))] [] [] 0) := by
            refine hI _ _ _ ?_
            refine A.take 2 rfl (by kernel_rfl) (by kernel_rfl) (by kernel_rfl) rfl (Ca.move) (fun Q0 k0 => L.move hF rfl rfl rfl (L.nil k0)) ?_
            exact A.on (hO _ _ _ n5) (Le.mk [] hm rfl ⟨⟨_, rfl, rfl⟩, ⟨_, rfl, rfl⟩, ⟨_, rfl, rfl⟩, ⟨_, rfl, rfl⟩, trivial⟩ trivial trivial)
          have n0 : W 7 #[false, false, false, false, false, false, false] (mkSt [(0, one (cS v82)), (4, one (cI (Go.bits .or .i64 v83 (shlI .i64 ((b92 &&& (127 : UInt8)).toNat : Int) (IntKind.i64.wrap ((7 : Int) * v84)))))), (5, one (cI v84))] [] [] 0) := by
            refine hI _ _ _ ?_
            refine A.take 0 rfl (by kernel_rfl) (by kernel_rfl) (by kernel_rfl) rfl (Ca.move) (fun Q0 k0 => L.move hF rfl rfl rfl (L.nil k0)) ?_
            exact A.on (hO _ _ _ n1) (Le.mk [] hm rfl ⟨⟨_, rfl, rfl⟩, ⟨_, rfl, rfl⟩, ⟨_, rfl, rfl⟩, ⟨_, rfl, rfl⟩, trivial⟩ trivial trivial)
          exact hI _ _ _ (A.on (hO _ _ _ n0) (Le.mk [] hm rfl ⟨⟨_, rfl, rfl⟩, ⟨_, rfl, rfl⟩, ⟨_, rfl, rfl⟩, trivial⟩ trivial trivial))
        · replace H := condF hc H
          refine WpC.skip ?_
          refine WpC.regionL ?_
          refine L.move hF rfl rfl rfl ?_
          refine L.bin hF rfl rfl rfl rfl rfl rfl ?_
          refine L.assign hF rfl rfl rfl ?_
          refine L.nil ?_
          exact ⟨k2, _, by omega, ⟨v82, (Go.bits .or .i64 v83 (shlI .i64 ((b92 &&& (127 : UInt8)).toNat : Int) (IntKind.i64.wrap ((7 : Int) * v84)))), (IntKind.i64.wrap (v84 + (1 : Int))), by omega, H, rfl⟩, Le.mk [] hm rfl ⟨⟨_, rfl, rfl⟩, ⟨_, rfl, rfl⟩, ⟨_, rfl, rfl⟩, trivial⟩ trivial trivial⟩
      · replace H := condF hc H
        refine WpC.exit ?_
        refine WpC.seq ?_
        refine WpC.regionL ?_
        refine L.assign hF rfl rfl rfl ?_
        refine L.assign hF rfl rfl rfl ?_
        refine L.nil ?_
        refine WpC.ret ?_
        cases H
        exact Leaves.ret rfl rfl rfl ⟨rfl, rfl⟩
    · replace H := condF hc H
      refine L.off hF rfl rfl ?_
      refine L.off hF rfl rfl ?_
      refine L.pick hF rfl rfl rfl rfl ?_
      refine L.nil ?_
      refine WpC.cond rfl (fun hc => by cases hc) (fun _ => ?_)
      refine WpC.exit ?_
      refine WpC.seq ?_
      refine WpC.regionL ?_
      refine L.assign hF rfl rfl rfl ?_
      refine L.assign hF rfl rfl rfl ?_
      refine L.nil ?_
      refine WpC.ret ?_
      cases H
      exact Leaves.ret rfl rfl rfl ⟨rfl, rfl⟩
/-! ### Fimpl_varAt -/
def Fimpl_varAt (k : Nat) (a0 : List UInt8) (a1 : Int) : Option (Int × Int) := (cut? a0 a1 (a0.length : Int)).bind fun b1 => (Fimpl_ReadVar k b1).bind fun r2 => cond (r2.2 == (0 : Int)) (some ((-1 : Int), a1)) (some (r2.1, (IntKind.i64.wrap (a1 + r2.2))))
theorem ent218 : Enters Try.prog 218 := ⟨Try.f218, Try.func218, rfl, by decide⟩
set_option maxHeartbeats 8000000 in
set_option maxRecDepth 100000 in
theorem Fimpl_varAt_gives (k : Nat) (a0 : List UInt8) (a1 : Int) (r : Int × Int) (H : Fimpl_varAt k a0 a1 = some r) : Gives Try.prog 218 [V.one (cS a0), V.one (cI a1)] [] [V.one (cI r.1), V.one (cI r.2)] [] := by
  refine Gives.intro Try.func218 rfl rfl rfl rfl ?_
  intro F hF hm
  unfold Fimpl_varAt at H
  obtain ⟨K, hK⟩ : ∃ K, k ≤ K := ⟨k, Nat.le_refl k⟩
  refine WpC.seq ?_
  refine WpC.regionL ?_
  refine L.assign hF rfl rfl rfl ?_
  refine L.assign hF rfl rfl rfl ?_
  refine L.nil ?_
  refine WpC.seq ?_
  refine WpC.regionL ?_
  refine L.move hF rfl rfl rfl ?_
  refine L.move hF rfl rfl rfl ?_
  obtain ⟨b1, hb1, H⟩ := bindS H
  refine L.cutS Try.underlying9 hF rfl rfl rfl rfl rfl hb1 ?_
  obtain ⟨r2, hr2, H⟩ := bindS H
  refine L.call [false] [] [] 2 hF rfl rfl rfl ent217 rfl rfl rfl rfl rfl (Fimpl_ReadVar_gives k  b1 r2 hr2) rfl ?_
  refine L.move hF rfl rfl rfl ?_
  refine L.extract hF rfl rfl rfl rfl ?_
  refine L.extract hF rfl rfl rfl rfl ?_
  refine L.assign hF rfl rfl rfl ?_
  refine L.assign hF rfl rfl rfl ?_
  refine L.nil ?_
  refine WpC.seq ?_
  refine WpC.seq ?_
  refine WpC.regionL ?_
  refine L.move hF rfl rfl rfl ?_
  refine L.bin hF rfl rfl rfl rfl rfl rfl ?_
  refine L.nil ?_
  refine WpC.cond rfl (fun hc => ?_) (fun hc => ?_)
  · replace H := condT hc H
    refine WpC.seq ?_
    refine WpC.regionL ?_
    refine L.move hF rfl rfl rfl ?_
    refine L.assign hF rfl rfl rfl ?_
    refine L.assign hF rfl rfl rfl ?_
    refine L.nil ?_
    refine WpC.ret ?_
    cases H
    exact Leaves.ret rfl rfl rfl ⟨rfl, rfl⟩
  · replace H := condF hc H
    refine WpC.skip ?_
    refine WpC.seq ?_
    refine WpC.regionL ?_
    refine L.move hF rfl rfl rfl ?_
    refine L.move hF rfl rfl rfl ?_
    refine L.move hF rfl rfl rfl ?_
    refine L.bin hF rfl rfl rfl rfl rfl rfl ?_
    refine L.assign hF rfl rfl rfl ?_
    refine L.assign hF rfl rfl rfl ?_
    refine L.nil ?_
    refine WpC.ret ?_
    cases H
    exact Leaves.ret rfl rfl rfl ⟨rfl, rfl⟩
/-! ### Fimpl_isKey -/
def Fimpl_isKey (k : Nat) (a0 : Int) : Option Bool := (Fimpl_within k a0 (1 : Int) (1000000 : Int)).bind fun r1 => some r1
theorem ent277 : Enters Try.prog 277 := ⟨Try.f277, Try.func277, rfl, by decide⟩
set_option maxHeartbeats 8000000 in
set_option maxRecDepth 100000 in
theorem Fimpl_isKey_gives (k : Nat) (a0 : Int) (r : Bool) (H : Fimpl_isKey k a0 = some r) : Gives Try.prog 277 [V.one (cI a0)] [] [V.one (cL r)] [] := by
  refine Gives.intro Try.func277 rfl rfl rfl rfl ?_
  intro F hF hm
  unfold Fimpl_isKey at H
  obtain ⟨K, hK⟩ : ∃ K, k ≤ K := ⟨k, Nat.le_refl k⟩
  refine WpC.seq ?_
  refine WpC.regionL ?_
  refine L.assign hF rfl rfl rfl ?_
  refine L.nil ?_
  refine WpC.seq ?_
  refine WpC.regionL ?_
  refine L.move hF rfl rfl rfl ?_
  obtain ⟨r1, hr1, H⟩ := bindS H
  refine L.call [false, false, false] [] [] 1 hF rfl rfl rfl ent113 rfl rfl rfl rfl rfl (Fimpl_within_gives k  a0 (1 : Int) (1000000 : Int) r1 hr1) rfl ?_
  refine L.assign hF rfl rfl rfl ?_
  refine L.nil ?_
  refine WpC.ret ?_
  cases H
  exact Leaves.ret rfl rfl rfl ⟨rfl, rfl⟩
/-! ### Fimpl_termAt -/
def Fimpl_termAt.l4 (cREC : (List UInt8) → Int → Int → Option Int) : Nat → (List UInt8) → Int → Int → Int → Int → Option Int
  | 0, _, _, _, _, _ => none
  | k4 + 1, v96, v97, v98, v99, v100 => cond (decide (v100 < v98)) (cond (decide (v99 ≥ (0 : Int))) ((cREC v96 v99 (IntKind.i64.wrap (v97 - (1 : Int)))).bind fun r102 => (Fimpl_termAt.l4 cREC k4) v96 v97 v98 r102 (IntKind.i64.wrap (v100 + (1 : Int)))) (some v99)) (some v99)
def Fimpl_termAt : Nat → (List UInt8) → Int → Int → Option Int
  | 0, _, _, _ => none
  | k + 1, a0, a1, a2 => cond (decide (a1 ≥ (a0.length : Int))) (some (-1 : Int)) (cond (decide (a2 < (1 : Int))) (some (-1 : Int)) ((Fimpl_varAt k a0 (IntKind.i64.wrap (a1 + (1 : Int)))).bind fun r1 => (at? a0 a1).bind fun b54 => cond (b54 == (97 : UInt8)) ((Fimpl_within k r1.1 (0 : Int) (40 : Int)).bind fun r58 => cond (!r58) (some (-1 : Int)) (cond (decide (r1.1 > (IntKind.i64.wrap ((a0.length : Int) - r1.2)))) (some (-1 : Int)) (some (IntKind.i64.wrap (r1.2 + r1.1))))) (cond (b54 == (107 : UInt8)) ((Fimpl_isKey k r1.1).bind fun r60 => cond (!r60) (some (-1 : Int)) (some r1.2)) (cond (b54 == (108 : UInt8)) ((Fimpl_within k r1.1 (0 : Int) (12 : Int)).bind fun r62 => cond (!r62) (some (-1 : Int)) (Fimpl_termAt.l4 (Fimpl_termAt k) k a0 a2 r1.1 r1.2 (0 : Int))) (cond (b54 == (115 : UInt8)) ((Fimpl_isKey k r1.1).bind fun r104 => cond (!r104) (some (-1 : Int)) (((Fimpl_termAt k) a0 r1.2 (IntKind.i64.wrap (a2 - (1 : Int)))).bind fun r105 => some r105)) (some (-1 : Int)))))))
theorem ent236 : Enters Try.prog 236 := ⟨Try.f236, Try.func236, rfl, by decide⟩
set_option maxHeartbeats 8000000 in
set_option maxRecDepth 100000 in
theorem Fimpl_termAt_gives : ∀ (k : Nat) (a0 : List UInt8) (a1 : Int) (a2 : Int) (r : Int) (H : Fimpl_termAt k a0 a1 a2 = some r), Gives Try.prog 236 [V.one (cS a0), V.one (cI a1), V.one (cI a2)] [] [V.one (cI r)] [] := by
  intro k
  induction k with
  | zero => intros; rename_i H; cases H
  | succ k ih =>
    intro a0 a1 a2 r H
    refine Gives.intro Try.func236 rfl rfl rfl rfl ?_
    intro F hF hm
    rw [Fimpl_termAt] at H
    obtain ⟨K, hK⟩ : ∃ K, k ≤ K := ⟨k, Nat.le_refl k⟩
    refine WpC.seq ?_
    refine WpC.regionL ?_
    refine L.assign hF rfl rfl rfl ?_
    refine L.nil ?_
    refine WpC.seq ?_
    refine WpC.seq ?_
    refine WpC.regionL ?_
    refine L.move hF rfl rfl rfl ?_
    refine L.move hF rfl rfl rfl ?_
    refine L.lenS Try.underlying9 hF rfl rfl rfl ?_
    refine L.bin hF rfl rfl rfl rfl rfl rfl ?_
    refine L.move hF rfl rfl rfl ?_
    refine L.split (fun hc => ?_) (fun hc => ?_)
    · replace H := condT hc H
      refine L.off hF rfl rfl ?_
      refine L.off hF rfl rfl ?_
      refine L.pick hF rfl rfl rfl rfl ?_
      refine L.nil ?_
      refine WpC.cond rfl (fun _ => ?_) (fun hc => by cases hc)
      refine WpC.seq ?_
      refine WpC.regionL ?_
      refine L.assign hF rfl rfl rfl ?_
      refine L.nil ?_
      refine WpC.ret ?_
      cases H
      exact Leaves.ret rfl rfl rfl ⟨rfl, rfl⟩
    · replace H := condF hc H
      refine L.move hF rfl rfl rfl ?_
      refine L.bin hF rfl rfl rfl rfl rfl rfl ?_
      refine L.pick hF rfl rfl rfl rfl ?_
      refine L.nil ?_
      refine WpC.cond rfl (fun hc => ?_) (fun hc => ?_)
      · replace H := condT hc H
        refine WpC.seq ?_
        refine WpC.regionL ?_
        refine L.assign hF rfl rfl rfl ?_
        refine L.nil ?_
        refine WpC.ret ?_
        cases H
        exact Leaves.ret rfl rfl rfl ⟨rfl, rfl⟩
      · replace H := condF hc H
        refine WpC.skip ?_
        refine WpC.seq ?_
        refine WpC.regionL ?_
        refine L.move hF rfl rfl rfl ?_
        refine L.move hF rfl rfl rfl ?_
        refine L.bin hF rfl rfl rfl rfl rfl rfl ?_
        obtain ⟨r1, hr1, H⟩ := bindS H
        refine L.call [false, false] [] [] 3 hF rfl rfl rfl ent218 rfl rfl rfl rfl rfl (Fimpl_varAt_gives k  a0 (IntKind.i64.wrap (a1 + (1 : Int))) r1 hr1) rfl ?_
        refine L.move hF rfl rfl rfl ?_
        refine L.extract hF rfl rfl rfl rfl ?_
        refine L.extract hF rfl rfl rfl rfl ?_
        refine L.assign hF rfl rfl rfl ?_
        refine L.assign hF rfl rfl rfl ?_
        refine L.nil ?_
        refine WpC.seq ?_
        refine WpC.seq ?_
        refine WpC.regionL ?_
        refine L.move hF rfl rfl rfl ?_
        refine L.move hF rfl rfl rfl ?_
        obtain ⟨b54, hb54, H⟩ := bindS H
        refine L.idxS Try.underlying9 hF rfl rfl rfl rfl hb54 ?_
        refine L.nil ?_
        refine WpC.block ?_
        refine WpC.seq ?_
        refine WpC.regionL ?_
        refine L.binB (a := b54) (b := (97 : UInt8)) hF rfl rfl rfl rfl rfl ?_
        refine L.assign hF rfl rfl rfl ?_
        refine L.nil ?_
        refine WpC.cond rfl (fun hc => ?_) (fun hc => ?_)
        · replace H := condT hc H
          refine WpC.seq ?_
          refine WpC.seq ?_
          refine WpC.regionL ?_
          refine L.move hF rfl rfl rfl ?_
          obtain ⟨r58, hr58, H⟩ := bindS H
          refine L.call [false, false, false] [] [] 5 hF rfl rfl rfl ent113 rfl rfl rfl rfl rfl (Fimpl_within_gives k  r1.1 (0 : Int) (40 : Int) r58 hr58) rfl ?_
          refine L.not hF rfl rfl rfl ?_
          refine L.move hF rfl rfl rfl ?_
          refine L.split (fun hc => ?_) (fun hc => ?_)
          · replace H := condT hc H
            refine L.off hF rfl rfl ?_
            refine L.off hF rfl rfl ?_
            refine L.off hF rfl rfl ?_
            refine L.off hF rfl rfl ?_
            refine L.off hF rfl rfl ?_
            refine L.off hF rfl rfl ?_
            refine L.pick hF rfl rfl rfl rfl ?_
            refine L.nil ?_
            refine WpC.cond rfl (fun _ => ?_) (fun hc => by cases hc)
            refine WpC.seq ?_
            refine WpC.regionL ?_
            refine L.assign hF rfl rfl rfl ?_
            refine L.nil ?_
            refine WpC.ret ?_
            cases H
            exact Leaves.ret rfl rfl rfl ⟨rfl, rfl⟩
          · replace H := condF hc H
            refine L.move hF rfl rfl rfl ?_
            refine L.move hF rfl rfl rfl ?_
            refine L.lenS Try.underlying9 hF rfl rfl rfl ?_
            refine L.move hF rfl rfl rfl ?_
            refine L.bin hF rfl rfl rfl rfl rfl rfl ?_
            refine L.bin hF rfl rfl rfl rfl rfl rfl ?_
            refine L.pick hF rfl rfl rfl rfl ?_
            refine L.nil ?_
            refine WpC.cond rfl (fun hc => ?_) (fun hc => ?_)
            · replace H := condT hc H
              refine WpC.seq ?_
              refine WpC.regionL ?_
              refine L.assign hF rfl rfl rfl ?_
              refine L.nil ?_
              refine WpC.ret ?_
              cases H
              exact Leaves.ret rfl rfl rfl ⟨rfl, rfl⟩
            · replace H := condF hc H
              refine WpC.skip ?_
              refine WpC.seq ?_
              refine WpC.regionL ?_
              refine L.move hF rfl rfl rfl ?_
              refine L.move hF rfl rfl rfl ?_
              refine L.bin hF rfl rfl rfl rfl rfl rfl ?_
              refine L.assign hF rfl rfl rfl ?_
              refine L.nil ?_
              refine WpC.ret ?_
              cases H
              exact Leaves.ret rfl rfl rfl ⟨rfl, rfl⟩
        · replace H := condF hc H
          refine WpC.seq ?_
          refine WpC.regionL ?_
          refine L.binB (a := b54) (b := (107 : UInt8)) hF rfl rfl rfl rfl rfl ?_
          refine L.assign hF rfl rfl rfl ?_
          refine L.nil ?_
          refine WpC.cond rfl (fun hc => ?_) (fun hc => ?_)
          · replace H := condT hc H
            refine WpC.seq ?_
            refine WpC.seq ?_
            refine WpC.regionL ?_
            refine L.move hF rfl rfl rfl ?_
            obtain ⟨r60, hr60, H⟩ := bindS H
            refine L.call [false] [] [] 5 hF rfl rfl rfl ent277 rfl rfl rfl rfl rfl (Fimpl_isKey_gives k  r1.1 r60 hr60) rfl ?_
            refine L.not hF rfl rfl rfl ?_
            refine L.nil ?_
            refine WpC.cond rfl (fun hc => ?_) (fun hc => ?_)
            · replace H := condT hc H
              refine WpC.seq ?_
              refine WpC.regionL ?_
              refine L.assign hF rfl rfl rfl ?_
              refine L.nil ?_
              refine WpC.ret ?_
              cases H
              exact Leaves.ret rfl rfl rfl ⟨rfl, rfl⟩
            · replace H := condF hc H
              refine WpC.skip ?_
              refine WpC.seq ?_
              refine WpC.regionL ?_
              refine L.move hF rfl rfl rfl ?_
              refine L.assign hF rfl rfl rfl ?_
              refine L.nil ?_
              refine WpC.ret ?_
              cases H
              exact Leaves.ret rfl rfl rfl ⟨rfl, rfl⟩
          · replace H := condF hc H
            refine WpC.seq ?_
            refine WpC.regionL ?_
            refine L.binB (a := b54) (b := (108 : UInt8)) hF rfl rfl rfl rfl rfl ?_
            refine L.assign hF rfl rfl rfl ?_
            refine L.nil ?_
            refine WpC.cond rfl (fun hc => ?_) (fun hc => ?_)
            · replace H := condT hc H
              refine WpC.seq ?_
              refine WpC.seq ?_
              refine WpC.regionL ?_
              refine L.move hF rfl rfl rfl ?_
              obtain ⟨r62, hr62, H⟩ := bindS H
              refine L.call [false, false, false] [] [] 5 hF rfl rfl rfl ent113 rfl rfl rfl rfl rfl (Fimpl_within_gives k  r1.1 (0 : Int) (12 : Int) r62 hr62) rfl ?_
              refine L.not hF rfl rfl rfl ?_
              refine L.nil ?_
              refine WpC.cond rfl (fun hc => ?_) (fun hc => ?_)
              · replace H := condT hc H
                refine WpC.seq ?_
                refine WpC.regionL ?_
                refine L.assign hF rfl rfl rfl ?_
                refine L.nil ?_
                refine WpC.ret ?_
                cases H
                exact Leaves.ret rfl rfl rfl ⟨rfl, rfl⟩
              · replace H := condF hc H
                refine WpC.skip ?_
                refine WpC.seq ?_
                refine WpC.seq ?_
                refine WpC.regionL ?_
                refine L.assign hF rfl rfl rfl ?_
                refine L.nil ?_
                refine WpC.block ?_
                refine WpC.loopL (P := Try.prog) (fun n σ => ∃ v96 : List UInt8, ∃ v97 : Int, ∃ v98 : Int, ∃ v99 : Int, ∃ v100 : Int, n ≤ K ∧ Fimpl_termAt.l4 (Fimpl_termAt k) n v96 v97 v98 v99 v100 = some r ∧ σ = mkSt [(0, one (cS v96)), (2, one (cI v97)), (7, one (cI v98)), (8, one (cI v99)), (9, one (cI v100))] [] [] 0) k ⟨_, ⟨a0, a2, r1.1, r1.2, (0 : Int), by omega, H, rfl⟩, Le.mk [] hm rfl ⟨⟨_, rfl, rfl⟩, ⟨_, rfl, rfl⟩, ⟨_, rfl, rfl⟩, ⟨_, rfl, rfl⟩, ⟨_, rfl, rfl⟩, trivial⟩ trivial trivial⟩ ?_
                clear H
                rintro k4 _ ⟨v96, v97, v98, v99, v100, hk4, H, rfl⟩
                cases k4 with
                | zero => cases H
                | succ k4 =>
                  rw [Fimpl_termAt.l4] at H
                  refine WpC.seq ?_
                  refine WpC.seq ?_
                  refine WpC.regionL ?_
                  refine L.move hF rfl rfl rfl ?_
                  refine L.move hF rfl rfl rfl ?_
                  refine L.bin hF rfl rfl rfl rfl rfl rfl ?_
                  refine L.move hF rfl rfl rfl ?_
                  refine L.split (fun hc => ?_) (fun hc => ?_)
                  · replace H := condT hc H
                    refine L.move hF rfl rfl rfl ?_
                    refine L.bin hF rfl rfl rfl rfl rfl rfl ?_
                    refine L.pick hF rfl rfl rfl rfl ?_
                    refine L.nil ?_
                    refine WpC.cond rfl (fun hc => ?_) (fun hc => ?_)
                    · replace H := condT hc H
                      refine WpC.skip ?_
                      refine WpC.seq ?_
                      refine WpC.block ?_
                      refine WpC.regionL ?_
                      refine L.move hF rfl rfl rfl ?_
                      refine L.move hF rfl rfl rfl ?_
                      refine L.move hF rfl rfl rfl ?_
                      refine L.bin hF rfl rfl rfl rfl rfl rfl ?_
                      obtain ⟨r102, hr102, H⟩ := bindS H
                      refine L.call [false, false, false] [] [] 0 hF rfl rfl rfl ent236 rfl rfl rfl rfl rfl (ih  v96 v99 (IntKind.i64.wrap (v97 - (1 : Int))) r102 hr102) rfl ?_
                      refine L.assign hF rfl rfl rfl ?_
                      refine L.nil ?_
                      refine WpC.regionL ?_
                      refine L.move hF rfl rfl rfl ?_
                      refine L.bin hF rfl rfl rfl rfl rfl rfl ?_
                      refine L.assign hF rfl rfl rfl ?_
                      refine L.nil ?_
                      exact ⟨k4, _, by omega, ⟨v96, v97, v98, r102, (IntKind.i64.wrap (v100 + (1 : Int))), by omega, H, rfl⟩, Le.mk [] hm rfl ⟨⟨_, rfl, rfl⟩, ⟨_, rfl, rfl⟩, ⟨_, rfl, rfl⟩, ⟨_, rfl, rfl⟩, ⟨_, rfl, rfl⟩, trivial⟩ trivial trivial⟩
                    · replace H := condF hc H
                      refine WpC.exit ?_
                      refine WpC.seq ?_
                      refine WpC.regionL ?_
                      refine L.move hF rfl rfl rfl ?_
                      refine L.assign hF rfl rfl rfl ?_
                      refine L.nil ?_
                      refine WpC.ret ?_
                      cases H
                      exact Leaves.ret rfl rfl rfl ⟨rfl, rfl⟩
                  · replace H := condF hc H
                    refine L.off hF rfl rfl ?_
                    refine L.off hF rfl rfl ?_
                    refine L.pick hF rfl rfl rfl rfl ?_
                    refine L.nil ?_
                    refine WpC.cond rfl (fun hc => by cases hc) (fun _ => ?_)
                    refine WpC.exit ?_
                    refine WpC.seq ?_
                    refine WpC.regionL ?_
                    refine L.move hF rfl rfl rfl ?_
                    refine L.assign hF rfl rfl rfl ?_
                    refine L.nil ?_
                    refine WpC.ret ?_
                    cases H
                    exact Leaves.ret rfl rfl rfl ⟨rfl, rfl⟩
            · replace H := condF hc H
              refine WpC.seq ?_
              refine WpC.regionL ?_
              refine L.binB (a := b54) (b := (115 : UInt8)) hF rfl rfl rfl rfl rfl ?_
              refine L.assign hF rfl rfl rfl ?_
              refine L.nil ?_
              refine WpC.cond rfl (fun hc => ?_) (fun hc => ?_)
              · replace H := condT hc H
                refine WpC.seq ?_
                refine WpC.seq ?_
                refine WpC.regionL ?_
                refine L.move hF rfl rfl rfl ?_
                obtain ⟨r104, hr104, H⟩ := bindS H
                refine L.call [false] [] [] 5 hF rfl rfl rfl ent277 rfl rfl rfl rfl rfl (Fimpl_isKey_gives k  r1.1 r104 hr104) rfl ?_
                refine L.not hF rfl rfl rfl ?_
                refine L.nil ?_
                refine WpC.cond rfl (fun hc => ?_) (fun hc => ?_)
                · replace H := condT hc H
                  refine WpC.seq ?_
                  refine WpC.regionL ?_
                  refine L.assign hF rfl rfl rfl ?_
                  refine L.nil ?_
                  refine WpC.ret ?_
                  cases H
                  exact Leaves.ret rfl rfl rfl ⟨rfl, rfl⟩
                · replace H := condF hc H
                  refine WpC.skip ?_
                  refine WpC.seq ?_
                  refine WpC.regionL ?_
                  refine L.move hF rfl rfl rfl ?_
                  refine L.move hF rfl rfl rfl ?_
                  refine L.move hF rfl rfl rfl ?_
                  refine L.bin hF rfl rfl rfl rfl rfl rfl ?_
                  obtain ⟨r105, hr105, H⟩ := bindS H
                  refine L.call [false, false, false] [] [] 6 hF rfl rfl rfl ent236 rfl rfl rfl rfl rfl (ih  a0 r1.2 (IntKind.i64.wrap (a2 - (1 : Int))) r105 hr105) rfl ?_
                  refine L.assign hF rfl rfl rfl ?_
                  refine L.nil ?_
                  refine WpC.ret ?_
                  cases H
                  exact Leaves.ret rfl rfl rfl ⟨rfl, rfl⟩
              · replace H := condF hc H
                refine WpC.skip ?_
                refine WpC.seq ?_
                refine WpC.regionL ?_
                refine L.assign hF rfl rfl rfl ?_
                refine L.nil ?_
                refine WpC.ret ?_
                cases H
                exact Leaves.ret rfl rfl rfl ⟨rfl, rfl⟩
/-! ### Fimpl_TermOk -/
def Fimpl_TermOk (k : Nat) (a0 : List UInt8) : Option Bool := (Fimpl_within k (a0.length : Int) (1 : Int) (900 : Int)).bind fun r3 => cond r3 ((Fimpl_termAt k a0 (0 : Int) (8 : Int)).bind fun r4 => some (r4 == (a0.length : Int))) (some false)
theorem ent274 : Enters Try.prog 274 := ⟨Try.f274, Try.func274, rfl, by decide⟩
set_option maxHeartbeats 8000000 in
set_option maxRecDepth 100000 in
theorem Fimpl_TermOk_gives (k : Nat) (a0 : List UInt8) (r : Bool) (H : Fimpl_TermOk k a0 = some r) : Gives Try.prog 274 [V.one (cS a0)] [] [V.one (cL r)] [] := by
  refine Gives.intro Try.func274 rfl rfl rfl rfl ?_
  intro F hF hm
  unfold Fimpl_TermOk at H
  obtain ⟨K, hK⟩ : ∃ K, k ≤ K := ⟨k, Nat.le_refl k⟩
  refine WpC.seq ?_
  refine WpC.regionL ?_
  refine L.assign hF rfl rfl rfl ?_
  refine L.nil ?_
  refine WpC.seq ?_
  refine WpC.regionL ?_
  refine L.move hF rfl rfl rfl ?_
  refine L.lenS Try.underlying9 hF rfl rfl rfl ?_
  obtain ⟨r3, hr3, H⟩ := bindS H
  refine L.call [false, false, false] [] [] 1 hF rfl rfl rfl ent113 rfl rfl rfl rfl rfl (Fimpl_within_gives k  (a0.length : Int) (1 : Int) (900 : Int) r3 hr3) rfl ?_
  refine L.move hF rfl rfl rfl ?_
  refine L.split (fun hc => ?_) (fun hc => ?_)
  · replace H := condT hc H
    refine L.move hF rfl rfl rfl ?_
    obtain ⟨r4, hr4, H⟩ := bindS H
    refine L.call [false, false, false] [] [] 2 hF rfl rfl rfl ent236 rfl rfl rfl rfl rfl (Fimpl_termAt_gives k  a0 (0 : Int) (8 : Int) r4 hr4) rfl ?_
    refine L.move hF rfl rfl rfl ?_
    refine L.lenS Try.underlying9 hF rfl rfl rfl ?_
    refine L.bin hF rfl rfl rfl rfl rfl rfl ?_
    refine L.pick hF rfl rfl rfl rfl ?_
    refine L.assign hF rfl rfl rfl ?_
    refine L.nil ?_
    refine WpC.ret ?_
    cases H
    exact Leaves.ret rfl rfl rfl ⟨rfl, rfl⟩
  · replace H := condF hc H
    refine L.off hF rfl rfl ?_
    refine L.off hF rfl rfl ?_
    refine L.off hF rfl rfl ?_
    refine L.off hF rfl rfl ?_
    refine L.off hF rfl rfl ?_
    refine L.pick hF rfl rfl rfl rfl ?_
    refine L.assign hF rfl rfl rfl ?_
    refine L.nil ?_
    refine WpC.ret ?_
    cases H
    exact Leaves.ret rfl rfl rfl ⟨rfl, rfl⟩
/-! ### Fimpl_isOf -/
def Fimpl_isOf (k : Nat) (a0 : List UInt8) (a1 : UInt8) : Option Bool := (Fimpl_TermOk k a0).bind fun r3 => cond r3 ((at? a0 (0 : Int)).bind fun b4 => some (b4 == a1)) (some false)
theorem ent235 : Enters Try.prog 235 := ⟨Try.f235, Try.func235, rfl, by decide⟩
set_option maxHeartbeats 8000000 in
set_option maxRecDepth 100000 in
theorem Fimpl_isOf_gives (k : Nat) (a0 : List UInt8) (a1 : UInt8) (r : Bool) (H : Fimpl_isOf k a0 a1 = some r) : Gives Try.prog 235 [V.one (cS a0), V.one (cU a1)] [] [V.one (cL r)] [] := by
  refine Gives.intro Try.func235 rfl rfl rfl rfl ?_
  intro F hF hm
  unfold Fimpl_isOf at H
  obtain ⟨K, hK⟩ : ∃ K, k ≤ K := ⟨k, Nat.le_refl k⟩
  refine WpC.seq ?_
  refine WpC.regionL ?_
  refine L.assign hF rfl rfl rfl ?_
  refine L.nil ?_
  refine WpC.seq ?_
  refine WpC.regionL ?_
  refine L.move hF rfl rfl rfl ?_
  obtain ⟨r3, hr3, H⟩ := bindS H
  refine L.call [false] [] [] 2 hF rfl rfl rfl ent274 rfl rfl rfl rfl rfl (Fimpl_TermOk_gives k  a0 r3 hr3) rfl ?_
  refine L.move hF rfl rfl rfl ?_
  refine L.split (fun hc => ?_) (fun hc => ?_)
  · replace H := condT hc H
    refine L.move hF rfl rfl rfl ?_
    obtain ⟨b4, hb4, H⟩ := bindS H
    refine L.idxS Try.underlying9 hF rfl rfl rfl rfl hb4 ?_
    refine L.move hF rfl rfl rfl ?_
    refine L.binB (a := b4) (b := a1) hF rfl rfl rfl rfl rfl ?_
    refine L.pick hF rfl rfl rfl rfl ?_
    refine L.assign hF rfl rfl rfl ?_
    refine L.nil ?_
    refine WpC.ret ?_
    cases H
    exact Leaves.ret rfl rfl rfl ⟨rfl, rfl⟩
  · replace H := condF hc H
    refine L.off hF rfl rfl ?_
    refine L.off hF rfl rfl ?_
    refine L.off hF rfl rfl ?_
    refine L.off hF rfl rfl ?_
    refine L.pick hF rfl rfl rfl rfl ?_
    refine L.assign hF rfl rfl rfl ?_
    refine L.nil ?_
    refine WpC.ret ?_
    cases H
    exact Leaves.ret rfl rfl rfl ⟨rfl, rfl⟩
/-! ### Fimpl_Parts -/
def Fimpl_Parts.l2 : Nat → (List UInt8) → Int → (List (List UInt8)) → Int → Int → Option (List (List UInt8) × Bool)
  | 0, _, _, _, _, _ => none
  | k2 + 1, v57, v58, v59, v60, v61 => cond (decide (v61 < v60)) ((Fimpl_termAt k2 v57 v58 (8 : Int)).bind fun r65 => (cut? v57 v58 r65).bind fun b66 => cond (decide ((2 * (v59.length + ([b66] : List (List UInt8)).length) + 192) * 16 ≤ 281474976710656)) ((Fimpl_Parts.l2 k2) v57 r65 (v59 ++ ([b66] : List (List UInt8))) v60 (IntKind.i64.wrap (v61 + (1 : Int)))) none) (some (v59, true))
def Fimpl_Parts (k : Nat) (a0 : List UInt8) : Option (List (List UInt8) × Bool) := (Fimpl_isOf k a0 (108 : UInt8)).bind fun r2 => cond (!r2) (some ([], false)) ((Fimpl_varAt k a0 (1 : Int)).bind fun r3 => Fimpl_Parts.l2 k a0 r3.2 ([] : List (List UInt8)) r3.1 (0 : Int))
theorem ent144 : Enters Try.prog 144 := ⟨Try.f144, Try.func144, rfl, by decide⟩
set_option maxHeartbeats 8000000 in
set_option maxRecDepth 100000 in
theorem Fimpl_Parts_gives (k : Nat) (a0 : List UInt8) (r : List (List UInt8) × Bool) (H : Fimpl_Parts k a0 = some r) : Gives Try.prog 144 [V.one (cS a0)] [] [V.one (Cell.ow 1 (List.map eS r.1)), V.one (cL r.2)] [] := by
  refine Gives.intro Try.func144 rfl rfl rfl rfl ?_
  intro F hF hm
  unfold Fimpl_Parts at H
  obtain ⟨K, hK⟩ : ∃ K, k ≤ K := ⟨k, Nat.le_refl k⟩
  refine WpC.seq ?_
  refine WpC.regionL ?_
  refine L.assign hF rfl rfl rfl ?_
  refine L.assign hF rfl rfl rfl ?_
  refine L.nil ?_
  refine WpC.seq ?_
  refine WpC.seq ?_
  refine WpC.regionL ?_
  refine L.move hF rfl rfl rfl ?_
  obtain ⟨r2, hr2, H⟩ := bindS H
  refine L.call [false, false] [] [] 1 hF rfl rfl rfl ent235 rfl rfl rfl rfl rfl (Fimpl_isOf_gives k  a0 (108 : UInt8) r2 hr2) rfl ?_
  refine L.not hF rfl rfl rfl ?_
  refine L.nil ?_
  refine WpC.cond rfl (fun hc => ?_) (fun hc => ?_)
  · replace H := condT hc H
    refine WpC.seq ?_
    refine WpC.regionL ?_
    refine L.assign hF rfl rfl rfl ?_
    refine L.assign hF rfl rfl rfl ?_
    refine L.nil ?_
    refine WpC.le (Le.own 2 0 2 1 rfl rfl rfl) ?_
    refine WpC.ret ?_
    cases H
    exact Leaves.ret rfl rfl rfl ⟨rfl, rfl⟩
  · replace H := condF hc H
    refine WpC.skip ?_
    refine WpC.seq ?_
    refine WpC.regionL ?_
    refine L.move hF rfl rfl rfl ?_
    obtain ⟨r3, hr3, H⟩ := bindS H
    refine L.call [false, false] [] [] 2 hF rfl rfl rfl ent218 rfl rfl rfl rfl rfl (Fimpl_varAt_gives k  a0 (1 : Int) r3 hr3) rfl ?_
    refine L.move hF rfl rfl rfl ?_
    refine L.extract hF rfl rfl rfl rfl ?_
    refine L.extract hF rfl rfl rfl rfl ?_
    refine L.assign hF rfl rfl rfl ?_
    refine L.assign hF rfl rfl rfl ?_
    refine L.nil ?_
    refine WpC.seq ?_
    refine WpC.regionL ?_
    refine L.buildSlice (e := eS) 4 ([] : List (List UInt8)) Try.underlying120 info9 rfl rfl rfl hF rfl rfl rfl rfl rfl rfl rfl rfl ?_
    refine L.assign hF rfl rfl rfl ?_
    refine L.nil ?_
    refine WpC.seq ?_
    refine WpC.seq ?_
    refine WpC.regionL ?_
    refine L.move hF rfl rfl rfl ?_
    refine L.move hF rfl rfl rfl ?_
    refine L.nil ?_
    refine WpC.block ?_
    refine WpC.loopL (P := Try.prog) (fun n σ => ∃ v57 : List UInt8, ∃ v58 : Int, ∃ v59 : List (List UInt8), ∃ v60 : Int, ∃ v61 : Int, n ≤ K ∧ Fimpl_Parts.l2 n v57 v58 v59 v60 v61 = some r ∧ σ = mkSt [(0, one (cS v57)), (5, one (cI v58)), (6, one (Cell.own 0)), (17, one (cI v60)), (18, one (cI v61))] [(0, ⟨1, List.map eS v59⟩)] [] 1) k ⟨_, ⟨a0, r3.2, ([] : List (List UInt8)), r3.1, (0 : Int), by omega, H, rfl⟩, Le.mk [(0, 4)] hm rfl ⟨⟨_, rfl, rfl⟩, ⟨_, rfl, rfl⟩, ⟨_, rfl, rfl⟩, ⟨_, rfl, rfl⟩, ⟨_, rfl, rfl⟩, trivial⟩ ⟨⟨_, rfl, rfl⟩, trivial⟩ trivial⟩ ?_
    clear H
    rintro k2 _ ⟨v57, v58, v59, v60, v61, hk2, H, rfl⟩
    cases k2 with
    | zero => cases H
    | succ k2 =>
      rw [Fimpl_Parts.l2] at H
      refine WpC.seq ?_
      refine WpC.regionL ?_
      refine L.bin hF rfl rfl rfl rfl rfl rfl ?_
      refine L.nil ?_
      refine WpC.seq ?_
      refine WpC.cond rfl (fun hc => ?_) (fun hc => ?_)
      · replace H := condT hc H
        refine WpC.skip ?_
        refine WpC.seq ?_
        refine WpC.block ?_
        refine WpC.seq ?_
        refine WpC.regionL ?_
        refine L.move hF rfl rfl rfl ?_
        refine L.move hF rfl rfl rfl ?_
        obtain ⟨r65, hr65, H⟩ := bindS H
        refine L.call [false, false, false] [] [] 1 hF rfl rfl rfl ent236 rfl rfl rfl rfl rfl (Fimpl_termAt_gives k2  v57 v58 (8 : Int) r65 hr65) rfl ?_
        refine L.assign hF rfl rfl rfl ?_
        refine L.nil ?_
        refine WpC.seq ?_
        refine WpC.regionL ?_
        refine L.move hF rfl rfl rfl ?_
        refine L.move hF rfl rfl rfl ?_
        refine L.move hF rfl rfl rfl ?_
        refine L.move hF rfl rfl rfl ?_
        obtain ⟨b66, hb66, H⟩ := bindS H
        refine L.cutS Try.underlying9 hF rfl rfl rfl rfl rfl hb66 ?_
        refine L.buildSlice (e := eS) 2 ([b66] : List (List UInt8)) Try.underlying120 info9 rfl rfl rfl hF rfl rfl rfl rfl rfl rfl rfl rfl ?_
        obtain ⟨h67, H⟩ := condG H
        refine L.append (xs := v59) (ys := ([b66] : List (List UInt8))) (e := eS) 3 Try.underlying120 info9 rfl rfl hF rfl rfl rfl rfl rfl rfl rfl rfl (fun _ => rfl) (fun _ _ h1 h2 => by cases h1; cases h2; rfl) ⟨_, Try.underlying120⟩ (of_decide_eq_true h67) rfl rfl ?_
        refine L.assign hF rfl rfl rfl ?_
        refine L.nil ?_
        refine WpC.regionL ?_
        refine L.move hF rfl rfl rfl ?_
        refine L.assign hF rfl rfl rfl ?_
        refine L.nil ?_
        refine WpC.regionL ?_
        refine L.bin hF rfl rfl rfl rfl rfl rfl ?_
        refine L.move hF rfl rfl rfl ?_
        refine L.nil ?_
        exact ⟨k2, _, by omega, ⟨v57, r65, (v59 ++ ([b66] : List (List UInt8))), v60, (IntKind.i64.wrap (v61 + (1 : Int))), by omega, H, rfl⟩, Le.mk [(0, 3)] hm rfl ⟨⟨_, rfl, rfl⟩, ⟨_, rfl, rfl⟩, ⟨_, rfl, rfl⟩, ⟨_, rfl, rfl⟩, ⟨_, rfl, rfl⟩, trivial⟩ ⟨⟨_, rfl, rfl⟩, trivial⟩ trivial⟩
      · replace H := condF hc H
        refine WpC.exit ?_
        refine WpC.seq ?_
        refine WpC.regionL ?_
        refine L.move hF rfl rfl rfl ?_
        refine L.assign hF rfl rfl rfl ?_
        refine L.assign hF rfl rfl rfl ?_
        refine L.nil ?_
        refine WpC.ret ?_
        cases H
        exact Leaves.ret rfl rfl rfl ⟨rfl, rfl⟩
/-! ### Fimpl_isPrincipal -/
def Fimpl_isPrincipal (k : Nat) (a0 : Int) : Option Bool := (Fimpl_within k a0 (0 : Int) (5 : Int)).bind fun r1 => some r1
theorem ent145 : Enters Try.prog 145 := ⟨Try.f145, Try.func145, rfl, by decide⟩
set_option maxHeartbeats 8000000 in
set_option maxRecDepth 100000 in
theorem Fimpl_isPrincipal_gives (k : Nat) (a0 : Int) (r : Bool) (H : Fimpl_isPrincipal k a0 = some r) : Gives Try.prog 145 [V.one (cI a0)] [] [V.one (cL r)] [] := by
  refine Gives.intro Try.func145 rfl rfl rfl rfl ?_
  intro F hF hm
  unfold Fimpl_isPrincipal at H
  obtain ⟨K, hK⟩ : ∃ K, k ≤ K := ⟨k, Nat.le_refl k⟩
  refine WpC.seq ?_
  refine WpC.regionL ?_
  refine L.assign hF rfl rfl rfl ?_
  refine L.nil ?_
  refine WpC.seq ?_
  refine WpC.regionL ?_
  refine L.move hF rfl rfl rfl ?_
  obtain ⟨r1, hr1, H⟩ := bindS H
  refine L.call [false, false, false] [] [] 1 hF rfl rfl rfl ent113 rfl rfl rfl rfl rfl (Fimpl_within_gives k  a0 (0 : Int) (5 : Int) r1 hr1) rfl ?_
  refine L.assign hF rfl rfl rfl ?_
  refine L.nil ?_
  refine WpC.ret ?_
  cases H
  exact Leaves.ret rfl rfl rfl ⟨rfl, rfl⟩
/-! ### Fimpl_ReadAtom -/
def Fimpl_ReadAtom (k : Nat) (a0 : List UInt8) : Option (List UInt8 × Bool) := (Fimpl_isOf k a0 (97 : UInt8)).bind fun r2 => cond (!r2) (some (([] : List UInt8), false)) ((Fimpl_varAt k a0 (1 : Int)).bind fun r3 => (cut? a0 r3.2 (a0.length : Int)).bind fun b4 => some (b4, true))
theorem ent272 : Enters Try.prog 272 := ⟨Try.f272, Try.func272, rfl, by decide⟩
set_option maxHeartbeats 8000000 in
set_option maxRecDepth 100000 in
theorem Fimpl_ReadAtom_gives (k : Nat) (a0 : List UInt8) (r : List UInt8 × Bool) (H : Fimpl_ReadAtom k a0 = some r) : Gives Try.prog 272 [V.one (cS a0)] [] [V.one (cS r.1), V.one (cL r.2)] [] := by
  refine Gives.intro Try.func272 rfl rfl rfl rfl ?_
  intro F hF hm
  unfold Fimpl_ReadAtom at H
  obtain ⟨K, hK⟩ : ∃ K, k ≤ K := ⟨k, Nat.le_refl k⟩
  refine WpC.seq ?_
  refine WpC.regionL ?_
  refine L.assign hF rfl rfl rfl ?_
  refine L.assign hF rfl rfl rfl ?_
  refine L.nil ?_
  refine WpC.seq ?_
  refine WpC.seq ?_
  refine WpC.regionL ?_
  refine L.move hF rfl rfl rfl ?_
  obtain ⟨r2, hr2, H⟩ := bindS H
  refine L.call [false, false] [] [] 1 hF rfl rfl rfl ent235 rfl rfl rfl rfl rfl (Fimpl_isOf_gives k  a0 (97 : UInt8) r2 hr2) rfl ?_
  refine L.not hF rfl rfl rfl ?_
  refine L.nil ?_
  refine WpC.cond rfl (fun hc => ?_) (fun hc => ?_)
  · replace H := condT hc H
    refine WpC.seq ?_
    refine WpC.regionL ?_
    refine L.assign hF rfl rfl rfl ?_
    refine L.assign hF rfl rfl rfl ?_
    refine L.nil ?_
    refine WpC.ret ?_
    cases H
    exact Leaves.ret rfl rfl rfl ⟨rfl, rfl⟩
  · replace H := condF hc H
    refine WpC.skip ?_
    refine WpC.seq ?_
    refine WpC.regionL ?_
    refine L.move hF rfl rfl rfl ?_
    obtain ⟨r3, hr3, H⟩ := bindS H
    refine L.call [false, false] [] [] 2 hF rfl rfl rfl ent218 rfl rfl rfl rfl rfl (Fimpl_varAt_gives k  a0 (1 : Int) r3 hr3) rfl ?_
    refine L.move hF rfl rfl rfl ?_
    refine L.extract hF rfl rfl rfl rfl ?_
    refine L.extract hF rfl rfl rfl rfl ?_
    refine L.assign hF rfl rfl rfl ?_
    refine L.assign hF rfl rfl rfl ?_
    refine L.nil ?_
    refine WpC.seq ?_
    refine WpC.regionL ?_
    refine L.move hF rfl rfl rfl ?_
    refine L.move hF rfl rfl rfl ?_
    obtain ⟨b4, hb4, H⟩ := bindS H
    refine L.cutS Try.underlying9 hF rfl rfl rfl rfl rfl hb4 ?_
    refine L.assign hF rfl rfl rfl ?_
    refine L.assign hF rfl rfl rfl ?_
    refine L.nil ?_
    refine WpC.ret ?_
    cases H
    exact Leaves.ret rfl rfl rfl ⟨rfl, rfl⟩
/-! ### Fimpl_ReadNum -/
def Fimpl_ReadNum (k : Nat) (a0 : List UInt8) : Option (Int × Bool) := (Fimpl_ReadAtom k a0).bind fun r1 => (Fimpl_ReadVar k r1.1).bind fun r2 => cond (!r1.2) (some ((0 : Int), false)) (cond (r2.2 == (0 : Int)) (some ((0 : Int), false)) (cond (r2.2 != (r1.1.length : Int)) (some ((0 : Int), false)) (some (r2.1, true))))
theorem ent226 : Enters Try.prog 226 := ⟨Try.f226, Try.func226, rfl, by decide⟩
set_option maxHeartbeats 8000000 in
set_option maxRecDepth 100000 in
theorem Fimpl_ReadNum_gives (k : Nat) (a0 : List UInt8) (r : Int × Bool) (H : Fimpl_ReadNum k a0 = some r) : Gives Try.prog 226 [V.one (cS a0)] [] [V.one (cI r.1), V.one (cL r.2)] [] := by
  refine Gives.intro Try.func226 rfl rfl rfl rfl ?_
  intro F hF hm
  unfold Fimpl_ReadNum at H
  obtain ⟨K, hK⟩ : ∃ K, k ≤ K := ⟨k, Nat.le_refl k⟩
  refine WpC.seq ?_
  refine WpC.regionL ?_
  refine L.assign hF rfl rfl rfl ?_
  refine L.assign hF rfl rfl rfl ?_
  refine L.nil ?_
  refine WpC.seq ?_
  refine WpC.regionL ?_
  refine L.move hF rfl rfl rfl ?_
  obtain ⟨r1, hr1, H⟩ := bindS H
  refine L.call [false] [] [] 1 hF rfl rfl rfl ent272 rfl rfl rfl rfl rfl (Fimpl_ReadAtom_gives k  a0 r1 hr1) rfl ?_
  refine L.move hF rfl rfl rfl ?_
  refine L.extract hF rfl rfl rfl rfl ?_
  refine L.extract hF rfl rfl rfl rfl ?_
  refine L.assign hF rfl rfl rfl ?_
  refine L.assign hF rfl rfl rfl ?_
  refine L.nil ?_
  refine WpC.seq ?_
  refine WpC.regionL ?_
  refine L.move hF rfl rfl rfl ?_
  obtain ⟨r2, hr2, H⟩ := bindS H
  refine L.call [false] [] [] 3 hF rfl rfl rfl ent217 rfl rfl rfl rfl rfl (Fimpl_ReadVar_gives k  r1.1 r2 hr2) rfl ?_
  refine L.move hF rfl rfl rfl ?_
  refine L.extract hF rfl rfl rfl rfl ?_
  refine L.extract hF rfl rfl rfl rfl ?_
  refine L.assign hF rfl rfl rfl ?_
  refine L.assign hF rfl rfl rfl ?_
  refine L.nil ?_
  refine WpC.seq ?_
  refine WpC.seq ?_
  refine WpC.regionL ?_
  refine L.move hF rfl rfl rfl ?_
  refine L.not hF rfl rfl rfl ?_
  refine L.move hF rfl rfl rfl ?_
  refine L.split (fun hc => ?_) (fun hc => ?_)
  · replace H := condT hc H
    refine L.off hF rfl rfl ?_
    refine L.off hF rfl rfl ?_
    refine L.pick hF rfl rfl rfl rfl ?_
    refine L.move hF rfl rfl rfl ?_
    refine L.off hF rfl rfl ?_
    refine L.off hF rfl rfl ?_
    refine L.off hF rfl rfl ?_
    refine L.off hF rfl rfl ?_
    refine L.pick hF rfl rfl rfl rfl ?_
    refine L.nil ?_
    refine WpC.cond rfl (fun _ => ?_) (fun hc => by cases hc)
    refine WpC.seq ?_
    refine WpC.regionL ?_
    refine L.assign hF rfl rfl rfl ?_
    refine L.assign hF rfl rfl rfl ?_
    refine L.nil ?_
    refine WpC.ret ?_
    cases H
    exact Leaves.ret rfl rfl rfl ⟨rfl, rfl⟩
  · replace H := condF hc H
    refine L.move hF rfl rfl rfl ?_
    refine L.bin hF rfl rfl rfl rfl rfl rfl ?_
    refine L.pick hF rfl rfl rfl rfl ?_
    refine L.move hF rfl rfl rfl ?_
    refine L.split (fun hc => ?_) (fun hc => ?_)
    · replace H := condT hc H
      refine L.off hF rfl rfl ?_
      refine L.off hF rfl rfl ?_
      refine L.off hF rfl rfl ?_
      refine L.off hF rfl rfl ?_
      refine L.pick hF rfl rfl rfl rfl ?_
      refine L.nil ?_
      refine WpC.cond rfl (fun _ => ?_) (fun hc => by cases hc)
      refine WpC.seq ?_
      refine WpC.regionL ?_
      refine L.assign hF rfl rfl rfl ?_
      refine L.assign hF rfl rfl rfl ?_
      refine L.nil ?_
      refine WpC.ret ?_
      cases H
      exact Leaves.ret rfl rfl rfl ⟨rfl, rfl⟩
    · replace H := condF hc H
      refine L.move hF rfl rfl rfl ?_
      refine L.move hF rfl rfl rfl ?_
      refine L.lenS Try.underlying9 hF rfl rfl rfl ?_
      refine L.bin hF rfl rfl rfl rfl rfl rfl ?_
      refine L.pick hF rfl rfl rfl rfl ?_
      refine L.nil ?_
      refine WpC.cond rfl (fun hc => ?_) (fun hc => ?_)
      · replace H := condT hc H
        refine WpC.seq ?_
        refine WpC.regionL ?_
        refine L.assign hF rfl rfl rfl ?_
        refine L.assign hF rfl rfl rfl ?_
        refine L.nil ?_
        refine WpC.ret ?_
        cases H
        exact Leaves.ret rfl rfl rfl ⟨rfl, rfl⟩
      · replace H := condF hc H
        refine WpC.skip ?_
        refine WpC.seq ?_
        refine WpC.regionL ?_
        refine L.move hF rfl rfl rfl ?_
        refine L.assign hF rfl rfl rfl ?_
        refine L.assign hF rfl rfl rfl ?_
        refine L.nil ?_
        refine WpC.ret ?_
        cases H
        exact Leaves.ret rfl rfl rfl ⟨rfl, rfl⟩
/-! ### Fimpl_ReadNums -/
def Fimpl_ReadNums.l2 : Nat → (List Int) → (List (List UInt8)) → Int → Int → Option (List Int × Bool)
  | 0, _, _, _, _ => none
  | k2 + 1, v48, v49, v50, v51 => cond (decide (v51 < v50)) ((at? v49 v51).bind fun b55 => (Fimpl_ReadNum k2 b55).bind fun r56 => cond (!r56.2) (some ([], false)) (cond (decide ((2 * (v48.length + ([r56.1] : List Int).length) + 192) * 8 ≤ 281474976710656)) ((Fimpl_ReadNums.l2 k2) (v48 ++ ([r56.1] : List Int)) v49 v50 (IntKind.i64.wrap (v51 + (1 : Int)))) none)) (some (v48, true))
def Fimpl_ReadNums (k : Nat) (a0 : List UInt8) : Option (List Int × Bool) := (Fimpl_Parts k a0).bind fun r1 => cond (!r1.2) (some ([], false)) (Fimpl_ReadNums.l2 k ([] : List Int) r1.1 (r1.1.length : Int) (0 : Int))
theorem ent136 : Enters Try.prog 136 := ⟨Try.f136, Try.func136, rfl, by decide⟩
set_option maxHeartbeats 8000000 in
set_option maxRecDepth 100000 in
theorem Fimpl_ReadNums_gives (k : Nat) (a0 : List UInt8) (r : List Int × Bool) (H : Fimpl_ReadNums k a0 = some r) : Gives Try.prog 136 [V.one (cS a0)] [] [V.one (Cell.ow 1 (List.map eI r.1)), V.one (cL r.2)] [] := by
  refine Gives.intro Try.func136 rfl rfl rfl rfl ?_
  intro F hF hm
  unfold Fimpl_ReadNums at H
  obtain ⟨K, hK⟩ : ∃ K, k ≤ K := ⟨k, Nat.le_refl k⟩
  refine WpC.seq ?_
  refine WpC.regionL ?_
  refine L.assign hF rfl rfl rfl ?_
  refine L.assign hF rfl rfl rfl ?_
  refine L.nil ?_
  refine WpC.seq ?_
  refine WpC.regionL ?_
  refine L.move hF rfl rfl rfl ?_
  obtain ⟨r1, hr1, H⟩ := bindS H
  refine L.call [false] [] [] 1 hF rfl rfl rfl ent144 rfl rfl rfl rfl rfl (Fimpl_Parts_gives k  a0 r1 hr1) rfl ?_
  refine L.move hF rfl rfl rfl ?_
  refine L.extract hF rfl rfl rfl rfl ?_
  refine L.extract hF rfl rfl rfl rfl ?_
  refine L.assign hF rfl rfl rfl ?_
  refine L.assign hF rfl rfl rfl ?_
  refine L.nil ?_
  refine WpC.seq ?_
  refine WpC.seq ?_
  refine WpC.regionL ?_
  refine L.move hF rfl rfl rfl ?_
  refine L.not hF rfl rfl rfl ?_
  refine L.nil ?_
  refine WpC.cond rfl (fun hc => ?_) (fun hc => ?_)
  · replace H := condT hc H
    refine WpC.seq ?_
    refine WpC.regionL ?_
    refine L.assign hF rfl rfl rfl ?_
    refine L.assign hF rfl rfl rfl ?_
    refine L.nil ?_
    refine WpC.le (Le.own 2 0 3 1 rfl rfl rfl) ?_
    refine WpC.ret ?_
    cases H
    exact Leaves.ret rfl rfl rfl ⟨rfl, rfl⟩
  · replace H := condF hc H
    refine WpC.skip ?_
    refine WpC.seq ?_
    refine WpC.regionL ?_
    refine L.buildSlice (e := eI) 3 ([] : List Int) Try.underlying24 info3 rfl rfl rfl hF rfl rfl rfl rfl rfl rfl rfl rfl ?_
    refine L.assign hF rfl rfl rfl ?_
    refine L.nil ?_
    refine WpC.seq ?_
    refine WpC.seq ?_
    refine WpC.regionL ?_
    refine L.move hF rfl rfl rfl ?_
    refine L.lenR (xs := r1.1) (e := eS) Try.underlying120 hF rfl rfl rfl rfl ?_
    refine L.move hF rfl rfl rfl ?_
    refine L.nil ?_
    refine WpC.block ?_
    refine WpC.loopL (P := Try.prog) (fun n σ => ∃ v48 : List Int, ∃ v49 : List (List UInt8), ∃ v50 : Int, ∃ v51 : Int, n ≤ K ∧ Fimpl_ReadNums.l2 n v48 v49 v50 v51 = some r ∧ σ = mkSt [(6, one (Cell.own 0)), (19, one (Cell.own 1)), (20, one (cI v50)), (21, one (cI v51))] [(0, ⟨1, List.map eI v48⟩), (1, ⟨1, List.map eS v49⟩)] [] 2) k ⟨_, ⟨([] : List Int), r1.1, (r1.1.length : Int), (0 : Int), by omega, H, rfl⟩, Le.mk [(0, 3), (1, 1)] hm rfl ⟨⟨_, rfl, rfl⟩, ⟨_, rfl, rfl⟩, ⟨_, rfl, rfl⟩, ⟨_, rfl, rfl⟩, trivial⟩ ⟨⟨_, rfl, rfl⟩, ⟨_, rfl, rfl⟩, trivial⟩ trivial⟩ ?_
    clear H
    rintro k2 _ ⟨v48, v49, v50, v51, hk2, H, rfl⟩
    cases k2 with
    | zero => cases H
    | succ k2 =>
      rw [Fimpl_ReadNums.l2] at H
      refine WpC.seq ?_
      refine WpC.regionL ?_
      refine L.bin hF rfl rfl rfl rfl rfl rfl ?_
      refine L.nil ?_
      refine WpC.seq ?_
      refine WpC.cond rfl (fun hc => ?_) (fun hc => ?_)
      · replace H := condT hc H
        refine WpC.skip ?_
        refine WpC.seq ?_
        refine WpC.block ?_
        refine WpC.seq ?_
        refine WpC.regionL ?_
        obtain ⟨b55, hb55, H⟩ := bindS H
        refine L.idxR (xs := v49) (e := eS) Try.underlying120 info9 hF rfl rfl rfl rfl rfl hb55 rfl rfl ?_
        refine L.loadEp (xs := v49) (e := eS) shape9 hF rfl rfl rfl rfl (at?_get hb55).2 rfl rfl ?_
        refine L.assign hF rfl rfl rfl ?_
        refine L.nil ?_
        refine WpC.seq ?_
        refine WpC.regionL ?_
        refine L.move hF rfl rfl rfl ?_
        obtain ⟨r56, hr56, H⟩ := bindS H
        refine L.call [false] [] [] 2 hF rfl rfl rfl ent226 rfl rfl rfl rfl rfl (Fimpl_ReadNum_gives k2  b55 r56 hr56) rfl ?_
        refine L.move hF rfl rfl rfl ?_
        refine L.extract hF rfl rfl rfl rfl ?_
        refine L.extract hF rfl rfl rfl rfl ?_
        refine L.assign hF rfl rfl rfl ?_
        refine L.assign hF rfl rfl rfl ?_
        refine L.nil ?_
        refine WpC.seq ?_
        refine WpC.seq ?_
        refine WpC.regionL ?_
        refine L.move hF rfl rfl rfl ?_
        refine L.not hF rfl rfl rfl ?_
        refine L.nil ?_
        refine WpC.cond rfl (fun hc => ?_) (fun hc => ?_)
        · replace H := condT hc H
          refine WpC.seq ?_
          refine WpC.regionL ?_
          refine L.assign hF rfl rfl rfl ?_
          refine L.assign hF rfl rfl rfl ?_
          refine L.nil ?_
          refine WpC.le (Le.own 2 0 4 1 rfl rfl rfl) ?_
          refine WpC.ret ?_
          cases H
          exact Leaves.ret rfl rfl rfl ⟨rfl, rfl⟩
        · replace H := condF hc H
          refine WpC.skip ?_
          refine WpC.regionL ?_
          refine L.move hF rfl rfl rfl ?_
          refine L.move hF rfl rfl rfl ?_
          refine L.buildSlice (e := eI) 4 ([r56.1] : List Int) Try.underlying24 info3 rfl rfl rfl hF rfl rfl rfl rfl rfl rfl rfl rfl ?_
          obtain ⟨h57, H⟩ := condG H
          refine L.append (xs := v48) (ys := ([r56.1] : List Int)) (e := eI) 5 Try.underlying24 info3 rfl rfl hF rfl rfl rfl rfl rfl rfl rfl rfl (fun _ => rfl) (fun _ _ h1 h2 => by cases h1; cases h2; rfl) ⟨_, Try.underlying24⟩ (of_decide_eq_true h57) rfl rfl ?_
          refine L.assign hF rfl rfl rfl ?_
          refine L.nil ?_
          refine WpC.regionL ?_
          refine L.bin hF rfl rfl rfl rfl rfl rfl ?_
          refine L.move hF rfl rfl rfl ?_
          refine L.nil ?_
          exact ⟨k2, _, by omega, ⟨(v48 ++ ([r56.1] : List Int)), v49, v50, (IntKind.i64.wrap (v51 + (1 : Int))), by omega, H, rfl⟩, Le.mk [(0, 5), (1, 1)] hm rfl ⟨⟨_, rfl, rfl⟩, ⟨_, rfl, rfl⟩, ⟨_, rfl, rfl⟩, ⟨_, rfl, rfl⟩, trivial⟩ ⟨⟨_, rfl, rfl⟩, ⟨_, rfl, rfl⟩, trivial⟩ trivial⟩
      · replace H := condF hc H
        refine WpC.exit ?_
        refine WpC.seq ?_
        refine WpC.regionL ?_
        refine L.move hF rfl rfl rfl ?_
        refine L.assign hF rfl rfl rfl ?_
        refine L.assign hF rfl rfl rfl ?_
        refine L.nil ?_
        refine WpC.ret ?_
        cases H
        exact Leaves.ret rfl rfl rfl ⟨rfl, rfl⟩
/-! ### Fimpl_sealed -/
def Fimpl_sealed (k : Nat) (a0 : List UInt8) : Option (Int × List UInt8 × Bool) := (Fimpl_isOf k a0 (115 : UInt8)).bind fun r2 => cond (!r2) (some ((0 : Int), ([] : List UInt8), false)) ((Fimpl_varAt k a0 (1 : Int)).bind fun r3 => (cut? a0 r3.2 (a0.length : Int)).bind fun b4 => some (r3.1, b4, true))
theorem ent278 : Enters Try.prog 278 := ⟨Try.f278, Try.func278, rfl, by decide⟩
set_option maxHeartbeats 8000000 in
set_option maxRecDepth 100000 in
theorem Fimpl_sealed_gives (k : Nat) (a0 : List UInt8) (r : Int × List UInt8 × Bool) (H : Fimpl_sealed k a0 = some r) : Gives Try.prog 278 [V.one (cS a0)] [] [V.one (cI r.1), V.one (cS r.2.1), V.one (cL r.2.2)] [] := by
  refine Gives.intro Try.func278 rfl rfl rfl rfl ?_
  intro F hF hm
  unfold Fimpl_sealed at H
  obtain ⟨K, hK⟩ : ∃ K, k ≤ K := ⟨k, Nat.le_refl k⟩
  refine WpC.seq ?_
  refine WpC.regionL ?_
  refine L.assign hF rfl rfl rfl ?_
  refine L.assign hF rfl rfl rfl ?_
  refine L.assign hF rfl rfl rfl ?_
  refine L.nil ?_
  refine WpC.seq ?_
  refine WpC.seq ?_
  refine WpC.regionL ?_
  refine L.move hF rfl rfl rfl ?_
  obtain ⟨r2, hr2, H⟩ := bindS H
  refine L.call [false, false] [] [] 1 hF rfl rfl rfl ent235 rfl rfl rfl rfl rfl (Fimpl_isOf_gives k  a0 (115 : UInt8) r2 hr2) rfl ?_
  refine L.not hF rfl rfl rfl ?_
  refine L.nil ?_
  refine WpC.cond rfl (fun hc => ?_) (fun hc => ?_)
  · replace H := condT hc H
    refine WpC.seq ?_
    refine WpC.regionL ?_
    refine L.assign hF rfl rfl rfl ?_
    refine L.assign hF rfl rfl rfl ?_
    refine L.assign hF rfl rfl rfl ?_
    refine L.nil ?_
    refine WpC.ret ?_
    cases H
    exact Leaves.ret rfl rfl rfl ⟨rfl, rfl⟩
  · replace H := condF hc H
    refine WpC.skip ?_
    refine WpC.seq ?_
    refine WpC.regionL ?_
    refine L.move hF rfl rfl rfl ?_
    obtain ⟨r3, hr3, H⟩ := bindS H
    refine L.call [false, false] [] [] 2 hF rfl rfl rfl ent218 rfl rfl rfl rfl rfl (Fimpl_varAt_gives k  a0 (1 : Int) r3 hr3) rfl ?_
    refine L.move hF rfl rfl rfl ?_
    refine L.extract hF rfl rfl rfl rfl ?_
    refine L.extract hF rfl rfl rfl rfl ?_
    refine L.assign hF rfl rfl rfl ?_
    refine L.assign hF rfl rfl rfl ?_
    refine L.nil ?_
    refine WpC.seq ?_
    refine S.begin mixed (by kernel_rfl) ?_
    refine S.st 0 rfl rfl ((Ca.move).quiet) (fun Q0 k0 => L.move hF rfl rfl rfl (L.nil k0)) ?_
    refine S.st 1 rfl rfl ((Ca.move).quiet) (fun Q0 k0 => L.move hF rfl rfl rfl (L.nil k0)) ?_
    refine S.st 2 rfl rfl ((Ca.move).quiet) (fun Q0 k0 => L.move hF rfl rfl rfl (L.nil k0)) ?_
    obtain ⟨b4, hb4, H⟩ := bindS H
    refine S.st 3 rfl rfl ((Ca.slice).quiet) (fun Q0 k0 => L.cutS Try.underlying9 hF rfl rfl rfl rfl rfl hb4 (L.nil k0)) ?_
    refine S.st 4 rfl rfl ((Ca.assign).quiet) (fun Q0 k0 => L.assign hF rfl rfl rfl (L.nil k0)) ?_
    refine S.st 5 rfl rfl ((Ca.assign).quiet) (fun Q0 k0 => L.assign hF rfl rfl rfl (L.nil k0)) ?_
    refine S.st 6 rfl rfl ((Ca.assign).quiet) (fun Q0 k0 => L.assign hF rfl rfl rfl (L.nil k0)) ?_
    refine S.nil ?_
    refine WpC.ret ?_
    cases H
    exact Leaves.ret rfl rfl rfl ⟨rfl, rfl⟩
/-! ### Fimpl_Open -/
def Fimpl_Open (k : Nat) (a0 : List UInt8) (a1 : Int) : Option (List UInt8 × Bool) := (Fimpl_sealed k a0).bind fun r1 => cond (!r1.2.2) (some (([] : List UInt8), false)) (cond (r1.1 != a1) (some (([] : List UInt8), false)) (some (r1.2.1, true)))
theorem ent237 : Enters Try.prog 237 := ⟨Try.f237, Try.func237, rfl, by decide⟩
set_option maxHeartbeats 8000000 in
set_option maxRecDepth 100000 in
theorem Fimpl_Open_gives (k : Nat) (a0 : List UInt8) (a1 : Int) (r : List UInt8 × Bool) (H : Fimpl_Open k a0 a1 = some r) : Gives Try.prog 237 [V.one (cS a0), V.one (cI a1)] [] [V.one (cS r.1), V.one (cL r.2)] [] := by
  refine Gives.intro Try.func237 rfl rfl rfl rfl ?_
  intro F hF hm
  unfold Fimpl_Open at H
  obtain ⟨K, hK⟩ : ∃ K, k ≤ K := ⟨k, Nat.le_refl k⟩
  refine WpC.seq ?_
  refine WpC.regionL ?_
  refine L.assign hF rfl rfl rfl ?_
  refine L.assign hF rfl rfl rfl ?_
  refine L.nil ?_
  refine WpC.seq ?_
  refine WpC.regionL ?_
  refine L.move hF rfl rfl rfl ?_
  obtain ⟨r1, hr1, H⟩ := bindS H
  refine L.call [false] [] [] 2 hF rfl rfl rfl ent278 rfl rfl rfl rfl rfl (Fimpl_sealed_gives k  a0 r1 hr1) rfl ?_
  refine L.move hF rfl rfl rfl ?_
  refine L.extract hF rfl rfl rfl rfl ?_
  refine L.extract hF rfl rfl rfl rfl ?_
  refine L.extract hF rfl rfl rfl rfl ?_
  refine L.assign hF rfl rfl rfl ?_
  refine L.assign hF rfl rfl rfl ?_
  refine L.assign hF rfl rfl rfl ?_
  refine L.nil ?_
  refine WpC.seq ?_
  refine WpC.seq ?_
  refine WpC.regionL ?_
  refine L.move hF rfl rfl rfl ?_
  refine L.not hF rfl rfl rfl ?_
  refine L.move hF rfl rfl rfl ?_
  refine L.split (fun hc => ?_) (fun hc => ?_)
  · replace H := condT hc H
    refine L.off hF rfl rfl ?_
    refine L.off hF rfl rfl ?_
    refine L.off hF rfl rfl ?_
    refine L.pick hF rfl rfl rfl rfl ?_
    refine L.nil ?_
    refine WpC.cond rfl (fun _ => ?_) (fun hc => by cases hc)
    refine WpC.seq ?_
    refine WpC.regionL ?_
    refine L.assign hF rfl rfl rfl ?_
    refine L.assign hF rfl rfl rfl ?_
    refine L.nil ?_
    refine WpC.ret ?_
    cases H
    exact Leaves.ret rfl rfl rfl ⟨rfl, rfl⟩
  · replace H := condF hc H
    refine L.move hF rfl rfl rfl ?_
    refine L.move hF rfl rfl rfl ?_
    refine L.bin hF rfl rfl rfl rfl rfl rfl ?_
    refine L.pick hF rfl rfl rfl rfl ?_
    refine L.nil ?_
    refine WpC.cond rfl (fun hc => ?_) (fun hc => ?_)
    · replace H := condT hc H
      refine WpC.seq ?_
      refine WpC.regionL ?_
      refine L.assign hF rfl rfl rfl ?_
      refine L.assign hF rfl rfl rfl ?_
      refine L.nil ?_
      refine WpC.ret ?_
      cases H
      exact Leaves.ret rfl rfl rfl ⟨rfl, rfl⟩
    · replace H := condF hc H
      refine WpC.skip ?_
      refine WpC.seq ?_
      refine WpC.regionL ?_
      refine L.move hF rfl rfl rfl ?_
      refine L.assign hF rfl rfl rfl ?_
      refine L.assign hF rfl rfl rfl ?_
      refine L.nil ?_
      refine WpC.ret ?_
      cases H
      exact Leaves.ret rfl rfl rfl ⟨rfl, rfl⟩
/-! ### Fimpl_ReadKey -/
def Fimpl_ReadKey (k : Nat) (a0 : List UInt8) : Option (Int × Bool) := (Fimpl_isOf k a0 (107 : UInt8)).bind fun r2 => cond (!r2) (some ((0 : Int), false)) ((Fimpl_varAt k a0 (1 : Int)).bind fun r3 => some (r3.1, true))
theorem ent238 : Enters Try.prog 238 := ⟨Try.f238, Try.func238, rfl, by decide⟩
set_option maxHeartbeats 8000000 in
set_option maxRecDepth 100000 in
theorem Fimpl_ReadKey_gives (k : Nat) (a0 : List UInt8) (r : Int × Bool) (H : Fimpl_ReadKey k a0 = some r) : Gives Try.prog 238 [V.one (cS a0)] [] [V.one (cI r.1), V.one (cL r.2)] [] := by
  refine Gives.intro Try.func238 rfl rfl rfl rfl ?_
  intro F hF hm
  unfold Fimpl_ReadKey at H
  obtain ⟨K, hK⟩ : ∃ K, k ≤ K := ⟨k, Nat.le_refl k⟩
  refine WpC.seq ?_
  refine WpC.regionL ?_
  refine L.assign hF rfl rfl rfl ?_
  refine L.assign hF rfl rfl rfl ?_
  refine L.nil ?_
  refine WpC.seq ?_
  refine WpC.seq ?_
  refine WpC.regionL ?_
  refine L.move hF rfl rfl rfl ?_
  obtain ⟨r2, hr2, H⟩ := bindS H
  refine L.call [false, false] [] [] 1 hF rfl rfl rfl ent235 rfl rfl rfl rfl rfl (Fimpl_isOf_gives k  a0 (107 : UInt8) r2 hr2) rfl ?_
  refine L.not hF rfl rfl rfl ?_
  refine L.nil ?_
  refine WpC.cond rfl (fun hc => ?_) (fun hc => ?_)
  · replace H := condT hc H
    refine WpC.seq ?_
    refine WpC.regionL ?_
    refine L.assign hF rfl rfl rfl ?_
    refine L.assign hF rfl rfl rfl ?_
    refine L.nil ?_
    refine WpC.ret ?_
    cases H
    exact Leaves.ret rfl rfl rfl ⟨rfl, rfl⟩
  · replace H := condF hc H
    refine WpC.skip ?_
    refine WpC.seq ?_
    refine WpC.regionL ?_
    refine L.move hF rfl rfl rfl ?_
    obtain ⟨r3, hr3, H⟩ := bindS H
    refine L.call [false, false] [] [] 2 hF rfl rfl rfl ent218 rfl rfl rfl rfl rfl (Fimpl_varAt_gives k  a0 (1 : Int) r3 hr3) rfl ?_
    refine L.move hF rfl rfl rfl ?_
    refine L.extract hF rfl rfl rfl rfl ?_
    refine L.extract hF rfl rfl rfl rfl ?_
    refine L.assign hF rfl rfl rfl ?_
    refine L.assign hF rfl rfl rfl ?_
    refine L.nil ?_
    refine WpC.seq ?_
    refine WpC.regionL ?_
    refine L.move hF rfl rfl rfl ?_
    refine L.assign hF rfl rfl rfl ?_
    refine L.assign hF rfl rfl rfl ?_
    refine L.nil ?_
    refine WpC.ret ?_
    cases H
    exact Leaves.ret rfl rfl rfl ⟨rfl, rfl⟩
/-! ### Fimpl_isTime -/
def Fimpl_isTime (k : Nat) (a0 : Int) : Option Bool := (Fimpl_within k a0 (0 : Int) (100000 : Int)).bind fun r1 => some r1
theorem ent250 : Enters Try.prog 250 := ⟨Try.f250, Try.func250, rfl, by decide⟩
set_option maxHeartbeats 8000000 in
set_option maxRecDepth 100000 in
theorem Fimpl_isTime_gives (k : Nat) (a0 : Int) (r : Bool) (H : Fimpl_isTime k a0 = some r) : Gives Try.prog 250 [V.one (cI a0)] [] [V.one (cL r)] [] := by
  refine Gives.intro Try.func250 rfl rfl rfl rfl ?_
  intro F hF hm
  unfold Fimpl_isTime at H
  obtain ⟨K, hK⟩ : ∃ K, k ≤ K := ⟨k, Nat.le_refl k⟩
  refine WpC.seq ?_
  refine WpC.regionL ?_
  refine L.assign hF rfl rfl rfl ?_
  refine L.nil ?_
  refine WpC.seq ?_
  refine WpC.regionL ?_
  refine L.move hF rfl rfl rfl ?_
  obtain ⟨r1, hr1, H⟩ := bindS H
  refine L.call [false, false, false] [] [] 1 hF rfl rfl rfl ent113 rfl rfl rfl rfl rfl (Fimpl_within_gives k  a0 (0 : Int) (100000 : Int) r1 hr1) rfl ?_
  refine L.assign hF rfl rfl rfl ?_
  refine L.nil ?_
  refine WpC.ret ?_
  cases H
  exact Leaves.ret rfl rfl rfl ⟨rfl, rfl⟩
/-! ### Fimpl_RestOk -/
def Fimpl_RestOk (k : Nat) (a0 : Timpl_Rest) : Option Bool := (Fimpl_within k a0.Servers (0 : Int) (7 : Int)).bind fun r4 => cond r4 ((Fimpl_within k a0.Ops (0 : Int) (255 : Int)).bind fun r5 => cond r5 ((Fimpl_isTime k a0.End).bind fun r6 => some r6) (some false)) (some false)
theorem ent158 : Enters Try.prog 158 := ⟨Try.f158, Try.func158, rfl, by decide⟩
set_option maxHeartbeats 8000000 in
set_option maxRecDepth 100000 in
theorem Fimpl_RestOk_gives (k : Nat) (a0 : Timpl_Rest) (r : Bool) (H : Fimpl_RestOk k a0 = some r) : Gives Try.prog 158 [V.agg [cI a0.Servers, cI a0.Ops, cI a0.End]] [] [V.one (cL r)] [] := by
  refine Gives.intro Try.func158 rfl rfl rfl rfl ?_
  intro F hF hm
  unfold Fimpl_RestOk at H
  obtain ⟨K, hK⟩ : ∃ K, k ≤ K := ⟨k, Nat.le_refl k⟩
  refine WpC.seq ?_
  refine WpC.regionL ?_
  refine L.box 3 hF rfl rfl rfl rfl ?_
  refine L.assign hF rfl rfl rfl ?_
  refine L.nil ?_
  refine WpC.seq ?_
  refine WpC.regionL ?_
  refine L.fieldAddr Try.underlying74 rfl info3 rfl hF rfl rfl rfl rfl rfl ?_
  refine L.loadPtr shape3 hF rfl rfl rfl rfl rfl rfl ?_
  obtain ⟨r4, hr4, H⟩ := bindS H
  refine L.call [false, false, false] [] [] 4 hF rfl rfl rfl ent113 rfl rfl rfl rfl rfl (Fimpl_within_gives k  a0.Servers (0 : Int) (7 : Int) r4 hr4) rfl ?_
  refine L.move hF rfl rfl rfl ?_
  refine L.split (fun hc => ?_) (fun hc => ?_)
  · replace H := condT hc H
    refine L.fieldAddr Try.underlying74 rfl info3 rfl hF rfl rfl rfl rfl rfl ?_
    refine L.loadPtr shape3 hF rfl rfl rfl rfl rfl rfl ?_
    obtain ⟨r5, hr5, H⟩ := bindS H
    refine L.call [false, false, false] [] [] 5 hF rfl rfl rfl ent113 rfl rfl rfl rfl rfl (Fimpl_within_gives k  a0.Ops (0 : Int) (255 : Int) r5 hr5) rfl ?_
    refine L.pick hF rfl rfl rfl rfl ?_
    refine L.move hF rfl rfl rfl ?_
    refine L.split (fun hc => ?_) (fun hc => ?_)
    · replace H := condT hc H
      refine L.fieldAddr Try.underlying74 rfl info3 rfl hF rfl rfl rfl rfl rfl ?_
      refine L.loadPtr shape3 hF rfl rfl rfl rfl rfl rfl ?_
      obtain ⟨r6, hr6, H⟩ := bindS H
      refine L.call [false] [] [] 6 hF rfl rfl rfl ent250 rfl rfl rfl rfl rfl (Fimpl_isTime_gives k  a0.End r6 hr6) rfl ?_
      refine L.pick hF rfl rfl rfl rfl ?_
      refine L.assign hF rfl rfl rfl ?_
      refine L.nil ?_
      refine WpC.ret ?_
      cases H
      exact Leaves.ret rfl rfl rfl ⟨rfl, rfl⟩
    · replace H := condF hc H
      refine L.off hF rfl rfl ?_
      refine L.off hF rfl rfl ?_
      refine L.off hF rfl rfl ?_
      refine L.pick hF rfl rfl rfl rfl ?_
      refine L.assign hF rfl rfl rfl ?_
      refine L.nil ?_
      refine WpC.ret ?_
      cases H
      exact Leaves.ret rfl rfl rfl ⟨rfl, rfl⟩
  · replace H := condF hc H
    refine L.off hF rfl rfl ?_
    refine L.off hF rfl rfl ?_
    refine L.off hF rfl rfl ?_
    refine L.pick hF rfl rfl rfl rfl ?_
    refine L.move hF rfl rfl rfl ?_
    refine L.off hF rfl rfl ?_
    refine L.off hF rfl rfl ?_
    refine L.off hF rfl rfl ?_
    refine L.pick hF rfl rfl rfl rfl ?_
    refine L.assign hF rfl rfl rfl ?_
    refine L.nil ?_
    refine WpC.ret ?_
    cases H
    exact Leaves.ret rfl rfl rfl ⟨rfl, rfl⟩
/-! ### Fimpl_ReadRest -/
def Fimpl_ReadRest.j2 (k : Nat) (v4 : List Int) (v5 : Bool) : Option (Timpl_Rest × Bool) := cond v5 (some ((⟨(0 : Int), (0 : Int), (0 : Int)⟩ : Timpl_Rest), false)) ((at? v4 (0 : Int)).bind fun b6 => (at? v4 (1 : Int)).bind fun b7 => (at? v4 (2 : Int)).bind fun b8 => (Fimpl_RestOk k (⟨b6, b7, b8⟩ : Timpl_Rest)).bind fun r10 => cond (!r10) (some ((⟨(0 : Int), (0 : Int), (0 : Int)⟩ : Timpl_Rest), false)) (some ((⟨b6, b7, b8⟩ : Timpl_Rest), true)))
def Fimpl_ReadRest (k : Nat) (a0 : List UInt8) : Option (Timpl_Rest × Bool) := (Fimpl_ReadNums k a0).bind fun r1 => cond (!r1.2) (Fimpl_ReadRest.j2 k r1.1 true) (Fimpl_ReadRest.j2 k r1.1 ((r1.1.length : Int) != (3 : Int)))
theorem ent239 : Enters Try.prog 239 := ⟨Try.f239, Try.func239, rfl, by decide⟩
set_option maxHeartbeats 8000000 in
set_option maxRecDepth 100000 in
theorem Fimpl_ReadRest_gives (k : Nat) (a0 : List UInt8) (r : Timpl_Rest × Bool) (H : Fimpl_ReadRest k a0 = some r) : Gives Try.prog 239 [V.one (cS a0)] [] [V.agg [cI r.1.Servers, cI r.1.Ops, cI r.1.End], V.one (cL r.2)] [] := by
  refine Gives.intro Try.func239 rfl rfl rfl rfl ?_
  intro F hF hm
  unfold Fimpl_ReadRest at H
  obtain ⟨K, hK⟩ : ∃ K, k ≤ K := ⟨k, Nat.le_refl k⟩
  refine WpC.seq ?_
  refine WpC.regionL ?_
  refine L.alloc 1 info74 rfl hF rfl rfl rfl rfl ?_
  refine L.assign hF rfl rfl rfl ?_
  refine L.nil ?_
  refine WpC.seq ?_
  refine WpC.regionL ?_
  refine L.move hF rfl rfl rfl ?_
  obtain ⟨r1, hr1, H⟩ := bindS H
  refine L.call [false] [] [] 2 hF rfl rfl rfl ent136 rfl rfl rfl rfl rfl (Fimpl_ReadNums_gives k  a0 r1 hr1) rfl ?_
  refine L.move hF rfl rfl rfl ?_
  refine L.extract hF rfl rfl rfl rfl ?_
  refine L.extract hF rfl rfl rfl rfl ?_
  refine L.assign hF rfl rfl rfl ?_
  refine L.assign hF rfl rfl rfl ?_
  refine L.nil ?_
  refine WpC.seq ?_
  refine WpC.join (fun σ => ∃ kj2 : Nat, ∃ v4 : List Int, ∃ v5 : Bool, kj2 ≤ K ∧ Fimpl_ReadRest.j2 kj2 v4 v5 = some r ∧ σ = mkSt [(2, one (Cell.ptr 0 0)), (4, one (Cell.own 1)), (18, one (cL v5))] [(1, ⟨1, List.map eI v4⟩)] [(0, [cI (0 : Int), cI (0 : Int), cI (0 : Int)])] 2) ?_ ?_
  · rintro _ ⟨kj2, v4, v5, hkj2, H, rfl⟩
    unfold Fimpl_ReadRest.j2 at H
    refine WpC.cond rfl (fun hc => ?_) (fun hc => ?_)
    · replace H := condT hc H
      refine WpC.seq ?_
      refine WpC.regionL ?_
      refine L.buildF built74 hF rfl rfl rfl rfl ?_
      refine L.storePtr shape74 hF rfl rfl rfl rfl rfl rfl rfl ?_
      refine L.assign hF rfl rfl rfl ?_
      refine L.nil ?_
      refine WpC.ret ?_
      cases H
      exact Leaves.ret rfl rfl rfl ⟨rfl, rfl⟩
    · replace H := condF hc H
      refine WpC.skip ?_
      refine WpC.seq ?_
      obtain ⟨b6, hb6, H⟩ := bindS H
      obtain ⟨b7, hb7, H⟩ := bindS H
      obtain ⟨b8, hb8, H⟩ := bindS H
      refine A.begin mixed rfl rfl ?_
      intro W hI hO
      have n4095 : W 0 #[true, true, true, true, true, true, true, true, true, true, true, true] (mkSt [(2, one (Cell.ptr 0 0)), (6, one (Cell.ptr 1 0))] [] [(0, [cI (0 : Int), cI (0 : Int), cI (0 : Int)]), (1, [cI b6, cI b7, cI b8])] 2) := by
        refine hI _ _ _ (A.done (by kernel_rfl) ?_)
        refine WpC.seq ?_
        refine WpC.seq ?_
        refine WpC.regionL ?_
        refine L.loadPtr shape74 hF rfl rfl rfl rfl rfl rfl ?_
        obtain ⟨r10, hr10, H⟩ := bindS H
        refine L.call [false] [] [] 2 hF rfl rfl rfl ent158 rfl rfl rfl rfl rfl (Fimpl_RestOk_gives kj2  (⟨b6, b7, b8⟩ : Timpl_Rest) r10 hr10) rfl ?_
        refine L.not hF rfl rfl rfl ?_
        refine L.nil ?_
        refine WpC.cond rfl (fun hc => ?_) (fun hc => ?_)
        · replace H := condT hc H
          refine WpC.seq ?_
          refine WpC.regionL ?_
          refine L.buildF built74 hF rfl rfl rfl rfl ?_
          refine L.storePtr shape74 hF rfl rfl rfl rfl rfl rfl rfl ?_
          refine L.assign hF rfl rfl rfl ?_
          refine L.nil ?_
          refine WpC.ret ?_
          cases H
          exact Leaves.ret rfl rfl rfl ⟨rfl, rfl⟩
        · replace H := condF hc H
          refine WpC.skip ?_
          refine WpC.seq ?_
          refine WpC.regionL ?_
          refine L.loadPtr shape74 hF rfl rfl rfl rfl rfl rfl ?_
          refine L.storePtr shape74 hF rfl rfl rfl rfl rfl rfl rfl ?_
          refine L.assign hF rfl rfl rfl ?_
          refine L.nil ?_
          refine WpC.ret ?_
          cases H
          exact Leaves.ret rfl rfl rfl ⟨rfl, rfl⟩
      have n2047 : W 1 #[true, true, true, true, true, true, true, true, true, true, true, false] (mkSt [(2, one (Cell.ptr 0 0)), (6, one (Cell.ptr 1 0)), (29, agg [cI b6, cI b7, cI b8])] [] [(0, [cI (0 : Int), cI (0 : Int), cI (0 : Int)]), (1, [cI (0 : Int), cI (0 : Int), cI (0 : Int)])] 2) := by
        refine hI _ _ _ ?_
        refine A.all [11] (by kernel_rfl) rfl ⟨⟨_, rfl, ?_⟩, trivial⟩
        · refine L.storePtr shape74 hF rfl rfl rfl rfl rfl rfl rfl ?_
          refine L.nil ?_
          exact A.on (hO _ _ _ n4095) (Le.mk [(0, 0), (1, 1)] hm rfl ⟨⟨_, rfl, rfl⟩, ⟨_, rfl, rfl⟩, trivial⟩ trivial ⟨⟨_, _, rfl, rfl, rfl⟩, ⟨_, _, rfl, rfl, rfl⟩, trivial⟩)
      have n1023 : W 2 #[true, true, true, true, true, true, true, true, true, true, false, false] (mkSt [(2, one (Cell.ptr 0 0)), (29, agg [cI b6, cI b7, cI b8])] [] [(0, [cI (0 : Int), cI (0 : Int), cI (0 : Int)])] 1) := by
        refine hI _ _ _ ?_
        refine A.all [10] (by kernel_rfl) rfl ⟨⟨_, rfl, ?_⟩, trivial⟩
        · refine L.alloc 1 info74 rfl hF rfl rfl rfl rfl ?_
          refine L.nil ?_
          exact A.on (hO _ _ _ n2047) (Le.mk [(0, 0), (1, 1)] hm rfl ⟨⟨_, rfl, rfl⟩, ⟨_, rfl, rfl⟩, ⟨_, rfl, rfl⟩, trivial⟩ trivial ⟨⟨_, _, rfl, rfl, rfl⟩, ⟨_, _, rfl, rfl, rfl⟩, trivial⟩)
      have n1535 : W 2 #[true, true, true, true, true, true, true, true, true, false, true, false] (mkSt [(2, one (Cell.ptr 0 0)), (6, one (Cell.ptr 1 0)), (22, one (cI b6)), (25, one (cI b7)), (28, one (cI b8))] [] [(0, [cI (0 : Int), cI (0 : Int), cI (0 : Int)]), (1, [cI (0 : Int), cI (0 : Int), cI (0 : Int)])] 2) := by
        refine hI _ _ _ ?_
        refine A.take 9 rfl (by kernel_rfl) (by kernel_rfl) (by kernel_rfl) rfl (Ca.build rfl (by rw [built74]; rfl)) (fun Q0 k0 => L.buildF built74 hF rfl rfl rfl rfl (L.nil k0)) ?_
        exact A.on (hO _ _ _ n2047) (Le.mk [(0, 0), (1, 1)] hm rfl ⟨⟨_, rfl, rfl⟩, ⟨_, rfl, rfl⟩, ⟨_, rfl, rfl⟩, trivial⟩ trivial ⟨⟨_, _, rfl, rfl, rfl⟩, ⟨_, _, rfl, rfl, rfl⟩, trivial⟩)
      have n511 : W 3 #[true, true, true, true, true, true, true, true, true, false, false, false] (mkSt [(2, one (Cell.ptr 0 0)), (22, one (cI b6)), (25, one (cI b7)), (28, one (cI b8))] [] [(0, [cI (0 : Int), cI (0 : Int), cI (0 : Int)])] 1) := by
        refine hI _ _ _ ?_
        refine A.take 9 rfl (by kernel_rfl) (by kernel_rfl) (by kernel_rfl) rfl (Ca.build rfl (by rw [built74]; rfl)) (fun Q0 k0 => L.buildF built74 hF rfl rfl rfl rfl (L.nil k0)) ?_
        exact A.on (hO _ _ _ n1023) (Le.mk [(0, 0)] hm rfl ⟨⟨_, rfl, rfl⟩, ⟨_, rfl, rfl⟩, trivial⟩ trivial ⟨⟨_, _, rfl, rfl, rfl⟩, trivial⟩)
      have n1531 : W 3 #[true, true, false, true, true, true, true, true, true, false, true, false] (mkSt [(2, one (Cell.ptr 0 0)), (6, one (Cell.ptr 1 0)), (21, one (Cell.ep 2 ((0 : Int).toNat) 0)), (25, one (cI b7)), (28, one (cI b8))] [(2, ⟨1, List.map eI v4⟩)] [(0, [cI (0 : Int), cI (0 : Int), cI (0 : Int)]), (1, [cI (0 : Int), cI (0 : Int), cI (0 : Int)])] 3) := by
        refine hI _ _ _ ?_
        refine A.all [2] (by kernel_rfl) rfl ⟨⟨_, rfl, ?_⟩, trivial⟩
        · refine L.loadEp (xs := v4) (e := eI) shape3 hF rfl rfl rfl rfl (at?_get hb6).2 rfl rfl ?_
          refine L.nil ?_
          exact A.on (hO _ _ _ n1535) (Le.mk [(0, 0), (1, 1)] hm rfl ⟨⟨_, rfl, rfl⟩, ⟨_, rfl, rfl⟩, ⟨_, rfl, rfl⟩, ⟨_, rfl, rfl⟩, ⟨_, rfl, rfl⟩, trivial⟩ trivial ⟨⟨_, _, rfl, rfl, rfl⟩, ⟨_, _, rfl, rfl, rfl⟩, trivial⟩)
      have n1503 : W 3 #[true, true, true, true, true, false, true, true, true, false, true, false] (mkSt [(2, one (Cell.ptr 0 0)), (6, one (Cell.ptr 1 0)), (22, one (cI b6)), (24, one (Cell.ep 2 ((1 : Int).toNat) 0)), (28, one (cI b8))] [(2, ⟨1, List.map eI v4⟩)] [(0, [cI (0 : Int), cI (0 : Int), cI (0 : Int)]), (1, [cI (0 : Int), cI (0 : Int), cI (0 : Int)])] 3) := by
        refine hI _ _ _ ?_
        refine A.all [5] (by kernel_rfl) rfl ⟨⟨_, rfl, ?_⟩, trivial⟩
        · refine L.loadEp (xs := v4) (e := eI) shape3 hF rfl rfl rfl rfl (at?_get hb7).2 rfl rfl ?_
          refine L.nil ?_
          exact A.on (hO _ _ _ n1535) (Le.mk [(0, 0), (1, 1)] hm rfl ⟨⟨_, rfl, rfl⟩, ⟨_, rfl, rfl⟩, ⟨_, rfl, rfl⟩, ⟨_, rfl, rfl⟩, ⟨_, rfl, rfl⟩, trivial⟩ trivial ⟨⟨_, _, rfl, rfl, rfl⟩, ⟨_, _, rfl, rfl, rfl⟩, trivial⟩)
      have n1279 : W 3 #[true, true, true, true, true, true, true, true, false, false, true, false] (mkSt [(2, one (Cell.ptr 0 0)), (6, one (Cell.ptr 1 0)), (22, one (cI b6)), (25, one (cI b7)), (27, one (Cell.ep 2 ((2 : Int).toNat) 0))] [(2, ⟨1, List.map eI v4⟩)] [(0, [cI (0 : Int), cI (0 : Int), cI (0 : Int)]), (1, [cI (0 : Int), cI (0 : Int), cI (0 : Int)])] 3) := by
        refine hI _ _ _ ?_
        refine A.all [8] (by kernel_rfl) rfl ⟨⟨_, rfl, ?_⟩, trivial⟩
        · refine L.loadEp (xs := v4) (e := eI) shape3 hF rfl rfl rfl rfl (at?_get hb8).2 rfl rfl ?_
          refine L.nil ?_
          exact A.on (hO _ _ _ n1535) (Le.mk [(0, 0), (1, 1)] hm rfl ⟨⟨_, rfl, rfl⟩, ⟨_, rfl, rfl⟩, ⟨_, rfl, rfl⟩, ⟨_, rfl, rfl⟩, ⟨_, rfl, rfl⟩, trivial⟩ trivial ⟨⟨_, _, rfl, rfl, rfl⟩, ⟨_, _, rfl, rfl, rfl⟩, trivial⟩)
      have n1247 : W 4 #[true, true, true, true, true, false, true, true, false, false, true, false] (mkSt [(2, one (Cell.ptr 0 0)), (6, one (Cell.ptr 1 0)), (22, one (cI b6)), (24, one (Cell.ep 2 ((1 : Int).toNat) 0)), (27, one (Cell.ep 2 ((2 : Int).toNat) 0))] [(2, ⟨1, List.map eI v4⟩)] [(0, [cI (0 : Int), cI (0 : Int), cI (0 : Int)]), (1, [cI (0 : Int), cI (0 : Int), cI (0 : Int)])] 3) := by
        refine hI _ _ _ ?_
        refine A.all [5, 8] (by kernel_rfl) rfl ⟨⟨_, rfl, ?_⟩, ⟨_, rfl, ?_⟩, trivial⟩
        · refine L.loadEp (xs := v4) (e := eI) shape3 hF rfl rfl rfl rfl (at?_get hb7).2 rfl rfl ?_
          refine L.nil ?_
          exact A.on (hO _ _ _ n1279) (Le.mk [(0, 0), (1, 1), (2, 2)] hm rfl ⟨⟨_, rfl, rfl⟩, ⟨_, rfl, rfl⟩, ⟨_, rfl, rfl⟩, ⟨_, rfl, rfl⟩, ⟨_, rfl, rfl⟩, trivial⟩ ⟨⟨_, rfl, rfl⟩, trivial⟩ ⟨⟨_, _, rfl, rfl, rfl⟩, ⟨_, _, rfl, rfl, rfl⟩, trivial⟩)
        · refine L.loadEp (xs := v4) (e := eI) shape3 hF rfl rfl rfl rfl (at?_get hb8).2 rfl rfl ?_
          refine L.nil ?_
          exact A.on (hO _ _ _ n1503) (Le.mk [(0, 0), (1, 1), (2, 2)] hm rfl ⟨⟨_, rfl, rfl⟩, ⟨_, rfl, rfl⟩, ⟨_, rfl, rfl⟩, ⟨_, rfl, rfl⟩, ⟨_, rfl, rfl⟩, trivial⟩ ⟨⟨_, rfl, rfl⟩, trivial⟩ ⟨⟨_, _, rfl, rfl, rfl⟩, ⟨_, _, rfl, rfl, rfl⟩, trivial⟩)
      have n1499 : W 4 #[true, true, false, true, true, false, true, true, true, false, true, false] (mkSt [(2, one (Cell.ptr 0 0)), (6, one (Cell.ptr 1 0)), (21, one (Cell.ep 2 ((0 : Int).toNat) 0)), (24, one (Cell.ep 2 ((1 : Int).toNat) 0)), (28, one (cI b8))] [(2, ⟨1, List.map eI v4⟩)] [(0, [cI (0 : Int), cI (0 : Int), cI (0 : Int)]), (1, [cI (0 : Int), cI (0 : Int), cI (0 : Int)])] 3) := by
        refine hI _ _ _ ?_
        refine A.all [2, 5] (by kernel_rfl) rfl ⟨⟨_, rfl, ?_⟩, ⟨_, rfl, ?_⟩, trivial⟩
        · refine L.loadEp (xs := v4) (e := eI) shape3 hF rfl rfl rfl rfl (at?_get hb6).2 rfl rfl ?_
          refine L.nil ?_
          exact A.on (hO _ _ _ n1503) (Le.mk [(0, 0), (1, 1), (2, 2)] hm rfl ⟨⟨_, rfl, rfl⟩, ⟨_, rfl, rfl⟩, ⟨_, rfl, rfl⟩, ⟨_, rfl, rfl⟩, ⟨_, rfl, rfl⟩, trivial⟩ ⟨⟨_, rfl, rfl⟩, trivial⟩ ⟨⟨_, _, rfl, rfl, rfl⟩, ⟨_, _, rfl, rfl, rfl⟩, trivial⟩)
        · refine L.loadEp (xs := v4) (e := eI) shape3 hF rfl rfl rfl rfl (at?_get hb7).2 rfl rfl ?_
          refine L.nil ?_
          exact A.on (hO _ _ _ n1531) (Le.mk [(0, 0), (1, 1), (2, 2)] hm rfl ⟨⟨_, rfl, rfl⟩, ⟨_, rfl, rfl⟩, ⟨_, rfl, rfl⟩, ⟨_, rfl, rfl⟩, ⟨_, rfl, rfl⟩, trivial⟩ ⟨⟨_, rfl, rfl⟩, trivial⟩ ⟨⟨_, _, rfl, rfl, rfl⟩, ⟨_, _, rfl, rfl, rfl⟩, trivial⟩)
      have n479 : W 4 #[true, true, true, true, true, false, true, true, true, false, false, false] (mkSt [(2, one (Cell.ptr 0 0)), (22, one (cI b6)), (24, one (Cell.ep 1 ((1 : Int).toNat) 0)), (28, one (cI b8))] [(1, ⟨1, List.map eI v4⟩)] [(0, [cI (0 : Int), cI (0 : Int), cI (0 : Int)])] 2) := by
        refine hI _ _ _ ?_
        refine A.all [5, 10] (by kernel_rfl) rfl ⟨⟨_, rfl, ?_⟩, ⟨_, rfl, ?_⟩, trivial⟩
        · refine L.loadEp (xs := v4) (e := eI) shape3 hF rfl rfl rfl rfl (at?_get hb7).2 rfl rfl ?_
          refine L.nil ?_
          exact A.on (hO _ _ _ n511) (Le.mk [(0, 0)] hm rfl ⟨⟨_, rfl, rfl⟩, ⟨_, rfl, rfl⟩, ⟨_, rfl, rfl⟩, ⟨_, rfl, rfl⟩, trivial⟩ trivial ⟨⟨_, _, rfl, rfl, rfl⟩, trivial⟩)
        · refine L.alloc 2 info74 rfl hF rfl rfl rfl rfl ?_
          refine L.nil ?_
          exact A.on (hO _ _ _ n1503) (Le.mk [(0, 0), (1, 2), (2, 1)] hm rfl ⟨⟨_, rfl, rfl⟩, ⟨_, rfl, rfl⟩, ⟨_, rfl, rfl⟩, ⟨_, rfl, rfl⟩, ⟨_, rfl, rfl⟩, trivial⟩ ⟨⟨_, rfl, rfl⟩, trivial⟩ ⟨⟨_, _, rfl, rfl, rfl⟩, ⟨_, _, rfl, rfl, rfl⟩, trivial⟩)
      have n507 : W 4 #[true, true, false, true, true, true, true, true, true, false, false, false] (mkSt [(2, one (Cell.ptr 0 0)), (21, one (Cell.ep 1 ((0 : Int).toNat) 0)), (25, one (cI b7)), (28, one (cI b8))] [(1, ⟨1, List.map eI v4⟩)] [(0, [cI (0 : Int), cI (0 : Int), cI (0 : Int)])] 2) := by
        refine hI _ _ _ ?_
        refine A.all [2, 10] (by kernel_rfl) rfl ⟨⟨_, rfl, ?_⟩, ⟨_, rfl, ?_⟩, trivial⟩
        · refine L.loadEp (xs := v4) (e := eI) shape3 hF rfl rfl rfl rfl (at?_get hb6).2 rfl rfl ?_
          refine L.nil ?_
          exact A.on (hO _ _ _ n511) (Le.mk [(0, 0)] hm rfl ⟨⟨_, rfl, rfl⟩, ⟨_, rfl, rfl⟩, ⟨_, rfl, rfl⟩, ⟨_, rfl, rfl⟩, trivial⟩ trivial ⟨⟨_, _, rfl, rfl, rfl⟩, trivial⟩)
        · refine L.alloc 2 info74 rfl hF rfl rfl rfl rfl ?_
          refine L.nil ?_
          exact A.on (hO _ _ _ n1531) (Le.mk [(0, 0), (1, 2), (2, 1)] hm rfl ⟨⟨_, rfl, rfl⟩, ⟨_, rfl, rfl⟩, ⟨_, rfl, rfl⟩, ⟨_, rfl, rfl⟩, ⟨_, rfl, rfl⟩, trivial⟩ ⟨⟨_, rfl, rfl⟩, trivial⟩ ⟨⟨_, _, rfl, rfl, rfl⟩, ⟨_, _, rfl, rfl, rfl⟩, trivial⟩)
      have n1275 : W 4 #[true, true, false, true, true, true, true, true, false, false, true, false] (mkSt [(2, one (Cell.ptr 0 0)), (6, one (Cell.ptr 1 0)), (21, one (Cell.ep 2 ((0 : Int).toNat) 0)), (25, one (cI b7)), (27, one (Cell.ep 2 ((2 : Int).toNat) 0))] [(2, ⟨1, List.map eI v4⟩)] [(0, [cI (0 : Int), cI (0 : Int), cI (0 : Int)]), (1, [cI (0 : Int), cI (0 : Int), cI (0 : Int)])] 3) := by
        refine hI _ _ _ ?_
        refine A.all [2, 8] (by kernel_rfl) rfl ⟨⟨_, rfl, ?_⟩, ⟨_, rfl, ?_⟩, trivial⟩
        · refine L.loadEp (xs := v4) (e := eI) shape3 hF rfl rfl rfl rfl (at?_get hb6).2 rfl rfl ?_
          refine L.nil ?_
          exact A.on (hO _ _ _ n1279) (Le.mk [(0, 0), (1, 1), (2, 2)] hm rfl ⟨⟨_, rfl, rfl⟩, ⟨_, rfl, rfl⟩, ⟨_, rfl, rfl⟩, ⟨_, rfl, rfl⟩, ⟨_, rfl, rfl⟩, trivial⟩ ⟨⟨_, rfl, rfl⟩, trivial⟩ ⟨⟨_, _, rfl, rfl, rfl⟩, ⟨_, _, rfl, rfl, rfl⟩, trivial⟩)
        · refine L.loadEp (xs := v4) (e := eI) shape3 hF rfl rfl rfl rfl (at?_get hb8).2 rfl rfl ?_
          refine L.nil ?_
          exact A.on (hO _ _ _ n1531) (Le.mk [(0, 0), (1, 1), (2, 2)] hm rfl ⟨⟨_, rfl, rfl⟩, ⟨_, rfl, rfl⟩, ⟨_, rfl, rfl⟩, ⟨_, rfl, rfl⟩, ⟨_, rfl, rfl⟩, trivial⟩ ⟨⟨_, rfl, rfl⟩, trivial⟩ ⟨⟨_, _, rfl, rfl, rfl⟩, ⟨_, _, rfl, rfl, rfl⟩, trivial⟩)
      have n255 : W 4 #[true, true, true, true, true, true, true, true, false, false, false, false] (mkSt [(2, one (Cell.ptr 0 0)), (22, one (cI b6)), (25, one (cI b7)), (27, one (Cell.ep 1 ((2 : Int).toNat) 0))] [(1, ⟨1, List.map eI v4⟩)] [(0, [cI (0 : Int), cI (0 : Int), cI (0 : Int)])] 2) := by
        refine hI _ _ _ ?_
        refine A.all [8, 10] (by kernel_rfl) rfl ⟨⟨_, rfl, ?_⟩, ⟨_, rfl, ?_⟩, trivial⟩
        · refine L.loadEp (xs := v4) (e := eI) shape3 hF rfl rfl rfl rfl (at?_get hb8).2 rfl rfl ?_
          refine L.nil ?_
          exact A.on (hO _ _ _ n511) (Le.mk [(0, 0)] hm rfl ⟨⟨_, rfl, rfl⟩, ⟨_, rfl, rfl⟩, ⟨_, rfl, rfl⟩, ⟨_, rfl, rfl⟩, trivial⟩ trivial ⟨⟨_, _, rfl, rfl, rfl⟩, trivial⟩)
        · refine L.alloc 2 info74 rfl hF rfl rfl rfl rfl ?_
          refine L.nil ?_
          exact A.on (hO _ _ _ n1279) (Le.mk [(0, 0), (1, 2), (2, 1)] hm rfl ⟨⟨_, rfl, rfl⟩, ⟨_, rfl, rfl⟩, ⟨_, rfl, rfl⟩, ⟨_, rfl, rfl⟩, ⟨_, rfl, rfl⟩, trivial⟩ ⟨⟨_, rfl, rfl⟩, trivial⟩ ⟨⟨_, _, rfl, rfl, rfl⟩, ⟨_, _, rfl, rfl, rfl⟩, trivial⟩)
      have n1243 : W 5 #[true, true, false, true, true, false, true, true, false, false, true, false] (mkSt [(2, one (Cell.ptr 0 0)), (6, one (Cell.ptr 1 0)), (21, one (Cell.ep 2 ((0 : Int).toNat) 0)), (24, one (Cell.ep 2 ((1 : Int).toNat) 0)), (27, one (Cell.ep 2 ((2 : Int).toNat) 0))] [(2, ⟨1, List.map eI v4⟩)] [(0, [cI (0 : Int), cI (0 : Int), cI (0 : Int)]), (1, [cI (0 : Int), cI (0 : Int), cI (0 : Int)])] 3) := by
        refine hI _ _ _ ?_
        refine A.all [2, 5, 8] (by kernel_rfl) rfl ⟨⟨_, rfl, ?_⟩, ⟨_, rfl, ?_⟩, ⟨_, rfl, ?_⟩, trivial⟩
        · refine L.loadEp (xs := v4) (e := eI) shape3 hF rfl rfl rfl rfl (at?_get hb6).2 rfl rfl ?_
          refine L.nil ?_
          exact A.on (hO _ _ _ n1247) (Le.mk [(0, 0), (1, 1), (2, 2)] hm rfl ⟨⟨_, rfl, rfl⟩, ⟨_, rfl, rfl⟩, ⟨_, rfl, rfl⟩, ⟨_, rfl, rfl⟩, ⟨_, rfl, rfl⟩, trivial⟩ ⟨⟨_, rfl, rfl⟩, trivial⟩ ⟨⟨_, _, rfl, rfl, rfl⟩, ⟨_, _, rfl, rfl, rfl⟩, trivial⟩)
        · refine L.loadEp (xs := v4) (e := eI) shape3 hF rfl rfl rfl rfl (at?_get hb7).2 rfl rfl ?_
          refine L.nil ?_
          exact A.on (hO _ _ _ n1275) (Le.mk [(0, 0), (1, 1), (2, 2)] hm rfl ⟨⟨_, rfl, rfl⟩, ⟨_, rfl, rfl⟩, ⟨_, rfl, rfl⟩, ⟨_, rfl, rfl⟩, ⟨_, rfl, rfl⟩, trivial⟩ ⟨⟨_, rfl, rfl⟩, trivial⟩ ⟨⟨_, _, rfl, rfl, rfl⟩, ⟨_, _, rfl, rfl, rfl⟩, trivial⟩)
        · refine L.loadEp (xs := v4) (e := eI) shape3 hF rfl rfl rfl rfl (at?_get hb8).2 rfl rfl ?_
          refine L.nil ?_
          exact A.on (hO _ _ _ n1499) (Le.mk [(0, 0), (1, 1), (2, 2)] hm rfl ⟨⟨_, rfl, rfl⟩, ⟨_, rfl, rfl⟩, ⟨_, rfl, rfl⟩, ⟨_, rfl, rfl⟩, ⟨_, rfl, rfl⟩, trivial⟩ ⟨⟨_, rfl, rfl⟩, trivial⟩ ⟨⟨_, _, rfl, rfl, rfl⟩, ⟨_, _, rfl, rfl, rfl⟩, trivial⟩)
      have n475 : W 5 #[true, true, false, true, true, false, true, true, true, false, false, false] (mkSt [(2, one (Cell.ptr 0 0)), (21, one (Cell.ep 1 ((0 : Int).toNat) 0)), (24, one (Cell.ep 1 ((1 : Int).toNat) 0)), (28, one (cI b8))] [(1, ⟨1, List.map eI v4⟩)] [(0, [cI (0 : Int), cI (0 : Int), cI (0 : Int)])] 2) := by
        refine hI _ _ _ ?_
        refine A.all [2, 5, 10] (by kernel_rfl) rfl ⟨⟨_, rfl, ?_⟩, ⟨_, rfl, ?_⟩, ⟨_, rfl, ?_⟩, trivial⟩
        · refine L.loadEp (xs := v4) (e := eI) shape3 hF rfl rfl rfl rfl (at?_get hb6).2 rfl rfl ?_
          refine L.nil ?_
          exact A.on (hO _ _ _ n479) (Le.mk [(0, 0), (1, 1)] hm rfl ⟨⟨_, rfl, rfl⟩, ⟨_, rfl, rfl⟩, ⟨_, rfl, rfl⟩, ⟨_, rfl, rfl⟩, trivial⟩ ⟨⟨_, rfl, rfl⟩, trivial⟩ ⟨⟨_, _, rfl, rfl, rfl⟩, trivial⟩)
        · refine L.loadEp (xs := v4) (e := eI) shape3 hF rfl rfl rfl rfl (at?_get hb7).2 rfl rfl ?_
          refine L.nil ?_
          exact A.on (hO _ _ _ n507) (Le.mk [(0, 0), (1, 1)] hm rfl ⟨⟨_, rfl, rfl⟩, ⟨_, rfl, rfl⟩, ⟨_, rfl, rfl⟩, ⟨_, rfl, rfl⟩, trivial⟩ ⟨⟨_, rfl, rfl⟩, trivial⟩ ⟨⟨_, _, rfl, rfl, rfl⟩, trivial⟩)
        · refine L.alloc 2 info74 rfl hF rfl rfl rfl rfl ?_
          refine L.nil ?_
          exact A.on (hO _ _ _ n1499) (Le.mk [(0, 0), (1, 2), (2, 1)] hm rfl ⟨⟨_, rfl, rfl⟩, ⟨_, rfl, rfl⟩, ⟨_, rfl, rfl⟩, ⟨_, rfl, rfl⟩, ⟨_, rfl, rfl⟩, trivial⟩ ⟨⟨_, rfl, rfl⟩, trivial⟩ ⟨⟨_, _, rfl, rfl, rfl⟩, ⟨_, _, rfl, rfl, rfl⟩, trivial⟩)
      have n223 : W 5 #[true, true, true, true, true, false, true, true, false, false, false, false] (mkSt [(2, one (Cell.ptr 0 0)), (22, one (cI b6)), (24, one (Cell.ep 1 ((1 : Int).toNat) 0)), (27, one (Cell.ep 1 ((2 : Int).toNat) 0))] [(1, ⟨1, List.map eI v4⟩)] [(0, [cI (0 : Int), cI (0 : Int), cI (0 : Int)])] 2) := by
        refine hI _ _ _ ?_
        refine A.all [5, 8, 10] (by kernel_rfl) rfl ⟨⟨_, rfl, ?_⟩, ⟨_, rfl, ?_⟩, ⟨_, rfl, ?_⟩, trivial⟩
        · refine L.loadEp (xs := v4) (e := eI) shape3 hF rfl rfl rfl rfl (at?_get hb7).2 rfl rfl ?_
          refine L.nil ?_
          exact A.on (hO _ _ _ n255) (Le.mk [(0, 0), (1, 1)] hm rfl ⟨⟨_, rfl, rfl⟩, ⟨_, rfl, rfl⟩, ⟨_, rfl, rfl⟩, ⟨_, rfl, rfl⟩, trivial⟩ ⟨⟨_, rfl, rfl⟩, trivial⟩ ⟨⟨_, _, rfl, rfl, rfl⟩, trivial⟩)
        · refine L.loadEp (xs := v4) (e := eI) shape3 hF rfl rfl rfl rfl (at?_get hb8).2 rfl rfl ?_
          refine L.nil ?_
          exact A.on (hO _ _ _ n479) (Le.mk [(0, 0), (1, 1)] hm rfl ⟨⟨_, rfl, rfl⟩, ⟨_, rfl, rfl⟩, ⟨_, rfl, rfl⟩, ⟨_, rfl, rfl⟩, trivial⟩ ⟨⟨_, rfl, rfl⟩, trivial⟩ ⟨⟨_, _, rfl, rfl, rfl⟩, trivial⟩)
        · refine L.alloc 2 info74 rfl hF rfl rfl rfl rfl ?_
          refine L.nil ?_
          exact A.on (hO _ _ _ n1247) (Le.mk [(0, 0), (1, 2), (2, 1)] hm rfl ⟨⟨_, rfl, rfl⟩, ⟨_, rfl, rfl⟩, ⟨_, rfl, rfl⟩, ⟨_, rfl, rfl⟩, ⟨_, rfl, rfl⟩, trivial⟩ ⟨⟨_, rfl, rfl⟩, trivial⟩ ⟨⟨_, _, rfl, rfl, rfl⟩, ⟨_, _, rfl, rfl, rfl⟩, trivial⟩)
      have n251 : W 5 #[true, true, false, true, true, true, true, true, false, false, false, false] (mkSt [(2, one (Cell.ptr 0 0)), (21, one (Cell.ep 1 ((0 : Int).toNat) 0)), (25, one (cI b7)), (27, one (Cell.ep 1 ((2 : Int).toNat) 0))] [(1, ⟨1, List.map eI v4⟩)] [(0, [cI (0 : Int), cI (0 : Int), cI (0 : Int)])] 2) := by
        refine hI _ _ _ ?_
        refine A.all [2, 8, 10] (by kernel_rfl) rfl ⟨⟨_, rfl, ?_⟩, ⟨_, rfl, ?_⟩, ⟨_, rfl, ?_⟩, trivial⟩
        · refine L.loadEp (xs := v4) (e := eI) shape3 hF rfl rfl rfl rfl (at?_get hb6).2 rfl rfl ?_
          refine L.nil ?_
          exact A.on (hO _ _ _ n255) (Le.mk [(0, 0), (1, 1)] hm rfl ⟨⟨_, rfl, rfl⟩, ⟨_, rfl, rfl⟩, ⟨_, rfl, rfl⟩, ⟨_, rfl, rfl⟩, trivial⟩ ⟨⟨_, rfl, rfl⟩, trivial⟩ ⟨⟨_, _, rfl, rfl, rfl⟩, trivial⟩)
        · refine L.loadEp (xs := v4) (e := eI) shape3 hF rfl rfl rfl rfl (at?_get hb8).2 rfl rfl ?_
          refine L.nil ?_
          exact A.on (hO _ _ _ n507) (Le.mk [(0, 0), (1, 1)] hm rfl ⟨⟨_, rfl, rfl⟩, ⟨_, rfl, rfl⟩, ⟨_, rfl, rfl⟩, ⟨_, rfl, rfl⟩, trivial⟩ ⟨⟨_, rfl, rfl⟩, trivial⟩ ⟨⟨_, _, rfl, rfl, rfl⟩, trivial⟩)
        · refine L.alloc 2 info74 rfl hF rfl rfl rfl rfl ?_
          refine L.nil ?_
          exact A.on (hO _ _ _ n1275) (Le.mk [(0, 0), (1, 2), (2, 1)] hm rfl ⟨⟨_, rfl, rfl⟩, ⟨_, rfl, rfl⟩, ⟨_, rfl, rfl⟩, ⟨_, rfl, rfl⟩, ⟨_, rfl, rfl⟩, trivial⟩ ⟨⟨_, rfl, rfl⟩, trivial⟩ ⟨⟨_, _, rfl, rfl, rfl⟩, ⟨_, _, rfl, rfl, rfl⟩, trivial⟩)
      have n219 : W 6 #[true, true, false, true, true, false, true, true, false, false, false, false] (mkSt [(2, one (Cell.ptr 0 0)), (21, one (Cell.ep 1 ((0 : Int).toNat) 0)), (24, one (Cell.ep 1 ((1 : Int).toNat) 0)), (27, one (Cell.ep 1 ((2 : Int).toNat) 0))] [(1, ⟨1, List.map eI v4⟩)] [(0, [cI (0 : Int), cI (0 : Int), cI (0 : Int)])] 2) := by
        refine hI _ _ _ ?_
        refine A.all [2, 5, 8, 10] (by kernel_rfl) rfl ⟨⟨_, rfl, ?_⟩, ⟨_, rfl, ?_⟩, ⟨_, rfl, ?_⟩, ⟨_, rfl, ?_⟩, trivial⟩
        · refine L.loadEp (xs := v4) (e := eI) shape3 hF rfl rfl rfl rfl (at?_get hb6).2 rfl rfl ?_
          refine L.nil ?_
          exact A.on (hO _ _ _ n223) (Le.mk [(0, 0), (1, 1)] hm rfl ⟨⟨_, rfl, rfl⟩, ⟨_, rfl, rfl⟩, ⟨_, rfl, rfl⟩, ⟨_, rfl, rfl⟩, trivial⟩ ⟨⟨_, rfl, rfl⟩, trivial⟩ ⟨⟨_, _, rfl, rfl, rfl⟩, trivial⟩)
        · refine L.loadEp (xs := v4) (e := eI) shape3 hF rfl rfl rfl rfl (at?_get hb7).2 rfl rfl ?_
          refine L.nil ?_
          exact A.on (hO _ _ _ n251) (Le.mk [(0, 0), (1, 1)] hm rfl ⟨⟨_, rfl, rfl⟩, ⟨_, rfl, rfl⟩, ⟨_, rfl, rfl⟩, ⟨_, rfl, rfl⟩, trivial⟩ ⟨⟨_, rfl, rfl⟩, trivial⟩ ⟨⟨_, _, rfl, rfl, rfl⟩, trivial⟩)
        · refine L.loadEp (xs := v4) (e := eI) shape3 hF rfl rfl rfl rfl (at?_get hb8).2 rfl rfl ?_
          refine L.nil ?_
          exact A.on (hO _ _ _ n475) (Le.mk [(0, 0), (1, 1)] hm rfl ⟨⟨_, rfl, rfl⟩, ⟨_, rfl, rfl⟩, ⟨_, rfl, rfl⟩, ⟨_, rfl, rfl⟩, trivial⟩ ⟨⟨_, rfl, rfl⟩, trivial⟩ ⟨⟨_, _, rfl, rfl, rfl⟩, trivial⟩)
        · refine L.alloc 2 info74 rfl hF rfl rfl rfl rfl ?_
          refine L.nil ?_
          exact A.on (hO _ _ _ n1243) (Le.mk [(0, 0), (1, 2), (2, 1)] hm rfl ⟨⟨_, rfl, rfl⟩, ⟨_, rfl, rfl⟩, ⟨_, rfl, rfl⟩, ⟨_, rfl, rfl⟩, ⟨_, rfl, rfl⟩, trivial⟩ ⟨⟨_, rfl, rfl⟩, trivial⟩ ⟨⟨_, _, rfl, rfl, rfl⟩, ⟨_, _, rfl, rfl, rfl⟩, trivial⟩)
      have n91 : W 7 #[true, true, false, true, true, false, true, false, false, false, false, false] (mkSt [(2, one (Cell.ptr 0 0)), (21, one (Cell.ep 1 ((0 : Int).toNat) 0)), (24, one (Cell.ep 1 ((1 : Int).toNat) 0)), (26, one (Cell.own 1))] [(1, ⟨1, List.map eI v4⟩)] [(0, [cI (0 : Int), cI (0 : Int), cI (0 : Int)])] 2) := by
        refine hI _ _ _ ?_
        refine A.take 7 rfl (by kernel_rfl) (by kernel_rfl) (by kernel_rfl) rfl (Ca.indexAddr) (fun Q0 k0 => L.idxR (xs := v4) (e := eI) Try.underlying24 info3 hF rfl rfl rfl rfl rfl hb8 rfl rfl (L.nil k0)) ?_
        exact A.on (hO _ _ _ n219) (Le.mk [(0, 0), (1, 1)] hm rfl ⟨⟨_, rfl, rfl⟩, ⟨_, rfl, rfl⟩, ⟨_, rfl, rfl⟩, ⟨_, rfl, rfl⟩, trivial⟩ ⟨⟨_, rfl, rfl⟩, trivial⟩ ⟨⟨_, _, rfl, rfl, rfl⟩, trivial⟩)
      have n27 : W 8 #[true, true, false, true, true, false, false, false, false, false, false, false] (mkSt [(2, one (Cell.ptr 0 0)), (4, one (Cell.own 1)), (21, one (Cell.ep 1 ((0 : Int).toNat) 0)), (24, one (Cell.ep 1 ((1 : Int).toNat) 0))] [(1, ⟨1, List.map eI v4⟩)] [(0, [cI (0 : Int), cI (0 : Int), cI (0 : Int)])] 2) := by
        refine hI _ _ _ ?_
        refine A.take 6 rfl (by kernel_rfl) (by kernel_rfl) (by kernel_rfl) rfl (Ca.move) (fun Q0 k0 => L.move hF rfl rfl rfl (L.nil k0)) ?_
        exact A.on (hO _ _ _ n91) (Le.mk [(0, 0), (1, 1)] hm rfl ⟨⟨_, rfl, rfl⟩, ⟨_, rfl, rfl⟩, ⟨_, rfl, rfl⟩, ⟨_, rfl, rfl⟩, trivial⟩ ⟨⟨_, rfl, rfl⟩, trivial⟩ ⟨⟨_, _, rfl, rfl, rfl⟩, trivial⟩)
      have n11 : W 9 #[true, true, false, true, false, false, false, false, false, false, false, false] (mkSt [(2, one (Cell.ptr 0 0)), (4, one (Cell.own 1)), (21, one (Cell.ep 1 ((0 : Int).toNat) 0)), (23, one (Cell.own 1))] [(1, ⟨1, List.map eI v4⟩)] [(0, [cI (0 : Int), cI (0 : Int), cI (0 : Int)])] 2) := by
        refine hI _ _ _ ?_
        refine A.take 4 rfl (by kernel_rfl) (by kernel_rfl) (by kernel_rfl) rfl (Ca.indexAddr) (fun Q0 k0 => L.idxR (xs := v4) (e := eI) Try.underlying24 info3 hF rfl rfl rfl rfl rfl hb7 rfl rfl (L.nil k0)) ?_
        exact A.on (hO _ _ _ n27) (Le.mk [(0, 0), (1, 1)] hm rfl ⟨⟨_, rfl, rfl⟩, ⟨_, rfl, rfl⟩, ⟨_, rfl, rfl⟩, ⟨_, rfl, rfl⟩, trivial⟩ ⟨⟨_, rfl, rfl⟩, trivial⟩ ⟨⟨_, _, rfl, rfl, rfl⟩, trivial⟩)
      have n3 : W 10 #[true, true, false, false, false, false, false, false, false, false, false, false] (mkSt [(2, one (Cell.ptr 0 0)), (4, one (Cell.own 1)), (21, one (Cell.ep 1 ((0 : Int).toNat) 0))] [(1, ⟨1, List.map eI v4⟩)] [(0, [cI (0 : Int), cI (0 : Int), cI (0 : Int)])] 2) := by
        refine hI _ _ _ ?_
        refine A.take 3 rfl (by kernel_rfl) (by kernel_rfl) (by kernel_rfl) rfl (Ca.move) (fun Q0 k0 => L.move hF rfl rfl rfl (L.nil k0)) ?_
        exact A.on (hO _ _ _ n11) (Le.mk [(0, 0), (1, 1)] hm rfl ⟨⟨_, rfl, rfl⟩, ⟨_, rfl, rfl⟩, ⟨_, rfl, rfl⟩, ⟨_, rfl, rfl⟩, trivial⟩ ⟨⟨_, rfl, rfl⟩, trivial⟩ ⟨⟨_, _, rfl, rfl, rfl⟩, trivial⟩)
      have n1 : W 11 #[true, false, false, false, false, false, false, false, false, false, false, false] (mkSt [(2, one (Cell.ptr 0 0)), (4, one (Cell.own 1)), (20, one (Cell.own 1))] [(1, ⟨1, List.map eI v4⟩)] [(0, [cI (0 : Int), cI (0 : Int), cI (0 : Int)])] 2) := by
        refine hI _ _ _ ?_
        refine A.take 1 rfl (by kernel_rfl) (by kernel_rfl) (by kernel_rfl) rfl (Ca.indexAddr) (fun Q0 k0 => L.idxR (xs := v4) (e := eI) Try.underlying24 info3 hF rfl rfl rfl rfl rfl hb6 rfl rfl (L.nil k0)) ?_
        exact A.on (hO _ _ _ n3) (Le.mk [(0, 0), (1, 1)] hm rfl ⟨⟨_, rfl, rfl⟩, ⟨_, rfl, rfl⟩, ⟨_, rfl, rfl⟩, trivial⟩ ⟨⟨_, rfl, rfl⟩, trivial⟩ ⟨⟨_, _, rfl, rfl, rfl⟩, trivial⟩)
      have n0 : W 12 #[false, false, false, false, false, false, false, false, false, false, false, false] (mkSt [(2, one (Cell.ptr 0 0)), (4, one (Cell.own 1))] [(1, ⟨1, List.map eI v4⟩)] [(0, [cI (0 : Int), cI (0 : Int), cI (0 : Int)])] 2) := by
        refine hI _ _ _ ?_
        refine A.take 0 rfl (by kernel_rfl) (by kernel_rfl) (by kernel_rfl) rfl (Ca.move) (fun Q0 k0 => L.move hF rfl rfl rfl (L.nil k0)) ?_
        exact A.on (hO _ _ _ n1) (Le.mk [(0, 0), (1, 1)] hm rfl ⟨⟨_, rfl, rfl⟩, ⟨_, rfl, rfl⟩, ⟨_, rfl, rfl⟩, trivial⟩ ⟨⟨_, rfl, rfl⟩, trivial⟩ ⟨⟨_, _, rfl, rfl, rfl⟩, trivial⟩)
      exact hI _ _ _ (A.on (hO _ _ _ n0) (Le.mk [(0, 0), (1, 1)] hm rfl ⟨⟨_, rfl, rfl⟩, ⟨_, rfl, rfl⟩, trivial⟩ ⟨⟨_, rfl, rfl⟩, trivial⟩ ⟨⟨_, _, rfl, rfl, rfl⟩, trivial⟩))
  · refine WpC.regionL ?_
    refine L.move hF rfl rfl rfl ?_
    refine L.not hF rfl rfl rfl ?_
    refine L.move hF rfl rfl rfl ?_
    refine L.split (fun hc => ?_) (fun hc => ?_)
    · replace H := condT hc H
      refine L.off hF rfl rfl ?_
      refine L.off hF rfl rfl ?_
      refine L.off hF rfl rfl ?_
      refine L.pick hF rfl rfl rfl rfl ?_
      refine L.nil ?_
      exact ⟨_, ⟨k, r1.1, true, by omega, H, rfl⟩, Le.mk [(0, 1), (1, 2)] hm rfl ⟨⟨_, rfl, rfl⟩, ⟨_, rfl, rfl⟩, ⟨_, rfl, rfl⟩, trivial⟩ ⟨⟨_, rfl, rfl⟩, trivial⟩ ⟨⟨_, _, rfl, rfl, rfl⟩, trivial⟩⟩
    · replace H := condF hc H
      refine L.move hF rfl rfl rfl ?_
      refine L.lenR (xs := r1.1) (e := eI) Try.underlying24 hF rfl rfl rfl rfl ?_
      refine L.bin hF rfl rfl rfl rfl rfl rfl ?_
      refine L.pick hF rfl rfl rfl rfl ?_
      refine L.nil ?_
      exact ⟨_, ⟨k, r1.1, ((r1.1.length : Int) != (3 : Int)), by omega, H, rfl⟩, Le.mk [(0, 1), (1, 2)] hm rfl ⟨⟨_, rfl, rfl⟩, ⟨_, rfl, rfl⟩, ⟨_, rfl, rfl⟩, trivial⟩ ⟨⟨_, rfl, rfl⟩, trivial⟩ ⟨⟨_, _, rfl, rfl, rfl⟩, trivial⟩⟩
/-! ### Fimpl_isService -/
def Fimpl_isService (k : Nat) (a0 : Int) : Option Bool := (Fimpl_within k a0 (0 : Int) (2 : Int)).bind fun r1 => some r1
theorem ent157 : Enters Try.prog 157 := ⟨Try.f157, Try.func157, rfl, by decide⟩
set_option maxHeartbeats 8000000 in
set_option maxRecDepth 100000 in
theorem Fimpl_isService_gives (k : Nat) (a0 : Int) (r : Bool) (H : Fimpl_isService k a0 = some r) : Gives Try.prog 157 [V.one (cI a0)] [] [V.one (cL r)] [] := by
  refine Gives.intro Try.func157 rfl rfl rfl rfl ?_
  intro F hF hm
  unfold Fimpl_isService at H
  obtain ⟨K, hK⟩ : ∃ K, k ≤ K := ⟨k, Nat.le_refl k⟩
  refine WpC.seq ?_
  refine WpC.regionL ?_
  refine L.assign hF rfl rfl rfl ?_
  refine L.nil ?_
  refine WpC.seq ?_
  refine WpC.regionL ?_
  refine L.move hF rfl rfl rfl ?_
  obtain ⟨r1, hr1, H⟩ := bindS H
  refine L.call [false, false, false] [] [] 1 hF rfl rfl rfl ent113 rfl rfl rfl rfl rfl (Fimpl_within_gives k  a0 (0 : Int) (2 : Int) r1 hr1) rfl ?_
  refine L.assign hF rfl rfl rfl ?_
  refine L.nil ?_
  refine WpC.ret ?_
  cases H
  exact Leaves.ret rfl rfl rfl ⟨rfl, rfl⟩
/-! ### Fimpl_isRealm -/
def Fimpl_isRealm (k : Nat) (a0 : Int) : Option Bool := (Fimpl_within k a0 (0 : Int) (2 : Int)).bind fun r1 => some r1
theorem ent184 : Enters Try.prog 184 := ⟨Try.f184, Try.func184, rfl, by decide⟩
set_option maxHeartbeats 8000000 in
set_option maxRecDepth 100000 in
theorem Fimpl_isRealm_gives (k : Nat) (a0 : Int) (r : Bool) (H : Fimpl_isRealm k a0 = some r) : Gives Try.prog 184 [V.one (cI a0)] [] [V.one (cL r)] [] := by
  refine Gives.intro Try.func184 rfl rfl rfl rfl ?_
  intro F hF hm
  unfold Fimpl_isRealm at H
  obtain ⟨K, hK⟩ : ∃ K, k ≤ K := ⟨k, Nat.le_refl k⟩
  refine WpC.seq ?_
  refine WpC.regionL ?_
  refine L.assign hF rfl rfl rfl ?_
  refine L.nil ?_
  refine WpC.seq ?_
  refine WpC.regionL ?_
  refine L.move hF rfl rfl rfl ?_
  obtain ⟨r1, hr1, H⟩ := bindS H
  refine L.call [false, false, false] [] [] 1 hF rfl rfl rfl ent113 rfl rfl rfl rfl rfl (Fimpl_within_gives k  a0 (0 : Int) (2 : Int) r1 hr1) rfl ?_
  refine L.assign hF rfl rfl rfl ?_
  refine L.nil ?_
  refine WpC.ret ?_
  cases H
  exact Leaves.ret rfl rfl rfl ⟨rfl, rfl⟩
/-! ### Fimpl_isFor -/
def Fimpl_isFor (k : Nat) (a0 : Int) : Option Bool := (Fimpl_isService k a0).bind fun r3 => cond r3 (some true) ((Fimpl_isRealm k (IntKind.i64.wrap (a0 - (10 : Int)))).bind fun r4 => some r4)
theorem ent293 : Enters Try.prog 293 := ⟨Try.f293, Try.func293, rfl, by decide⟩
set_option maxHeartbeats 8000000 in
set_option maxRecDepth 100000 in
theorem Fimpl_isFor_gives (k : Nat) (a0 : Int) (r : Bool) (H : Fimpl_isFor k a0 = some r) : Gives Try.prog 293 [V.one (cI a0)] [] [V.one (cL r)] [] := by
  refine Gives.intro Try.func293 rfl rfl rfl rfl ?_
  intro F hF hm
  unfold Fimpl_isFor at H
  obtain ⟨K, hK⟩ : ∃ K, k ≤ K := ⟨k, Nat.le_refl k⟩
  refine WpC.seq ?_
  refine WpC.regionL ?_
  refine L.assign hF rfl rfl rfl ?_
  refine L.nil ?_
  refine WpC.seq ?_
  refine WpC.regionL ?_
  refine L.move hF rfl rfl rfl ?_
  obtain ⟨r3, hr3, H⟩ := bindS H
  refine L.call [false] [] [] 1 hF rfl rfl rfl ent157 rfl rfl rfl rfl rfl (Fimpl_isService_gives k  a0 r3 hr3) rfl ?_
  refine L.move hF rfl rfl rfl ?_
  refine L.split (fun hc => ?_) (fun hc => ?_)
  · replace H := condT hc H
    refine L.off hF rfl rfl ?_
    refine L.off hF rfl rfl ?_
    refine L.off hF rfl rfl ?_
    refine L.pick hF rfl rfl rfl rfl ?_
    refine L.assign hF rfl rfl rfl ?_
    refine L.nil ?_
    refine WpC.ret ?_
    cases H
    exact Leaves.ret rfl rfl rfl ⟨rfl, rfl⟩
  · replace H := condF hc H
    refine L.move hF rfl rfl rfl ?_
    refine L.bin hF rfl rfl rfl rfl rfl rfl ?_
    obtain ⟨r4, hr4, H⟩ := bindS H
    refine L.call [false] [] [] 2 hF rfl rfl rfl ent184 rfl rfl rfl rfl rfl (Fimpl_isRealm_gives k  (IntKind.i64.wrap (a0 - (10 : Int))) r4 hr4) rfl ?_
    refine L.pick hF rfl rfl rfl rfl ?_
    refine L.assign hF rfl rfl rfl ?_
    refine L.nil ?_
    refine WpC.ret ?_
    cases H
    exact Leaves.ret rfl rfl rfl ⟨rfl, rfl⟩
/-! ### Fimpl_grantOk -/
def Fimpl_grantOk (k : Nat) (a0 : Timpl_Grant) : Option Bool := (Fimpl_isKey k a0.Key).bind fun r5 => cond r5 ((Fimpl_isFor k a0.Service).bind fun r6 => cond r6 ((Fimpl_within k a0.Nonce (0 : Int) (1000000 : Int)).bind fun r7 => cond r7 ((Fimpl_RestOk k (⟨a0.Rest.Servers, a0.Rest.Ops, a0.Rest.End⟩ : Timpl_Rest)).bind fun r8 => some r8) (some false)) (some false)) (some false)
theorem ent279 : Enters Try.prog 279 := ⟨Try.f279, Try.func279, rfl, by decide⟩
set_option maxHeartbeats 8000000 in
set_option maxRecDepth 100000 in
theorem Fimpl_grantOk_gives (k : Nat) (a0 : Timpl_Grant) (r : Bool) (H : Fimpl_grantOk k a0 = some r) : Gives Try.prog 279 [V.agg [cI a0.Key, cI a0.Service, cI a0.Nonce, cI a0.Rest.Servers, cI a0.Rest.Ops, cI a0.Rest.End]] [] [V.one (cL r)] [] := by
  refine Gives.intro Try.func279 rfl rfl rfl rfl ?_
  intro F hF hm
  unfold Fimpl_grantOk at H
  obtain ⟨K, hK⟩ : ∃ K, k ≤ K := ⟨k, Nat.le_refl k⟩
  refine WpC.seq ?_
  refine WpC.regionL ?_
  refine L.box 6 hF rfl rfl rfl rfl ?_
  refine L.assign hF rfl rfl rfl ?_
  refine L.nil ?_
  refine WpC.seq ?_
  refine WpC.regionL ?_
  refine L.fieldAddr Try.underlying187 rfl info3 rfl hF rfl rfl rfl rfl rfl ?_
  refine L.loadPtr shape3 hF rfl rfl rfl rfl rfl rfl ?_
  obtain ⟨r5, hr5, H⟩ := bindS H
  refine L.call [false] [] [] 7 hF rfl rfl rfl ent277 rfl rfl rfl rfl rfl (Fimpl_isKey_gives k  a0.Key r5 hr5) rfl ?_
  refine L.move hF rfl rfl rfl ?_
  refine L.split (fun hc => ?_) (fun hc => ?_)
  · replace H := condT hc H
    refine L.fieldAddr Try.underlying187 rfl info3 rfl hF rfl rfl rfl rfl rfl ?_
    refine L.loadPtr shape3 hF rfl rfl rfl rfl rfl rfl ?_
    obtain ⟨r6, hr6, H⟩ := bindS H
    refine L.call [false] [] [] 8 hF rfl rfl rfl ent293 rfl rfl rfl rfl rfl (Fimpl_isFor_gives k  a0.Service r6 hr6) rfl ?_
    refine L.pick hF rfl rfl rfl rfl ?_
    refine L.move hF rfl rfl rfl ?_
    refine L.split (fun hc => ?_) (fun hc => ?_)
    · replace H := condT hc H
      refine L.fieldAddr Try.underlying187 rfl info3 rfl hF rfl rfl rfl rfl rfl ?_
      refine L.loadPtr shape3 hF rfl rfl rfl rfl rfl rfl ?_
      obtain ⟨r7, hr7, H⟩ := bindS H
      refine L.call [false, false, false] [] [] 9 hF rfl rfl rfl ent113 rfl rfl rfl rfl rfl (Fimpl_within_gives k  a0.Nonce (0 : Int) (1000000 : Int) r7 hr7) rfl ?_
      refine L.pick hF rfl rfl rfl rfl ?_
      refine L.move hF rfl rfl rfl ?_
      refine L.split (fun hc => ?_) (fun hc => ?_)
      · replace H := condT hc H
        refine L.fieldAddr Try.underlying187 rfl info74 rfl hF rfl rfl rfl rfl rfl ?_
        refine L.loadPtr shape74 hF rfl rfl rfl rfl rfl rfl ?_
        obtain ⟨r8, hr8, H⟩ := bindS H
        refine L.call [false] [] [] 10 hF rfl rfl rfl ent158 rfl rfl rfl rfl rfl (Fimpl_RestOk_gives k  (⟨a0.Rest.Servers, a0.Rest.Ops, a0.Rest.End⟩ : Timpl_Rest) r8 hr8) rfl ?_
        refine L.pick hF rfl rfl rfl rfl ?_
        refine L.assign hF rfl rfl rfl ?_
        refine L.nil ?_
        refine WpC.ret ?_
        cases H
        exact Leaves.ret rfl rfl rfl ⟨rfl, rfl⟩
      · replace H := condF hc H
        refine L.off hF rfl rfl ?_
        refine L.off hF rfl rfl ?_
        refine L.off hF rfl rfl ?_
        refine L.pick hF rfl rfl rfl rfl ?_
        refine L.assign hF rfl rfl rfl ?_
        refine L.nil ?_
        refine WpC.ret ?_
        cases H
        exact Leaves.ret rfl rfl rfl ⟨rfl, rfl⟩
    · replace H := condF hc H
      refine L.off hF rfl rfl ?_
      refine L.off hF rfl rfl ?_
      refine L.off hF rfl rfl ?_
      refine L.pick hF rfl rfl rfl rfl ?_
      refine L.move hF rfl rfl rfl ?_
      refine L.off hF rfl rfl ?_
      refine L.off hF rfl rfl ?_
      refine L.off hF rfl rfl ?_
      refine L.pick hF rfl rfl rfl rfl ?_
      refine L.assign hF rfl rfl rfl ?_
      refine L.nil ?_
      refine WpC.ret ?_
      cases H
      exact Leaves.ret rfl rfl rfl ⟨rfl, rfl⟩
  · replace H := condF hc H
    refine L.off hF rfl rfl ?_
    refine L.off hF rfl rfl ?_
    refine L.off hF rfl rfl ?_
    refine L.pick hF rfl rfl rfl rfl ?_
    refine L.move hF rfl rfl rfl ?_
    refine L.off hF rfl rfl ?_
    refine L.off hF rfl rfl ?_
    refine L.off hF rfl rfl ?_
    refine L.pick hF rfl rfl rfl rfl ?_
    refine L.move hF rfl rfl rfl ?_
    refine L.off hF rfl rfl ?_
    refine L.off hF rfl rfl ?_
    refine L.off hF rfl rfl ?_
    refine L.pick hF rfl rfl rfl rfl ?_
    refine L.assign hF rfl rfl rfl ?_
    refine L.nil ?_
    refine WpC.ret ?_
    cases H
    exact Leaves.ret rfl rfl rfl ⟨rfl, rfl⟩
/-! ### Fimpl_term -/
def Fimpl_term (k : Nat) (a0 : List UInt8) : Option (List UInt8) := (Fimpl_TermOk k a0).bind fun r2 => cond (!r2) (some ([] : List UInt8)) (some a0)
theorem ent275 : Enters Try.prog 275 := ⟨Try.f275, Try.func275, rfl, by decide⟩
set_option maxHeartbeats 8000000 in
set_option maxRecDepth 100000 in
theorem Fimpl_term_gives (k : Nat) (a0 : List UInt8) (r : List UInt8) (H : Fimpl_term k a0 = some r) : Gives Try.prog 275 [V.one (cS a0)] [] [V.one (cS r)] [] := by
  refine Gives.intro Try.func275 rfl rfl rfl rfl ?_
  intro F hF hm
  unfold Fimpl_term at H
  obtain ⟨K, hK⟩ : ∃ K, k ≤ K := ⟨k, Nat.le_refl k⟩
  refine WpC.seq ?_
  refine WpC.regionL ?_
  refine L.assign hF rfl rfl rfl ?_
  refine L.nil ?_
  refine WpC.seq ?_
  refine WpC.seq ?_
  refine WpC.regionL ?_
  refine L.move hF rfl rfl rfl ?_
  obtain ⟨r2, hr2, H⟩ := bindS H
  refine L.call [false] [] [] 1 hF rfl rfl rfl ent274 rfl rfl rfl rfl rfl (Fimpl_TermOk_gives k  a0 r2 hr2) rfl ?_
  refine L.not hF rfl rfl rfl ?_
  refine L.nil ?_
  refine WpC.cond rfl (fun hc => ?_) (fun hc => ?_)
  · replace H := condT hc H
    refine WpC.seq ?_
    refine WpC.regionL ?_
    refine L.assign hF rfl rfl rfl ?_
    refine L.nil ?_
    refine WpC.ret ?_
    cases H
    exact Leaves.ret rfl rfl rfl ⟨rfl, rfl⟩
  · replace H := condF hc H
    refine WpC.skip ?_
    refine WpC.seq ?_
    refine WpC.regionL ?_
    refine L.move hF rfl rfl rfl ?_
    refine L.assign hF rfl rfl rfl ?_
    refine L.nil ?_
    refine WpC.ret ?_
    cases H
    exact Leaves.ret rfl rfl rfl ⟨rfl, rfl⟩
/-! ### Fimpl_KeyTerm -/
def Fimpl_KeyTerm (k : Nat) (a0 : Int) : Option (List UInt8) := (Fimpl_Var k a0).bind fun r1 => cond (decide (([107] : List UInt8).length + r1.length ≤ 9223372036854775807)) ((Fimpl_term k (([107] : List UInt8) ++ r1)).bind fun r3 => some r3) none
theorem ent281 : Enters Try.prog 281 := ⟨Try.f281, Try.func281, rfl, by decide⟩
set_option maxHeartbeats 8000000 in
set_option maxRecDepth 100000 in
theorem Fimpl_KeyTerm_gives (k : Nat) (a0 : Int) (r : List UInt8) (H : Fimpl_KeyTerm k a0 = some r) : Gives Try.prog 281 [V.one (cI a0)] [] [V.one (cS r)] [] := by
  refine Gives.intro Try.func281 rfl rfl rfl rfl ?_
  intro F hF hm
  unfold Fimpl_KeyTerm at H
  obtain ⟨K, hK⟩ : ∃ K, k ≤ K := ⟨k, Nat.le_refl k⟩
  refine WpC.seq ?_
  refine WpC.regionL ?_
  refine L.assign hF rfl rfl rfl ?_
  refine L.nil ?_
  refine WpC.seq ?_
  refine WpC.regionL ?_
  refine L.move hF rfl rfl rfl ?_
  obtain ⟨r1, hr1, H⟩ := bindS H
  refine L.call [false] [] [] 1 hF rfl rfl rfl ent124 rfl rfl rfl rfl rfl (Fimpl_Var_gives k  a0 r1 hr1) rfl ?_
  obtain ⟨h2, H⟩ := condG H
  refine L.catS hF rfl rfl rfl rfl (of_decide_eq_true h2) ?_
  obtain ⟨r3, hr3, H⟩ := bindS H
  refine L.call [false] [] [] 2 hF rfl rfl rfl ent275 rfl rfl rfl rfl rfl (Fimpl_term_gives k  (([107] : List UInt8) ++ r1) r3 hr3) rfl ?_
  refine L.assign hF rfl rfl rfl ?_
  refine L.nil ?_
  refine WpC.ret ?_
  cases H
  exact Leaves.ret rfl rfl rfl ⟨rfl, rfl⟩
/-! ### Fimpl_Atom -/
def Fimpl_Atom (k : Nat) (a0 : List UInt8) : Option (List UInt8) := (Fimpl_Var k (a0.length : Int)).bind fun r1 => cond (decide (([97] : List UInt8).length + r1.length ≤ 9223372036854775807)) (cond (decide ((([97] : List UInt8) ++ r1).length + a0.length ≤ 9223372036854775807)) ((Fimpl_term k ((([97] : List UInt8) ++ r1) ++ a0)).bind fun r4 => some r4) none) none
theorem ent273 : Enters Try.prog 273 := ⟨Try.f273, Try.func273, rfl, by decide⟩
set_option maxHeartbeats 8000000 in
set_option maxRecDepth 100000 in
theorem Fimpl_Atom_gives (k : Nat) (a0 : List UInt8) (r : List UInt8) (H : Fimpl_Atom k a0 = some r) : Gives Try.prog 273 [V.one (cS a0)] [] [V.one (cS r)] [] := by
  refine Gives.intro Try.func273 rfl rfl rfl rfl ?_
  intro F hF hm
  unfold Fimpl_Atom at H
  obtain ⟨K, hK⟩ : ∃ K, k ≤ K := ⟨k, Nat.le_refl k⟩
  refine WpC.seq ?_
  refine WpC.regionL ?_
  refine L.assign hF rfl rfl rfl ?_
  refine L.nil ?_
  refine WpC.seq ?_
  refine WpC.regionL ?_
  refine L.move hF rfl rfl rfl ?_
  refine L.lenS Try.underlying9 hF rfl rfl rfl ?_
  obtain ⟨r1, hr1, H⟩ := bindS H
  refine L.call [false] [] [] 1 hF rfl rfl rfl ent124 rfl rfl rfl rfl rfl (Fimpl_Var_gives k  (a0.length : Int) r1 hr1) rfl ?_
  obtain ⟨h2, H⟩ := condG H
  refine L.catS hF rfl rfl rfl rfl (of_decide_eq_true h2) ?_
  refine L.move hF rfl rfl rfl ?_
  obtain ⟨h3, H⟩ := condG H
  refine L.catS hF rfl rfl rfl rfl (of_decide_eq_true h3) ?_
  obtain ⟨r4, hr4, H⟩ := bindS H
  refine L.call [false] [] [] 2 hF rfl rfl rfl ent275 rfl rfl rfl rfl rfl (Fimpl_term_gives k  ((([97] : List UInt8) ++ r1) ++ a0) r4 hr4) rfl ?_
  refine L.assign hF rfl rfl rfl ?_
  refine L.nil ?_
  refine WpC.ret ?_
  cases H
  exact Leaves.ret rfl rfl rfl ⟨rfl, rfl⟩
/-! ### Fimpl_Num -/
def Fimpl_Num (k : Nat) (a0 : Int) : Option (List UInt8) := (Fimpl_Var k a0).bind fun r1 => cond (r1 == ([] : List UInt8)) (some ([] : List UInt8)) ((Fimpl_Atom k r1).bind fun r2 => some r2)
theorem ent227 : Enters Try.prog 227 := ⟨Try.f227, Try.func227, rfl, by decide⟩
set_option maxHeartbeats 8000000 in
set_option maxRecDepth 100000 in
theorem Fimpl_Num_gives (k : Nat) (a0 : Int) (r : List UInt8) (H : Fimpl_Num k a0 = some r) : Gives Try.prog 227 [V.one (cI a0)] [] [V.one (cS r)] [] := by
  refine Gives.intro Try.func227 rfl rfl rfl rfl ?_
  intro F hF hm
  unfold Fimpl_Num at H
  obtain ⟨K, hK⟩ : ∃ K, k ≤ K := ⟨k, Nat.le_refl k⟩
  refine WpC.seq ?_
  refine WpC.regionL ?_
  refine L.assign hF rfl rfl rfl ?_
  refine L.nil ?_
  refine WpC.seq ?_
  refine WpC.regionL ?_
  refine L.move hF rfl rfl rfl ?_
  obtain ⟨r1, hr1, H⟩ := bindS H
  refine L.call [false] [] [] 1 hF rfl rfl rfl ent124 rfl rfl rfl rfl rfl (Fimpl_Var_gives k  a0 r1 hr1) rfl ?_
  refine L.assign hF rfl rfl rfl ?_
  refine L.nil ?_
  refine WpC.seq ?_
  refine WpC.seq ?_
  refine WpC.regionL ?_
  refine L.move hF rfl rfl rfl ?_
  refine L.binS hF rfl rfl rfl rfl rfl ?_
  refine L.nil ?_
  refine WpC.cond rfl (fun hc => ?_) (fun hc => ?_)
  · replace H := condT hc H
    refine WpC.seq ?_
    refine WpC.regionL ?_
    refine L.assign hF rfl rfl rfl ?_
    refine L.nil ?_
    refine WpC.ret ?_
    cases H
    exact Leaves.ret rfl rfl rfl ⟨rfl, rfl⟩
  · replace H := condF hc H
    refine WpC.skip ?_
    refine WpC.seq ?_
    refine WpC.regionL ?_
    refine L.move hF rfl rfl rfl ?_
    obtain ⟨r2, hr2, H⟩ := bindS H
    refine L.call [false] [] [] 2 hF rfl rfl rfl ent273 rfl rfl rfl rfl rfl (Fimpl_Atom_gives k  r1 r2 hr2) rfl ?_
    refine L.assign hF rfl rfl rfl ?_
    refine L.nil ?_
    refine WpC.ret ?_
    cases H
    exact Leaves.ret rfl rfl rfl ⟨rfl, rfl⟩
/-! ### Fimpl_List -/
def Fimpl_List.l2 : Nat → (List UInt8) → (List (List UInt8)) → Int → Int → Option (List UInt8)
  | 0, _, _, _, _ => none
  | k2 + 1, v61, v62, v63, v64 => cond (decide (v64 < v63)) ((at? v62 v64).bind fun b69 => (Fimpl_TermOk k2 b69).bind fun r71 => cond (!r71) (some ([] : List UInt8)) (cond (decide (v61.length + b69.length ≤ 9223372036854775807)) ((Fimpl_List.l2 k2) (v61 ++ b69) v62 v63 (IntKind.i64.wrap (v64 + (1 : Int)))) none)) ((Fimpl_term k2 v61).bind fun r73 => some r73)
def Fimpl_List (k : Nat) (a0 : List (List UInt8)) : Option (List UInt8) := (Fimpl_Var k (a0.length : Int)).bind fun r1 => cond (decide (([108] : List UInt8).length + r1.length ≤ 9223372036854775807)) (Fimpl_List.l2 k (([108] : List UInt8) ++ r1) a0 (a0.length : Int) (0 : Int)) none
theorem ent228 : Enters Try.prog 228 := ⟨Try.f228, Try.func228, rfl, by decide⟩
set_option maxHeartbeats 8000000 in
set_option maxRecDepth 100000 in
theorem Fimpl_List_gives (k : Nat) (g0 : Bool) (a0 : List (List UInt8)) (r : List UInt8) (H : Fimpl_List k a0 = some r) : Gives Try.prog 228 [V.one (Cell.sl g0 (List.map eS a0))] [] [V.one (cS r)] [] := by
  refine Gives.intro Try.func228 rfl rfl rfl rfl ?_
  intro F hF hm
  unfold Fimpl_List at H
  obtain ⟨K, hK⟩ : ∃ K, k ≤ K := ⟨k, Nat.le_refl k⟩
  refine WpC.seq ?_
  refine WpC.regionL ?_
  refine L.assign hF rfl rfl rfl ?_
  refine L.nil ?_
  refine WpC.seq ?_
  refine WpC.regionL ?_
  refine L.move hF rfl rfl rfl ?_
  refine L.lenR (xs := a0) (e := eS) Try.underlying120 hF rfl rfl rfl rfl ?_
  obtain ⟨r1, hr1, H⟩ := bindS H
  refine L.call [false] [] [] 1 hF rfl rfl rfl ent124 rfl rfl rfl rfl rfl (Fimpl_Var_gives k  (a0.length : Int) r1 hr1) rfl ?_
  obtain ⟨h2, H⟩ := condG H
  refine L.catS hF rfl rfl rfl rfl (of_decide_eq_true h2) ?_
  refine L.assign hF rfl rfl rfl ?_
  refine L.nil ?_
  refine WpC.seq ?_
  refine WpC.seq ?_
  refine WpC.regionL ?_
  refine L.move hF rfl rfl rfl ?_
  refine L.lenR (xs := a0) (e := eS) Try.underlying120 hF rfl rfl rfl rfl ?_
  refine L.move hF rfl rfl rfl ?_
  refine L.nil ?_
  refine WpC.block ?_
  refine WpC.loopL (P := Try.prog) (fun n σ => ∃ v61 : List UInt8, ∃ v62 : List (List UInt8), ∃ v63 : Int, ∃ v64 : Int, n ≤ K ∧ Fimpl_List.l2 n v61 v62 v63 v64 = some r ∧ σ = mkSt [(3, one (cS v61)), (10, one (Cell.sl g0 (List.map eS v62))), (11, one (cI v63)), (12, one (cI v64))] [] [] 0) k ⟨_, ⟨(([108] : List UInt8) ++ r1), a0, (a0.length : Int), (0 : Int), by omega, H, rfl⟩, Le.mk [] hm rfl ⟨⟨_, rfl, rfl⟩, ⟨_, rfl, rfl⟩, ⟨_, rfl, rfl⟩, ⟨_, rfl, rfl⟩, trivial⟩ trivial trivial⟩ ?_
  clear H
  rintro k2 _ ⟨v61, v62, v63, v64, hk2, H, rfl⟩
  cases k2 with
  | zero => cases H
  | succ k2 =>
    rw [Fimpl_List.l2] at H
    refine WpC.seq ?_
    refine WpC.regionL ?_
    refine L.bin hF rfl rfl rfl rfl rfl rfl ?_
    refine L.nil ?_
    refine WpC.seq ?_
    refine WpC.cond rfl (fun hc => ?_) (fun hc => ?_)
    · replace H := condT hc H
      refine WpC.skip ?_
      refine WpC.seq ?_
      refine WpC.block ?_
      refine WpC.seq ?_
      refine WpC.regionL ?_
      obtain ⟨b69, hb69, H⟩ := bindS H
      refine L.idxR (xs := v62) (e := eS) Try.underlying120 info9 hF rfl rfl rfl rfl rfl hb69 rfl rfl ?_
      refine L.loadPe shape9 hF rfl rfl rfl rfl rfl ?_
      refine L.assign hF rfl rfl rfl ?_
      refine L.nil ?_
      refine WpC.seq ?_
      refine WpC.seq ?_
      refine WpC.regionL ?_
      refine L.move hF rfl rfl rfl ?_
      obtain ⟨r71, hr71, H⟩ := bindS H
      refine L.call [false] [] [] 0 hF rfl rfl rfl ent274 rfl rfl rfl rfl rfl (Fimpl_TermOk_gives k2  b69 r71 hr71) rfl ?_
      refine L.not hF rfl rfl rfl ?_
      refine L.nil ?_
      refine WpC.cond rfl (fun hc => ?_) (fun hc => ?_)
      · replace H := condT hc H
        refine WpC.seq ?_
        refine WpC.regionL ?_
        refine L.assign hF rfl rfl rfl ?_
        refine L.nil ?_
        refine WpC.ret ?_
        cases H
        exact Leaves.ret rfl rfl rfl ⟨rfl, rfl⟩
      · replace H := condF hc H
        refine WpC.skip ?_
        refine WpC.regionL ?_
        refine L.move hF rfl rfl rfl ?_
        refine L.move hF rfl rfl rfl ?_
        obtain ⟨h72, H⟩ := condG H
        refine L.catS hF rfl rfl rfl rfl (of_decide_eq_true h72) ?_
        refine L.assign hF rfl rfl rfl ?_
        refine L.nil ?_
        refine WpC.regionL ?_
        refine L.bin hF rfl rfl rfl rfl rfl rfl ?_
        refine L.move hF rfl rfl rfl ?_
        refine L.nil ?_
        exact ⟨k2, _, by omega, ⟨(v61 ++ b69), v62, v63, (IntKind.i64.wrap (v64 + (1 : Int))), by omega, H, rfl⟩, Le.mk [] hm rfl ⟨⟨_, rfl, rfl⟩, ⟨_, rfl, rfl⟩, ⟨_, rfl, rfl⟩, ⟨_, rfl, rfl⟩, trivial⟩ trivial trivial⟩
    · replace H := condF hc H
      refine WpC.exit ?_
      refine WpC.seq ?_
      refine WpC.regionL ?_
      refine L.move hF rfl rfl rfl ?_
      obtain ⟨r73, hr73, H⟩ := bindS H
      refine L.call [false] [] [] 0 hF rfl rfl rfl ent275 rfl rfl rfl rfl rfl (Fimpl_term_gives k2  v61 r73 hr73) rfl ?_
      refine L.assign hF rfl rfl rfl ?_
      refine L.nil ?_
      refine WpC.ret ?_
      cases H
      exact Leaves.ret rfl rfl rfl ⟨rfl, rfl⟩
/-! ### Fimpl_Nums -/
def Fimpl_Nums.l2 : Nat → (List (List UInt8)) → (List Int) → Int → Int → Option (List UInt8)
  | 0, _, _, _, _ => none
  | k2 + 1, v49, v50, v51, v52 => cond (decide (v52 < v51)) ((at? v50 v52).bind fun b56 => (Fimpl_Num k2 b56).bind fun r57 => cond (r57 == ([] : List UInt8)) (some ([] : List UInt8)) (cond (decide ((2 * (v49.length + ([r57] : List (List UInt8)).length) + 192) * 16 ≤ 281474976710656)) ((Fimpl_Nums.l2 k2) (v49 ++ ([r57] : List (List UInt8))) v50 v51 (IntKind.i64.wrap (v52 + (1 : Int)))) none)) ((Fimpl_List k2 v49).bind fun r59 => some r59)
def Fimpl_Nums (k : Nat) (a0 : List Int) : Option (List UInt8) := Fimpl_Nums.l2 k ([] : List (List UInt8)) a0 (a0.length : Int) (0 : Int)
theorem ent140 : Enters Try.prog 140 := ⟨Try.f140, Try.func140, rfl, by decide⟩
set_option maxHeartbeats 8000000 in
set_option maxRecDepth 100000 in
theorem Fimpl_Nums_gives (k : Nat) (g0 : Bool) (a0 : List Int) (r : List UInt8) (H : Fimpl_Nums k a0 = some r) : Gives Try.prog 140 [V.one (Cell.sl g0 (List.map eI a0))] [] [V.one (cS r)] [] := by
  refine Gives.intro Try.func140 rfl rfl rfl rfl ?_
  intro F hF hm
  unfold Fimpl_Nums at H
  obtain ⟨K, hK⟩ : ∃ K, k ≤ K := ⟨k, Nat.le_refl k⟩
  refine WpC.seq ?_
  refine WpC.regionL ?_
  refine L.assign hF rfl rfl rfl ?_
  refine L.nil ?_
  refine WpC.seq ?_
  refine WpC.regionL ?_
  refine L.buildSlice (e := eS) 1 ([] : List (List UInt8)) Try.underlying120 info9 rfl rfl rfl hF rfl rfl rfl rfl rfl rfl rfl rfl ?_
  refine L.assign hF rfl rfl rfl ?_
  refine L.nil ?_
  refine WpC.seq ?_
  refine WpC.seq ?_
  refine WpC.regionL ?_
  refine L.move hF rfl rfl rfl ?_
  refine L.lenR (xs := a0) (e := eI) Try.underlying24 hF rfl rfl rfl rfl ?_
  refine L.move hF rfl rfl rfl ?_
  refine L.nil ?_
  refine WpC.block ?_
  refine WpC.loopL (P := Try.prog) (fun n σ => ∃ v49 : List (List UInt8), ∃ v50 : List Int, ∃ v51 : Int, ∃ v52 : Int, n ≤ K ∧ Fimpl_Nums.l2 n v49 v50 v51 v52 = some r ∧ σ = mkSt [(3, one (Cell.own 0)), (8, one (Cell.sl g0 (List.map eI v50))), (9, one (cI v51)), (10, one (cI v52))] [(0, ⟨1, List.map eS v49⟩)] [] 1) k ⟨_, ⟨([] : List (List UInt8)), a0, (a0.length : Int), (0 : Int), by omega, H, rfl⟩, Le.mk [(0, 1)] hm rfl ⟨⟨_, rfl, rfl⟩, ⟨_, rfl, rfl⟩, ⟨_, rfl, rfl⟩, ⟨_, rfl, rfl⟩, trivial⟩ ⟨⟨_, rfl, rfl⟩, trivial⟩ trivial⟩ ?_
  clear H
  rintro k2 _ ⟨v49, v50, v51, v52, hk2, H, rfl⟩
  cases k2 with
  | zero => cases H
  | succ k2 =>
    rw [Fimpl_Nums.l2] at H
    refine WpC.seq ?_
    refine WpC.regionL ?_
    refine L.bin hF rfl rfl rfl rfl rfl rfl ?_
    refine L.nil ?_
    refine WpC.seq ?_
    refine WpC.cond rfl (fun hc => ?_) (fun hc => ?_)
    · replace H := condT hc H
      refine WpC.skip ?_
      refine WpC.seq ?_
      refine WpC.block ?_
      refine WpC.seq ?_
      refine WpC.regionL ?_
      obtain ⟨b56, hb56, H⟩ := bindS H
      refine L.idxR (xs := v50) (e := eI) Try.underlying24 info3 hF rfl rfl rfl rfl rfl hb56 rfl rfl ?_
      refine L.loadPe shape3 hF rfl rfl rfl rfl rfl ?_
      refine L.assign hF rfl rfl rfl ?_
      refine L.nil ?_
      refine WpC.seq ?_
      refine WpC.regionL ?_
      refine L.move hF rfl rfl rfl ?_
      obtain ⟨r57, hr57, H⟩ := bindS H
      refine L.call [false] [] [] 1 hF rfl rfl rfl ent227 rfl rfl rfl rfl rfl (Fimpl_Num_gives k2  b56 r57 hr57) rfl ?_
      refine L.assign hF rfl rfl rfl ?_
      refine L.nil ?_
      refine WpC.seq ?_
      refine WpC.seq ?_
      refine WpC.regionL ?_
      refine L.move hF rfl rfl rfl ?_
      refine L.binS hF rfl rfl rfl rfl rfl ?_
      refine L.nil ?_
      refine WpC.cond rfl (fun hc => ?_) (fun hc => ?_)
      · replace H := condT hc H
        refine WpC.seq ?_
        refine WpC.regionL ?_
        refine L.assign hF rfl rfl rfl ?_
        refine L.nil ?_
        refine WpC.ret ?_
        cases H
        exact Leaves.ret rfl rfl rfl ⟨rfl, rfl⟩
      · replace H := condF hc H
        refine WpC.skip ?_
        refine WpC.regionL ?_
        refine L.move hF rfl rfl rfl ?_
        refine L.move hF rfl rfl rfl ?_
        refine L.buildSlice (e := eS) 2 ([r57] : List (List UInt8)) Try.underlying120 info9 rfl rfl rfl hF rfl rfl rfl rfl rfl rfl rfl rfl ?_
        obtain ⟨h58, H⟩ := condG H
        refine L.append (xs := v49) (ys := ([r57] : List (List UInt8))) (e := eS) 3 Try.underlying120 info9 rfl rfl hF rfl rfl rfl rfl rfl rfl rfl rfl (fun _ => rfl) (fun _ _ h1 h2 => by cases h1; cases h2; rfl) ⟨_, Try.underlying120⟩ (of_decide_eq_true h58) rfl rfl ?_
        refine L.assign hF rfl rfl rfl ?_
        refine L.nil ?_
        refine WpC.regionL ?_
        refine L.bin hF rfl rfl rfl rfl rfl rfl ?_
        refine L.move hF rfl rfl rfl ?_
        refine L.nil ?_
        exact ⟨k2, _, by omega, ⟨(v49 ++ ([r57] : List (List UInt8))), v50, v51, (IntKind.i64.wrap (v52 + (1 : Int))), by omega, H, rfl⟩, Le.mk [(0, 3)] hm rfl ⟨⟨_, rfl, rfl⟩, ⟨_, rfl, rfl⟩, ⟨_, rfl, rfl⟩, ⟨_, rfl, rfl⟩, trivial⟩ ⟨⟨_, rfl, rfl⟩, trivial⟩ trivial⟩
    · replace H := condF hc H
      refine WpC.exit ?_
      refine WpC.seq ?_
      refine WpC.regionL ?_
      refine L.move hF rfl rfl rfl ?_
      obtain ⟨r59, hr59, H⟩ := bindS H
      refine L.call [false] [0] [] 1 hF rfl rfl rfl ent228 rfl rfl rfl rfl rfl (Fimpl_List_gives k2 false v49 r59 hr59) rfl ?_
      refine L.assign hF rfl rfl rfl ?_
      refine L.nil ?_
      refine WpC.ret ?_
      cases H
      exact Leaves.ret rfl rfl rfl ⟨rfl, rfl⟩
/-! ### Fimpl_ShowRest -/
def Fimpl_ShowRest (k : Nat) (a0 : Timpl_Rest) : Option (List UInt8) := (Fimpl_RestOk k a0).bind fun r2 => cond (!r2) (some ([] : List UInt8)) ((Fimpl_Nums k ([a0.Servers, a0.Ops, a0.End] : List Int)).bind fun r3 => some r3)
theorem ent282 : Enters Try.prog 282 := ⟨Try.f282, Try.func282, rfl, by decide⟩
set_option maxHeartbeats 8000000 in
set_option maxRecDepth 100000 in
theorem Fimpl_ShowRest_gives (k : Nat) (a0 : Timpl_Rest) (r : List UInt8) (H : Fimpl_ShowRest k a0 = some r) : Gives Try.prog 282 [V.agg [cI a0.Servers, cI a0.Ops, cI a0.End]] [] [V.one (cS r)] [] := by
  refine Gives.intro Try.func282 rfl rfl rfl rfl ?_
  intro F hF hm
  unfold Fimpl_ShowRest at H
  obtain ⟨K, hK⟩ : ∃ K, k ≤ K := ⟨k, Nat.le_refl k⟩
  refine WpC.seq ?_
  refine WpC.regionL ?_
  refine L.box 3 hF rfl rfl rfl rfl ?_
  refine L.assign hF rfl rfl rfl ?_
  refine L.nil ?_
  refine WpC.seq ?_
  refine WpC.seq ?_
  refine WpC.regionL ?_
  refine L.loadPtr shape74 hF rfl rfl rfl rfl rfl rfl ?_
  obtain ⟨r2, hr2, H⟩ := bindS H
  refine L.call [false] [] [] 4 hF rfl rfl rfl ent158 rfl rfl rfl rfl rfl (Fimpl_RestOk_gives k  a0 r2 hr2) rfl ?_
  refine L.not hF rfl rfl rfl ?_
  refine L.nil ?_
  refine WpC.cond rfl (fun hc => ?_) (fun hc => ?_)
  · replace H := condT hc H
    refine WpC.seq ?_
    refine WpC.regionL ?_
    refine L.assign hF rfl rfl rfl ?_
    refine L.nil ?_
    refine WpC.ret ?_
    cases H
    exact Leaves.ret rfl rfl rfl ⟨rfl, rfl⟩
  · replace H := condF hc H
    refine WpC.skip ?_
    refine WpC.seq ?_
    refine WpC.regionL ?_
    refine L.fieldAddr Try.underlying74 rfl info3 rfl hF rfl rfl rfl rfl rfl ?_
    refine L.loadPtr shape3 hF rfl rfl rfl rfl rfl rfl ?_
    refine L.fieldAddr Try.underlying74 rfl info3 rfl hF rfl rfl rfl rfl rfl ?_
    refine L.loadPtr shape3 hF rfl rfl rfl rfl rfl rfl ?_
    refine L.fieldAddr Try.underlying74 rfl info3 rfl hF rfl rfl rfl rfl rfl ?_
    refine L.loadPtr shape3 hF rfl rfl rfl rfl rfl rfl ?_
    refine L.buildSlice (e := eI) 5 ([a0.Servers, a0.Ops, a0.End] : List Int) Try.underlying24 info3 rfl rfl rfl hF rfl rfl rfl rfl rfl rfl rfl rfl ?_
    obtain ⟨r3, hr3, H⟩ := bindS H
    refine L.call [false] [5] [] 6 hF rfl rfl rfl ent140 rfl rfl rfl rfl rfl (Fimpl_Nums_gives k false ([a0.Servers, a0.Ops, a0.End] : List Int) r3 hr3) rfl ?_
    refine L.assign hF rfl rfl rfl ?_
    refine L.nil ?_
    refine WpC.ret ?_
    cases H
    exact Leaves.ret rfl rfl rfl ⟨rfl, rfl⟩
/-! ### Fimpl_Seal -/
def Fimpl_Seal (k : Nat) (a0 : Int) (a1 : List UInt8) : Option (List UInt8) := (Fimpl_TermOk k a1).bind fun r7 => cond (!r7) (some ([] : List UInt8)) ((Fimpl_isKey k a0).bind fun r8 => cond (!r8) (some ([] : List UInt8)) ((Fimpl_Var k a0).bind fun r9 => cond (decide (([115] : List UInt8).length + r9.length ≤ 9223372036854775807)) (cond (decide ((([115] : List UInt8) ++ r9).length + a1.length ≤ 9223372036854775807)) ((Fimpl_term k ((([115] : List UInt8) ++ r9) ++ a1)).bind fun r12 => some r12) none) none))
theorem ent280 : Enters Try.prog 280 := ⟨Try.f280, Try.func280, rfl, by decide⟩
set_option maxHeartbeats 8000000 in
set_option maxRecDepth 100000 in
theorem Fimpl_Seal_gives (k : Nat) (a0 : Int) (a1 : List UInt8) (r : List UInt8) (H : Fimpl_Seal k a0 a1 = some r) : Gives Try.prog 280 [V.one (cI a0), V.one (cS a1)] [] [V.one (cS r)] [] := by
  refine Gives.intro Try.func280 rfl rfl rfl rfl ?_
  intro F hF hm
  unfold Fimpl_Seal at H
  obtain ⟨K, hK⟩ : ∃ K, k ≤ K := ⟨k, Nat.le_refl k⟩
  refine WpC.seq ?_
  refine WpC.regionL ?_
  refine L.assign hF rfl rfl rfl ?_
  refine L.nil ?_
  refine WpC.seq ?_
  refine WpC.seq ?_
  refine WpC.regionL ?_
  refine L.move hF rfl rfl rfl ?_
  obtain ⟨r7, hr7, H⟩ := bindS H
  refine L.call [false] [] [] 2 hF rfl rfl rfl ent274 rfl rfl rfl rfl rfl (Fimpl_TermOk_gives k  a1 r7 hr7) rfl ?_
  refine L.not hF rfl rfl rfl ?_
  refine L.move hF rfl rfl rfl ?_
  refine L.split (fun hc => ?_) (fun hc => ?_)
  · replace H := condT hc H
    refine L.off hF rfl rfl ?_
    refine L.off hF rfl rfl ?_
    refine L.off hF rfl rfl ?_
    refine L.pick hF rfl rfl rfl rfl ?_
    refine L.nil ?_
    refine WpC.cond rfl (fun _ => ?_) (fun hc => by cases hc)
    refine WpC.seq ?_
    refine WpC.regionL ?_
    refine L.assign hF rfl rfl rfl ?_
    refine L.nil ?_
    refine WpC.ret ?_
    cases H
    exact Leaves.ret rfl rfl rfl ⟨rfl, rfl⟩
  · replace H := condF hc H
    refine L.move hF rfl rfl rfl ?_
    obtain ⟨r8, hr8, H⟩ := bindS H
    refine L.call [false] [] [] 3 hF rfl rfl rfl ent277 rfl rfl rfl rfl rfl (Fimpl_isKey_gives k  a0 r8 hr8) rfl ?_
    refine L.not hF rfl rfl rfl ?_
    refine L.pick hF rfl rfl rfl rfl ?_
    refine L.nil ?_
    refine WpC.cond rfl (fun hc => ?_) (fun hc => ?_)
    · replace H := condT hc H
      refine WpC.seq ?_
      refine WpC.regionL ?_
      refine L.assign hF rfl rfl rfl ?_
      refine L.nil ?_
      refine WpC.ret ?_
      cases H
      exact Leaves.ret rfl rfl rfl ⟨rfl, rfl⟩
    · replace H := condF hc H
      refine WpC.skip ?_
      refine WpC.seq ?_
      refine WpC.regionL ?_
      refine L.move hF rfl rfl rfl ?_
      obtain ⟨r9, hr9, H⟩ := bindS H
      refine L.call [false] [] [] 4 hF rfl rfl rfl ent124 rfl rfl rfl rfl rfl (Fimpl_Var_gives k  a0 r9 hr9) rfl ?_
      obtain ⟨h10, H⟩ := condG H
      refine L.catS hF rfl rfl rfl rfl (of_decide_eq_true h10) ?_
      refine L.move hF rfl rfl rfl ?_
      obtain ⟨h11, H⟩ := condG H
      refine L.catS hF rfl rfl rfl rfl (of_decide_eq_true h11) ?_
      obtain ⟨r12, hr12, H⟩ := bindS H
      refine L.call [false] [] [] 5 hF rfl rfl rfl ent275 rfl rfl rfl rfl rfl (Fimpl_term_gives k  ((([115] : List UInt8) ++ r9) ++ a1) r12 hr12) rfl ?_
      refine L.assign hF rfl rfl rfl ?_
      refine L.nil ?_
      refine WpC.ret ?_
      cases H
      exact Leaves.ret rfl rfl rfl ⟨rfl, rfl⟩
/-! ### Fimpl_ShowGrant -/
def Fimpl_ShowGrant (k : Nat) (a0 : Timpl_Grant) (a1 : Int) : Option (List UInt8) := (Fimpl_grantOk k a0).bind fun r2 => cond (!r2) (some ([] : List UInt8)) ((Fimpl_KeyTerm k a0.Key).bind fun r3 => (Fimpl_Nums k ([a0.Service, a0.Nonce] : List Int)).bind fun r4 => (Fimpl_ShowRest k (⟨a0.Rest.Servers, a0.Rest.Ops, a0.Rest.End⟩ : Timpl_Rest)).bind fun r5 => (Fimpl_List k ([r3, r4, r5] : List (List UInt8))).bind fun r6 => (Fimpl_Seal k a1 r6).bind fun r7 => some r7)
theorem ent240 : Enters Try.prog 240 := ⟨Try.f240, Try.func240, rfl, by decide⟩
set_option maxHeartbeats 8000000 in
set_option maxRecDepth 100000 in
theorem Fimpl_ShowGrant_gives (k : Nat) (a0 : Timpl_Grant) (a1 : Int) (r : List UInt8) (H : Fimpl_ShowGrant k a0 a1 = some r) : Gives Try.prog 240 [V.agg [cI a0.Key, cI a0.Service, cI a0.Nonce, cI a0.Rest.Servers, cI a0.Rest.Ops, cI a0.Rest.End], V.one (cI a1)] [] [V.one (cS r)] [] := by
  refine Gives.intro Try.func240 rfl rfl rfl rfl ?_
  intro F hF hm
  unfold Fimpl_ShowGrant at H
  obtain ⟨K, hK⟩ : ∃ K, k ≤ K := ⟨k, Nat.le_refl k⟩
  refine WpC.seq ?_
  refine WpC.regionL ?_
  refine L.box 7 hF rfl rfl rfl rfl ?_
  refine L.assign hF rfl rfl rfl ?_
  refine L.nil ?_
  refine WpC.seq ?_
  refine WpC.seq ?_
  refine WpC.regionL ?_
  refine L.loadPtr shape187 hF rfl rfl rfl rfl rfl rfl ?_
  obtain ⟨r2, hr2, H⟩ := bindS H
  refine L.call [false] [] [] 8 hF rfl rfl rfl ent279 rfl rfl rfl rfl rfl (Fimpl_grantOk_gives k  a0 r2 hr2) rfl ?_
  refine L.not hF rfl rfl rfl ?_
  refine L.nil ?_
  refine WpC.cond rfl (fun hc => ?_) (fun hc => ?_)
  · replace H := condT hc H
    refine WpC.seq ?_
    refine WpC.regionL ?_
    refine L.assign hF rfl rfl rfl ?_
    refine L.nil ?_
    refine WpC.ret ?_
    cases H
    exact Leaves.ret rfl rfl rfl ⟨rfl, rfl⟩
  · replace H := condF hc H
    refine WpC.skip ?_
    refine WpC.seq ?_
    obtain ⟨r3, hr3, H⟩ := bindS H
    obtain ⟨r4, hr4, H⟩ := bindS H
    obtain ⟨r5, hr5, H⟩ := bindS H
    obtain ⟨r6, hr6, H⟩ := bindS H
    obtain ⟨r7, hr7, H⟩ := bindS H
    refine A.begin mixed rfl rfl ?_
    intro W hI hO
    have n131071 : W 0 #[true, true, true, true, true, true, true, true, true, true, true, true, true, true, true, true, true] (mkSt [(4, one (cS r7))] [] [] 0) := by
      refine hI _ _ _ (A.done (by kernel_rfl) ?_)
      refine WpC.ret ?_
      cases H
      exact Leaves.ret rfl rfl rfl ⟨rfl, rfl⟩
    have n65535 : W 1 #[true, true, true, true, true, true, true, true, true, true, true, true, true, true, true, true, false] (mkSt [(4, one (cS ([] : List UInt8))), (23, one (cS r7))] [] [] 0) := by
      refine hI _ _ _ ?_
      refine A.take 16 rfl (by kernel_rfl) (by kernel_rfl) (by kernel_rfl) rfl (Ca.assign) (fun Q0 k0 => L.assign hF rfl rfl rfl (L.nil k0)) ?_
      exact A.on (hO _ _ _ n131071) (Le.mk [] hm rfl ⟨⟨_, rfl, rfl⟩, trivial⟩ trivial trivial)
    have n32767 : W 2 #[true, true, true, true, true, true, true, true, true, true, true, true, true, true, true, false, false] (mkSt [(4, one (cS ([] : List UInt8))), (8, one (cI a1)), (22, one (cS r6))] [] [] 0) := by
      refine hI _ _ _ ?_
      refine A.all [15] (by kernel_rfl) rfl ⟨⟨_, rfl, ?_⟩, trivial⟩
      · refine L.call [false, false] [] [] 0 hF rfl rfl rfl ent280 rfl rfl rfl rfl rfl (Fimpl_Seal_gives k  a1 r6 r7 hr7) rfl ?_
        refine L.nil ?_
        exact A.on (hO _ _ _ n65535) (Le.mk [] hm rfl ⟨⟨_, rfl, rfl⟩, ⟨_, rfl, rfl⟩, trivial⟩ trivial trivial)
    have n16383 : W 3 #[true, true, true, true, true, true, true, true, true, true, true, true, true, true, false, false, false] (mkSt [(4, one (cS ([] : List UInt8))), (8, one (cI a1)), (21, one (Cell.own 0))] [(0, ⟨1, List.map eS ([r3, r4, r5] : List (List UInt8))⟩)] [] 1) := by
      refine hI _ _ _ ?_
      refine A.all [14] (by kernel_rfl) rfl ⟨⟨_, rfl, ?_⟩, trivial⟩
      · refine L.call [false] [0] [] 1 hF rfl rfl rfl ent228 rfl rfl rfl rfl rfl (Fimpl_List_gives k false ([r3, r4, r5] : List (List UInt8)) r6 hr6) rfl ?_
        refine L.nil ?_
        exact A.on (hO _ _ _ n32767) (Le.mk [] hm rfl ⟨⟨_, rfl, rfl⟩, ⟨_, rfl, rfl⟩, ⟨_, rfl, rfl⟩, trivial⟩ trivial trivial)
    have n8191 : W 4 #[true, true, true, true, true, true, true, true, true, true, true, true, true, false, false, false, false] (mkSt [(4, one (cS ([] : List UInt8))), (8, one (cI a1)), (11, one (cS r3)), (17, one (cS r4)), (20, one (cS r5))] [] [] 0) := by
      refine hI _ _ _ ?_
      refine A.all [13] (by kernel_rfl) rfl ⟨⟨_, rfl, ?_⟩, trivial⟩
      · refine L.buildSlice (e := eS) 0 ([r3, r4, r5] : List (List UInt8)) Try.underlying120 info9 rfl rfl rfl hF rfl rfl rfl rfl rfl rfl rfl rfl ?_
        refine L.nil ?_
        exact A.on (hO _ _ _ n16383) (Le.mk [(0, 0)] hm rfl ⟨⟨_, rfl, rfl⟩, ⟨_, rfl, rfl⟩, ⟨_, rfl, rfl⟩, trivial⟩ ⟨⟨_, rfl, rfl⟩, trivial⟩ trivial)
    have n4095 : W 5 #[true, true, true, true, true, true, true, true, true, true, true, true, false, false, false, false, false] (mkSt [(4, one (cS ([] : List UInt8))), (8, one (cI a1)), (11, one (cS r3)), (17, one (cS r4)), (19, agg [cI a0.Rest.Servers, cI a0.Rest.Ops, cI a0.Rest.End])] [] [] 0) := by
      refine hI _ _ _ ?_
      refine A.all [12] (by kernel_rfl) rfl ⟨⟨_, rfl, ?_⟩, trivial⟩
      · refine L.call [false] [] [] 0 hF rfl rfl rfl ent282 rfl rfl rfl rfl rfl (Fimpl_ShowRest_gives k  (⟨a0.Rest.Servers, a0.Rest.Ops, a0.Rest.End⟩ : Timpl_Rest) r5 hr5) rfl ?_
        refine L.nil ?_
        exact A.on (hO _ _ _ n8191) (Le.mk [] hm rfl ⟨⟨_, rfl, rfl⟩, ⟨_, rfl, rfl⟩, ⟨_, rfl, rfl⟩, ⟨_, rfl, rfl⟩, ⟨_, rfl, rfl⟩, trivial⟩ trivial trivial)
    have n2047 : W 6 #[true, true, true, true, true, true, true, true, true, true, true, false, false, false, false, false, false] (mkSt [(4, one (cS ([] : List UInt8))), (8, one (cI a1)), (11, one (cS r3)), (17, one (cS r4)), (18, one (Cell.ptr 0 3))] [] [(0, [cI a0.Key, cI a0.Service, cI a0.Nonce, cI a0.Rest.Servers, cI a0.Rest.Ops, cI a0.Rest.End])] 1) := by
      refine hI _ _ _ ?_
      refine A.all [11] (by kernel_rfl) rfl ⟨⟨_, rfl, ?_⟩, trivial⟩
      · refine L.loadPtr shape74 hF rfl rfl rfl rfl rfl rfl ?_
        refine L.nil ?_
        exact A.on (hO _ _ _ n4095) (Le.mk [] hm rfl ⟨⟨_, rfl, rfl⟩, ⟨_, rfl, rfl⟩, ⟨_, rfl, rfl⟩, ⟨_, rfl, rfl⟩, ⟨_, rfl, rfl⟩, trivial⟩ trivial trivial)
    have n3583 : W 6 #[true, true, true, true, true, true, true, true, true, false, true, true, false, false, false, false, false] (mkSt [(4, one (cS ([] : List UInt8))), (8, one (cI a1)), (11, one (cS r3)), (16, one (Cell.own 0)), (19, agg [cI a0.Rest.Servers, cI a0.Rest.Ops, cI a0.Rest.End])] [(0, ⟨1, List.map eI ([a0.Service, a0.Nonce] : List Int)⟩)] [] 1) := by
      refine hI _ _ _ ?_
      refine A.all [9] (by kernel_rfl) rfl ⟨⟨_, rfl, ?_⟩, trivial⟩
      · refine L.call [false] [0] [] 1 hF rfl rfl rfl ent140 rfl rfl rfl rfl rfl (Fimpl_Nums_gives k false ([a0.Service, a0.Nonce] : List Int) r4 hr4) rfl ?_
        refine L.nil ?_
        exact A.on (hO _ _ _ n4095) (Le.mk [] hm rfl ⟨⟨_, rfl, rfl⟩, ⟨_, rfl, rfl⟩, ⟨_, rfl, rfl⟩, ⟨_, rfl, rfl⟩, ⟨_, rfl, rfl⟩, trivial⟩ trivial trivial)
    have n1535 : W 7 #[true, true, true, true, true, true, true, true, true, false, true, false, false, false, false, false, false] (mkSt [(4, one (cS ([] : List UInt8))), (8, one (cI a1)), (11, one (cS r3)), (16, one (Cell.own 0)), (18, one (Cell.ptr 1 3))] [(0, ⟨1, List.map eI ([a0.Service, a0.Nonce] : List Int)⟩)] [(1, [cI a0.Key, cI a0.Service, cI a0.Nonce, cI a0.Rest.Servers, cI a0.Rest.Ops, cI a0.Rest.End])] 2) := by
      refine hI _ _ _ ?_
      refine A.all [9, 11] (by kernel_rfl) rfl ⟨⟨_, rfl, ?_⟩, ⟨_, rfl, ?_⟩, trivial⟩
      · refine L.call [false] [0] [] 2 hF rfl rfl rfl ent140 rfl rfl rfl rfl rfl (Fimpl_Nums_gives k false ([a0.Service, a0.Nonce] : List Int) r4 hr4) rfl ?_
        refine L.nil ?_
        exact A.on (hO _ _ _ n2047) (Le.mk [(0, 1)] hm rfl ⟨⟨_, rfl, rfl⟩, ⟨_, rfl, rfl⟩, ⟨_, rfl, rfl⟩, ⟨_, rfl, rfl⟩, ⟨_, rfl, rfl⟩, trivial⟩ trivial ⟨⟨_, _, rfl, rfl, rfl⟩, trivial⟩)
      · refine L.loadPtr shape74 hF rfl rfl rfl rfl rfl rfl ?_
        refine L.nil ?_
        exact A.on (hO _ _ _ n3583) (Le.mk [(0, 0)] hm rfl ⟨⟨_, rfl, rfl⟩, ⟨_, rfl, rfl⟩, ⟨_, rfl, rfl⟩, ⟨_, rfl, rfl⟩, ⟨_, rfl, rfl⟩, trivial⟩ ⟨⟨_, rfl, rfl⟩, trivial⟩ trivial)
    have n3327 : W 7 #[true, true, true, true, true, true, true, true, false, false, true, true, false, false, false, false, false] (mkSt [(4, one (cS ([] : List UInt8))), (8, one (cI a1)), (11, one (cS r3)), (13, one (cI a0.Service)), (15, one (cI a0.Nonce)), (19, agg [cI a0.Rest.Servers, cI a0.Rest.Ops, cI a0.Rest.End])] [] [] 0) := by
      refine hI _ _ _ ?_
      refine A.all [8] (by kernel_rfl) rfl ⟨⟨_, rfl, ?_⟩, trivial⟩
      · refine L.buildSlice (e := eI) 0 ([a0.Service, a0.Nonce] : List Int) Try.underlying24 info3 rfl rfl rfl hF rfl rfl rfl rfl rfl rfl rfl rfl ?_
        refine L.nil ?_
        exact A.on (hO _ _ _ n3583) (Le.mk [(0, 0)] hm rfl ⟨⟨_, rfl, rfl⟩, ⟨_, rfl, rfl⟩, ⟨_, rfl, rfl⟩, ⟨_, rfl, rfl⟩, ⟨_, rfl, rfl⟩, trivial⟩ ⟨⟨_, rfl, rfl⟩, trivial⟩ trivial)
    have n3575 : W 7 #[true, true, true, false, true, true, true, true, true, false, true, true, false, false, false, false, false] (mkSt [(4, one (cS ([] : List UInt8))), (8, one (cI a1)), (10, one (cI a0.Key)), (16, one (Cell.own 0)), (19, agg [cI a0.Rest.Servers, cI a0.Rest.Ops, cI a0.Rest.End])] [(0, ⟨1, List.map eI ([a0.Service, a0.Nonce] : List Int)⟩)] [] 1) := by
      refine hI _ _ _ ?_
      refine A.all [3] (by kernel_rfl) rfl ⟨⟨_, rfl, ?_⟩, trivial⟩
      · refine L.call [false] [] [] 1 hF rfl rfl rfl ent281 rfl rfl rfl rfl rfl (Fimpl_KeyTerm_gives k  a0.Key r3 hr3) rfl ?_
        refine L.nil ?_
        exact A.on (hO _ _ _ n3583) (Le.mk [(0, 0)] hm rfl ⟨⟨_, rfl, rfl⟩, ⟨_, rfl, rfl⟩, ⟨_, rfl, rfl⟩, ⟨_, rfl, rfl⟩, ⟨_, rfl, rfl⟩, trivial⟩ ⟨⟨_, rfl, rfl⟩, trivial⟩ trivial)
    have n1527 : W 8 #[true, true, true, false, true, true, true, true, true, false, true, false, false, false, false, false, false] (mkSt [(4, one (cS ([] : List UInt8))), (8, one (cI a1)), (10, one (cI a0.Key)), (16, one (Cell.own 0)), (18, one (Cell.ptr 1 3))] [(0, ⟨1, List.map eI ([a0.Service, a0.Nonce] : List Int)⟩)] [(1, [cI a0.Key, cI a0.Service, cI a0.Nonce, cI a0.Rest.Servers, cI a0.Rest.Ops, cI a0.Rest.End])] 2) := by
      refine hI _ _ _ ?_
      refine A.all [3, 11] (by kernel_rfl) rfl ⟨⟨_, rfl, ?_⟩, ⟨_, rfl, ?_⟩, trivial⟩
      · refine L.call [false] [] [] 2 hF rfl rfl rfl ent281 rfl rfl rfl rfl rfl (Fimpl_KeyTerm_gives k  a0.Key r3 hr3) rfl ?_
        refine L.nil ?_
        exact A.on (hO _ _ _ n1535) (Le.mk [(0, 0), (1, 1)] hm rfl ⟨⟨_, rfl, rfl⟩, ⟨_, rfl, rfl⟩, ⟨_, rfl, rfl⟩, ⟨_, rfl, rfl⟩, ⟨_, rfl, rfl⟩, trivial⟩ ⟨⟨_, rfl, rfl⟩, trivial⟩ ⟨⟨_, _, rfl, rfl, rfl⟩, trivial⟩)
      · refine L.loadPtr shape74 hF rfl rfl rfl rfl rfl rfl ?_
        refine L.nil ?_
        exact A.on (hO _ _ _ n3575) (Le.mk [(0, 0)] hm rfl ⟨⟨_, rfl, rfl⟩, ⟨_, rfl, rfl⟩, ⟨_, rfl, rfl⟩, ⟨_, rfl, rfl⟩, ⟨_, rfl, rfl⟩, trivial⟩ ⟨⟨_, rfl, rfl⟩, trivial⟩ trivial)
    have n1279 : W 8 #[true, true, true, true, true, true, true, true, false, false, true, false, false, false, false, false, false] (mkSt [(4, one (cS ([] : List UInt8))), (8, one (cI a1)), (11, one (cS r3)), (13, one (cI a0.Service)), (15, one (cI a0.Nonce)), (18, one (Cell.ptr 0 3))] [] [(0, [cI a0.Key, cI a0.Service, cI a0.Nonce, cI a0.Rest.Servers, cI a0.Rest.Ops, cI a0.Rest.End])] 1) := by
      refine hI _ _ _ ?_
      refine A.all [8, 11] (by kernel_rfl) rfl ⟨⟨_, rfl, ?_⟩, ⟨_, rfl, ?_⟩, trivial⟩
      · refine L.buildSlice (e := eI) 1 ([a0.Service, a0.Nonce] : List Int) Try.underlying24 info3 rfl rfl rfl hF rfl rfl rfl rfl rfl rfl rfl rfl ?_
        refine L.nil ?_
        exact A.on (hO _ _ _ n1535) (Le.mk [(0, 1), (1, 0)] hm rfl ⟨⟨_, rfl, rfl⟩, ⟨_, rfl, rfl⟩, ⟨_, rfl, rfl⟩, ⟨_, rfl, rfl⟩, ⟨_, rfl, rfl⟩, trivial⟩ ⟨⟨_, rfl, rfl⟩, trivial⟩ ⟨⟨_, _, rfl, rfl, rfl⟩, trivial⟩)
      · refine L.loadPtr shape74 hF rfl rfl rfl rfl rfl rfl ?_
        refine L.nil ?_
        exact A.on (hO _ _ _ n3327) (Le.mk [] hm rfl ⟨⟨_, rfl, rfl⟩, ⟨_, rfl, rfl⟩, ⟨_, rfl, rfl⟩, ⟨_, rfl, rfl⟩, ⟨_, rfl, rfl⟩, ⟨_, rfl, rfl⟩, trivial⟩ trivial trivial)
    have n3319 : W 8 #[true, true, true, false, true, true, true, true, false, false, true, true, false, false, false, false, false] (mkSt [(4, one (cS ([] : List UInt8))), (8, one (cI a1)), (10, one (cI a0.Key)), (13, one (cI a0.Service)), (15, one (cI a0.Nonce)), (19, agg [cI a0.Rest.Servers, cI a0.Rest.Ops, cI a0.Rest.End])] [] [] 0) := by
      refine hI _ _ _ ?_
      refine A.all [3, 8] (by kernel_rfl) rfl ⟨⟨_, rfl, ?_⟩, ⟨_, rfl, ?_⟩, trivial⟩
      · refine L.call [false] [] [] 0 hF rfl rfl rfl ent281 rfl rfl rfl rfl rfl (Fimpl_KeyTerm_gives k  a0.Key r3 hr3) rfl ?_
        refine L.nil ?_
        exact A.on (hO _ _ _ n3327) (Le.mk [] hm rfl ⟨⟨_, rfl, rfl⟩, ⟨_, rfl, rfl⟩, ⟨_, rfl, rfl⟩, ⟨_, rfl, rfl⟩, ⟨_, rfl, rfl⟩, ⟨_, rfl, rfl⟩, trivial⟩ trivial trivial)
      · refine L.buildSlice (e := eI) 0 ([a0.Service, a0.Nonce] : List Int) Try.underlying24 info3 rfl rfl rfl hF rfl rfl rfl rfl rfl rfl rfl rfl ?_
        refine L.nil ?_
        exact A.on (hO _ _ _ n3575) (Le.mk [(0, 0)] hm rfl ⟨⟨_, rfl, rfl⟩, ⟨_, rfl, rfl⟩, ⟨_, rfl, rfl⟩, ⟨_, rfl, rfl⟩, ⟨_, rfl, rfl⟩, trivial⟩ ⟨⟨_, rfl, rfl⟩, trivial⟩ trivial)
    have n3295 : W 8 #[true, true, true, true, true, false, true, true, false, false, true, true, false, false, false, false, false] (mkSt [(4, one (cS ([] : List UInt8))), (8, one (cI a1)), (11, one (cS r3)), (12, one (Cell.ptr 0 1)), (15, one (cI a0.Nonce)), (19, agg [cI a0.Rest.Servers, cI a0.Rest.Ops, cI a0.Rest.End])] [] [(0, [cI a0.Key, cI a0.Service, cI a0.Nonce, cI a0.Rest.Servers, cI a0.Rest.Ops, cI a0.Rest.End])] 1) := by
      refine hI _ _ _ ?_
      refine A.all [5] (by kernel_rfl) rfl ⟨⟨_, rfl, ?_⟩, trivial⟩
      · refine L.loadPtr shape3 hF rfl rfl rfl rfl rfl rfl ?_
        refine L.nil ?_
        exact A.on (hO _ _ _ n3327) (Le.mk [] hm rfl ⟨⟨_, rfl, rfl⟩, ⟨_, rfl, rfl⟩, ⟨_, rfl, rfl⟩, ⟨_, rfl, rfl⟩, ⟨_, rfl, rfl⟩, ⟨_, rfl, rfl⟩, trivial⟩ trivial trivial)
    have n3199 : W 8 #[true, true, true, true, true, true, true, false, false, false, true, true, false, false, false, false, false] (mkSt [(4, one (cS ([] : List UInt8))), (8, one (cI a1)), (11, one (cS r3)), (13, one (cI a0.Service)), (14, one (Cell.ptr 0 2)), (19, agg [cI a0.Rest.Servers, cI a0.Rest.Ops, cI a0.Rest.End])] [] [(0, [cI a0.Key, cI a0.Service, cI a0.Nonce, cI a0.Rest.Servers, cI a0.Rest.Ops, cI a0.Rest.End])] 1) := by
      refine hI _ _ _ ?_
      refine A.all [7] (by kernel_rfl) rfl ⟨⟨_, rfl, ?_⟩, trivial⟩
      · refine L.loadPtr shape3 hF rfl rfl rfl rfl rfl rfl ?_
        refine L.nil ?_
        exact A.on (hO _ _ _ n3327) (Le.mk [] hm rfl ⟨⟨_, rfl, rfl⟩, ⟨_, rfl, rfl⟩, ⟨_, rfl, rfl⟩, ⟨_, rfl, rfl⟩, ⟨_, rfl, rfl⟩, ⟨_, rfl, rfl⟩, trivial⟩ trivial trivial)
    have n3571 : W 8 #[true, true, false, false, true, true, true, true, true, false, true, true, false, false, false, false, false] (mkSt [(4, one (cS ([] : List UInt8))), (8, one (cI a1)), (9, one (Cell.ptr 0 0)), (16, one (Cell.own 1)), (19, agg [cI a0.Rest.Servers, cI a0.Rest.Ops, cI a0.Rest.End])] [(1, ⟨1, List.map eI ([a0.Service, a0.Nonce] : List Int)⟩)] [(0, [cI a0.Key, cI a0.Service, cI a0.Nonce, cI a0.Rest.Servers, cI a0.Rest.Ops, cI a0.Rest.End])] 2) := by
      refine hI _ _ _ ?_
      refine A.all [2] (by kernel_rfl) rfl ⟨⟨_, rfl, ?_⟩, trivial⟩
      · refine L.loadPtr shape3 hF rfl rfl rfl rfl rfl rfl ?_
        refine L.nil ?_
        exact A.on (hO _ _ _ n3575) (Le.mk [(0, 1)] hm rfl ⟨⟨_, rfl, rfl⟩, ⟨_, rfl, rfl⟩, ⟨_, rfl, rfl⟩, ⟨_, rfl, rfl⟩, ⟨_, rfl, rfl⟩, trivial⟩ ⟨⟨_, rfl, rfl⟩, trivial⟩ trivial)
    have n1151 : W 9 #[true, true, true, true, true, true, true, false, false, false, true, false, false, false, false, false, false] (mkSt [(4, one (cS ([] : List UInt8))), (8, one (cI a1)), (11, one (cS r3)), (13, one (cI a0.Service)), (14, one (Cell.ptr 0 2)), (18, one (Cell.ptr 0 3))] [] [(0, [cI a0.Key, cI a0.Service, cI a0.Nonce, cI a0.Rest.Servers, cI a0.Rest.Ops, cI a0.Rest.End])] 1) := by
      refine hI _ _ _ ?_
      refine A.all [7, 11] (by kernel_rfl) rfl ⟨⟨_, rfl, ?_⟩, ⟨_, rfl, ?_⟩, trivial⟩
      · refine L.loadPtr shape3 hF rfl rfl rfl rfl rfl rfl ?_
        refine L.nil ?_
        exact A.on (hO _ _ _ n1279) (Le.mk [(0, 0)] hm rfl ⟨⟨_, rfl, rfl⟩, ⟨_, rfl, rfl⟩, ⟨_, rfl, rfl⟩, ⟨_, rfl, rfl⟩, ⟨_, rfl, rfl⟩, ⟨_, rfl, rfl⟩, trivial⟩ trivial ⟨⟨_, _, rfl, rfl, rfl⟩, trivial⟩)
      · refine L.loadPtr shape74 hF rfl rfl rfl rfl rfl rfl ?_
        refine L.nil ?_
        exact A.on (hO _ _ _ n3199) (Le.mk [(0, 0)] hm rfl ⟨⟨_, rfl, rfl⟩, ⟨_, rfl, rfl⟩, ⟨_, rfl, rfl⟩, ⟨_, rfl, rfl⟩, ⟨_, rfl, rfl⟩, ⟨_, rfl, rfl⟩, trivial⟩ trivial ⟨⟨_, _, rfl, rfl, rfl⟩, trivial⟩)
    have n3191 : W 9 #[true, true, true, false, true, true, true, false, false, false, true, true, false, false, false, false, false] (mkSt [(4, one (cS ([] : List UInt8))), (8, one (cI a1)), (10, one (cI a0.Key)), (13, one (cI a0.Service)), (14, one (Cell.ptr 0 2)), (19, agg [cI a0.Rest.Servers, cI a0.Rest.Ops, cI a0.Rest.End])] [] [(0, [cI a0.Key, cI a0.Service, cI a0.Nonce, cI a0.Rest.Servers, cI a0.Rest.Ops, cI a0.Rest.End])] 1) := by
      refine hI _ _ _ ?_
      refine A.all [3, 7] (by kernel_rfl) rfl ⟨⟨_, rfl, ?_⟩, ⟨_, rfl, ?_⟩, trivial⟩
      · refine L.call [false] [] [] 1 hF rfl rfl rfl ent281 rfl rfl rfl rfl rfl (Fimpl_KeyTerm_gives k  a0.Key r3 hr3) rfl ?_
        refine L.nil ?_
        exact A.on (hO _ _ _ n3199) (Le.mk [(0, 0)] hm rfl ⟨⟨_, rfl, rfl⟩, ⟨_, rfl, rfl⟩, ⟨_, rfl, rfl⟩, ⟨_, rfl, rfl⟩, ⟨_, rfl, rfl⟩, ⟨_, rfl, rfl⟩, trivial⟩ trivial ⟨⟨_, _, rfl, rfl, rfl⟩, trivial⟩)
      · refine L.loadPtr shape3 hF rfl rfl rfl rfl rfl rfl ?_
        refine L.nil ?_
        exact A.on (hO _ _ _ n3319) (Le.mk [] hm rfl ⟨⟨_, rfl, rfl⟩, ⟨_, rfl, rfl⟩, ⟨_, rfl, rfl⟩, ⟨_, rfl, rfl⟩, ⟨_, rfl, rfl⟩, ⟨_, rfl, rfl⟩, trivial⟩ trivial trivial)
    have n3287 : W 9 #[true, true, true, false, true, false, true, true, false, false, true, true, false, false, false, false, false] (mkSt [(4, one (cS ([] : List UInt8))), (8, one (cI a1)), (10, one (cI a0.Key)), (12, one (Cell.ptr 0 1)), (15, one (cI a0.Nonce)), (19, agg [cI a0.Rest.Servers, cI a0.Rest.Ops, cI a0.Rest.End])] [] [(0, [cI a0.Key, cI a0.Service, cI a0.Nonce, cI a0.Rest.Servers, cI a0.Rest.Ops, cI a0.Rest.End])] 1) := by
      refine hI _ _ _ ?_
      refine A.all [3, 5] (by kernel_rfl) rfl ⟨⟨_, rfl, ?_⟩, ⟨_, rfl, ?_⟩, trivial⟩
      · refine L.call [false] [] [] 1 hF rfl rfl rfl ent281 rfl rfl rfl rfl rfl (Fimpl_KeyTerm_gives k  a0.Key r3 hr3) rfl ?_
        refine L.nil ?_
        exact A.on (hO _ _ _ n3295) (Le.mk [(0, 0)] hm rfl ⟨⟨_, rfl, rfl⟩, ⟨_, rfl, rfl⟩, ⟨_, rfl, rfl⟩, ⟨_, rfl, rfl⟩, ⟨_, rfl, rfl⟩, ⟨_, rfl, rfl⟩, trivial⟩ trivial ⟨⟨_, _, rfl, rfl, rfl⟩, trivial⟩)
      · refine L.loadPtr shape3 hF rfl rfl rfl rfl rfl rfl ?_
        refine L.nil ?_
        exact A.on (hO _ _ _ n3319) (Le.mk [] hm rfl ⟨⟨_, rfl, rfl⟩, ⟨_, rfl, rfl⟩, ⟨_, rfl, rfl⟩, ⟨_, rfl, rfl⟩, ⟨_, rfl, rfl⟩, ⟨_, rfl, rfl⟩, trivial⟩ trivial trivial)
    have n3167 : W 9 #[true, true, true, true, true, false, true, false, false, false, true, true, false, false, false, false, false] (mkSt [(4, one (cS ([] : List UInt8))), (8, one (cI a1)), (11, one (cS r3)), (12, one (Cell.ptr 0 1)), (14, one (Cell.ptr 0 2)), (19, agg [cI a0.Rest.Servers, cI a0.Rest.Ops, cI a0.Rest.End])] [] [(0, [cI a0.Key, cI a0.Service, cI a0.Nonce, cI a0.Rest.Servers, cI a0.Rest.Ops, cI a0.Rest.End])] 1) := by
      refine hI _ _ _ ?_
      refine A.all [5, 7] (by kernel_rfl) rfl ⟨⟨_, rfl, ?_⟩, ⟨_, rfl, ?_⟩, trivial⟩
      · refine L.loadPtr shape3 hF rfl rfl rfl rfl rfl rfl ?_
        refine L.nil ?_
        exact A.on (hO _ _ _ n3199) (Le.mk [(0, 0)] hm rfl ⟨⟨_, rfl, rfl⟩, ⟨_, rfl, rfl⟩, ⟨_, rfl, rfl⟩, ⟨_, rfl, rfl⟩, ⟨_, rfl, rfl⟩, ⟨_, rfl, rfl⟩, trivial⟩ trivial ⟨⟨_, _, rfl, rfl, rfl⟩, trivial⟩)
      · refine L.loadPtr shape3 hF rfl rfl rfl rfl rfl rfl ?_
        refine L.nil ?_
        exact A.on (hO _ _ _ n3295) (Le.mk [(0, 0)] hm rfl ⟨⟨_, rfl, rfl⟩, ⟨_, rfl, rfl⟩, ⟨_, rfl, rfl⟩, ⟨_, rfl, rfl⟩, ⟨_, rfl, rfl⟩, ⟨_, rfl, rfl⟩, trivial⟩ trivial ⟨⟨_, _, rfl, rfl, rfl⟩, trivial⟩)
    have n1247 : W 9 #[true, true, true, true, true, false, true, true, false, false, true, false, false, false, false, false, false] (mkSt [(4, one (cS ([] : List UInt8))), (8, one (cI a1)), (11, one (cS r3)), (12, one (Cell.ptr 0 1)), (15, one (cI a0.Nonce)), (18, one (Cell.ptr 0 3))] [] [(0, [cI a0.Key, cI a0.Service, cI a0.Nonce, cI a0.Rest.Servers, cI a0.Rest.Ops, cI a0.Rest.End])] 1) := by
      refine hI _ _ _ ?_
      refine A.all [5, 11] (by kernel_rfl) rfl ⟨⟨_, rfl, ?_⟩, ⟨_, rfl, ?_⟩, trivial⟩
      · refine L.loadPtr shape3 hF rfl rfl rfl rfl rfl rfl ?_
        refine L.nil ?_
        exact A.on (hO _ _ _ n1279) (Le.mk [(0, 0)] hm rfl ⟨⟨_, rfl, rfl⟩, ⟨_, rfl, rfl⟩, ⟨_, rfl, rfl⟩, ⟨_, rfl, rfl⟩, ⟨_, rfl, rfl⟩, ⟨_, rfl, rfl⟩, trivial⟩ trivial ⟨⟨_, _, rfl, rfl, rfl⟩, trivial⟩)
      · refine L.loadPtr shape74 hF rfl rfl rfl rfl rfl rfl ?_
        refine L.nil ?_
        exact A.on (hO _ _ _ n3295) (Le.mk [(0, 0)] hm rfl ⟨⟨_, rfl, rfl⟩, ⟨_, rfl, rfl⟩, ⟨_, rfl, rfl⟩, ⟨_, rfl, rfl⟩, ⟨_, rfl, rfl⟩, ⟨_, rfl, rfl⟩, trivial⟩ trivial ⟨⟨_, _, rfl, rfl, rfl⟩, trivial⟩)
    have n1271 : W 9 #[true, true, true, false, true, true, true, true, false, false, true, false, false, false, false, false, false] (mkSt [(4, one (cS ([] : List UInt8))), (8, one (cI a1)), (10, one (cI a0.Key)), (13, one (cI a0.Service)), (15, one (cI a0.Nonce)), (18, one (Cell.ptr 0 3))] [] [(0, [cI a0.Key, cI a0.Service, cI a0.Nonce, cI a0.Rest.Servers, cI a0.Rest.Ops, cI a0.Rest.End])] 1) := by
      refine hI _ _ _ ?_
      refine A.all [3, 8, 11] (by kernel_rfl) rfl ⟨⟨_, rfl, ?_⟩, ⟨_, rfl, ?_⟩, ⟨_, rfl, ?_⟩, trivial⟩
      · refine L.call [false] [] [] 1 hF rfl rfl rfl ent281 rfl rfl rfl rfl rfl (Fimpl_KeyTerm_gives k  a0.Key r3 hr3) rfl ?_
        refine L.nil ?_
        exact A.on (hO _ _ _ n1279) (Le.mk [(0, 0)] hm rfl ⟨⟨_, rfl, rfl⟩, ⟨_, rfl, rfl⟩, ⟨_, rfl, rfl⟩, ⟨_, rfl, rfl⟩, ⟨_, rfl, rfl⟩, ⟨_, rfl, rfl⟩, trivial⟩ trivial ⟨⟨_, _, rfl, rfl, rfl⟩, trivial⟩)
      · refine L.buildSlice (e := eI) 1 ([a0.Service, a0.Nonce] : List Int) Try.underlying24 info3 rfl rfl rfl hF rfl rfl rfl rfl rfl rfl rfl rfl ?_
        refine L.nil ?_
        exact A.on (hO _ _ _ n1527) (Le.mk [(0, 1), (1, 0)] hm rfl ⟨⟨_, rfl, rfl⟩, ⟨_, rfl, rfl⟩, ⟨_, rfl, rfl⟩, ⟨_, rfl, rfl⟩, ⟨_, rfl, rfl⟩, trivial⟩ ⟨⟨_, rfl, rfl⟩, trivial⟩ ⟨⟨_, _, rfl, rfl, rfl⟩, trivial⟩)
      · refine L.loadPtr shape74 hF rfl rfl rfl rfl rfl rfl ?_
        refine L.nil ?_
        exact A.on (hO _ _ _ n3319) (Le.mk [] hm rfl ⟨⟨_, rfl, rfl⟩, ⟨_, rfl, rfl⟩, ⟨_, rfl, rfl⟩, ⟨_, rfl, rfl⟩, ⟨_, rfl, rfl⟩, ⟨_, rfl, rfl⟩, trivial⟩ trivial trivial)
    have n3315 : W 9 #[true, true, false, false, true, true, true, true, false, false, true, true, false, false, false, false, false] (mkSt [(4, one (cS ([] : List UInt8))), (8, one (cI a1)), (9, one (Cell.ptr 0 0)), (13, one (cI a0.Service)), (15, one (cI a0.Nonce)), (19, agg [cI a0.Rest.Servers, cI a0.Rest.Ops, cI a0.Rest.End])] [] [(0, [cI a0.Key, cI a0.Service, cI a0.Nonce, cI a0.Rest.Servers, cI a0.Rest.Ops, cI a0.Rest.End])] 1) := by
      refine hI _ _ _ ?_
      refine A.all [2, 8] (by kernel_rfl) rfl ⟨⟨_, rfl, ?_⟩, ⟨_, rfl, ?_⟩, trivial⟩
      · refine L.loadPtr shape3 hF rfl rfl rfl rfl rfl rfl ?_
        refine L.nil ?_
        exact A.on (hO _ _ _ n3319) (Le.mk [] hm rfl ⟨⟨_, rfl, rfl⟩, ⟨_, rfl, rfl⟩, ⟨_, rfl, rfl⟩, ⟨_, rfl, rfl⟩, ⟨_, rfl, rfl⟩, ⟨_, rfl, rfl⟩, trivial⟩ trivial trivial)
      · refine L.buildSlice (e := eI) 1 ([a0.Service, a0.Nonce] : List Int) Try.underlying24 info3 rfl rfl rfl hF rfl rfl rfl rfl rfl rfl rfl rfl ?_
        refine L.nil ?_
        exact A.on (hO _ _ _ n3571) (Le.mk [(0, 0), (1, 1)] hm rfl ⟨⟨_, rfl, rfl⟩, ⟨_, rfl, rfl⟩, ⟨_, rfl, rfl⟩, ⟨_, rfl, rfl⟩, ⟨_, rfl, rfl⟩, trivial⟩ ⟨⟨_, rfl, rfl⟩, trivial⟩ ⟨⟨_, _, rfl, rfl, rfl⟩, trivial⟩)
    have n1523 : W 9 #[true, true, false, false, true, true, true, true, true, false, true, false, false, false, false, false, false] (mkSt [(4, one (cS ([] : List UInt8))), (8, one (cI a1)), (9, one (Cell.ptr 0 0)), (16, one (Cell.own 1)), (18, one (Cell.ptr 0 3))] [(1, ⟨1, List.map eI ([a0.Service, a0.Nonce] : List Int)⟩)] [(0, [cI a0.Key, cI a0.Service, cI a0.Nonce, cI a0.Rest.Servers, cI a0.Rest.Ops, cI a0.Rest.End])] 2) := by
      refine hI _ _ _ ?_
      refine A.all [2, 11] (by kernel_rfl) rfl ⟨⟨_, rfl, ?_⟩, ⟨_, rfl, ?_⟩, trivial⟩
      · refine L.loadPtr shape3 hF rfl rfl rfl rfl rfl rfl ?_
        refine L.nil ?_
        exact A.on (hO _ _ _ n1527) (Le.mk [(0, 1), (1, 0)] hm rfl ⟨⟨_, rfl, rfl⟩, ⟨_, rfl, rfl⟩, ⟨_, rfl, rfl⟩, ⟨_, rfl, rfl⟩, ⟨_, rfl, rfl⟩, trivial⟩ ⟨⟨_, rfl, rfl⟩, trivial⟩ ⟨⟨_, _, rfl, rfl, rfl⟩, trivial⟩)
      · refine L.loadPtr shape74 hF rfl rfl rfl rfl rfl rfl ?_
        refine L.nil ?_
        exact A.on (hO _ _ _ n3571) (Le.mk [(0, 0), (1, 1)] hm rfl ⟨⟨_, rfl, rfl⟩, ⟨_, rfl, rfl⟩, ⟨_, rfl, rfl⟩, ⟨_, rfl, rfl⟩, ⟨_, rfl, rfl⟩, trivial⟩ ⟨⟨_, rfl, rfl⟩, trivial⟩ ⟨⟨_, _, rfl, rfl, rfl⟩, trivial⟩)
    have n3159 : W 10 #[true, true, true, false, true, false, true, false, false, false, true, true, false, false, false, false, false] (mkSt [(4, one (cS ([] : List UInt8))), (8, one (cI a1)), (10, one (cI a0.Key)), (12, one (Cell.ptr 0 1)), (14, one (Cell.ptr 0 2)), (19, agg [cI a0.Rest.Servers, cI a0.Rest.Ops, cI a0.Rest.End])] [] [(0, [cI a0.Key, cI a0.Service, cI a0.Nonce, cI a0.Rest.Servers, cI a0.Rest.Ops, cI a0.Rest.End])] 1) := by
      refine hI _ _ _ ?_
      refine A.all [3, 5, 7] (by kernel_rfl) rfl ⟨⟨_, rfl, ?_⟩, ⟨_, rfl, ?_⟩, ⟨_, rfl, ?_⟩, trivial⟩
      · refine L.call [false] [] [] 1 hF rfl rfl rfl ent281 rfl rfl rfl rfl rfl (Fimpl_KeyTerm_gives k  a0.Key r3 hr3) rfl ?_
        refine L.nil ?_
        exact A.on (hO _ _ _ n3167) (Le.mk [(0, 0)] hm rfl ⟨⟨_, rfl, rfl⟩, ⟨_, rfl, rfl⟩, ⟨_, rfl, rfl⟩, ⟨_, rfl, rfl⟩, ⟨_, rfl, rfl⟩, ⟨_, rfl, rfl⟩, trivial⟩ trivial ⟨⟨_, _, rfl, rfl, rfl⟩, trivial⟩)
      · refine L.loadPtr shape3 hF rfl rfl rfl rfl rfl rfl ?_
        refine L.nil ?_
        exact A.on (hO _ _ _ n3191) (Le.mk [(0, 0)] hm rfl ⟨⟨_, rfl, rfl⟩, ⟨_, rfl, rfl⟩, ⟨_, rfl, rfl⟩, ⟨_, rfl, rfl⟩, ⟨_, rfl, rfl⟩, ⟨_, rfl, rfl⟩, trivial⟩ trivial ⟨⟨_, _, rfl, rfl, rfl⟩, trivial⟩)
      · refine L.loadPtr shape3 hF rfl rfl rfl rfl rfl rfl ?_
        refine L.nil ?_
        exact A.on (hO _ _ _ n3287) (Le.mk [(0, 0)] hm rfl ⟨⟨_, rfl, rfl⟩, ⟨_, rfl, rfl⟩, ⟨_, rfl, rfl⟩, ⟨_, rfl, rfl⟩, ⟨_, rfl, rfl⟩, ⟨_, rfl, rfl⟩, trivial⟩ trivial ⟨⟨_, _, rfl, rfl, rfl⟩, trivial⟩)
    have n3283 : W 10 #[true, true, false, false, true, false, true, true, false, false, true, true, false, false, false, false, false] (mkSt [(4, one (cS ([] : List UInt8))), (8, one (cI a1)), (9, one (Cell.ptr 0 0)), (12, one (Cell.ptr 0 1)), (15, one (cI a0.Nonce)), (19, agg [cI a0.Rest.Servers, cI a0.Rest.Ops, cI a0.Rest.End])] [] [(0, [cI a0.Key, cI a0.Service, cI a0.Nonce, cI a0.Rest.Servers, cI a0.Rest.Ops, cI a0.Rest.End])] 1) := by
      refine hI _ _ _ ?_
      refine A.all [2, 5] (by kernel_rfl) rfl ⟨⟨_, rfl, ?_⟩, ⟨_, rfl, ?_⟩, trivial⟩
      · refine L.loadPtr shape3 hF rfl rfl rfl rfl rfl rfl ?_
        refine L.nil ?_
        exact A.on (hO _ _ _ n3287) (Le.mk [(0, 0)] hm rfl ⟨⟨_, rfl, rfl⟩, ⟨_, rfl, rfl⟩, ⟨_, rfl, rfl⟩, ⟨_, rfl, rfl⟩, ⟨_, rfl, rfl⟩, ⟨_, rfl, rfl⟩, trivial⟩ trivial ⟨⟨_, _, rfl, rfl, rfl⟩, trivial⟩)
      · refine L.loadPtr shape3 hF rfl rfl rfl rfl rfl rfl ?_
        refine L.nil ?_
        exact A.on (hO _ _ _ n3315) (Le.mk [(0, 0)] hm rfl ⟨⟨_, rfl, rfl⟩, ⟨_, rfl, rfl⟩, ⟨_, rfl, rfl⟩, ⟨_, rfl, rfl⟩, ⟨_, rfl, rfl⟩, ⟨_, rfl, rfl⟩, trivial⟩ trivial ⟨⟨_, _, rfl, rfl, rfl⟩, trivial⟩)
    have n1239 : W 10 #[true, true, true, false, true, false, true, true, false, false, true, false, false, false, false, false, false] (mkSt [(4, one (cS ([] : List UInt8))), (8, one (cI a1)), (10, one (cI a0.Key)), (12, one (Cell.ptr 0 1)), (15, one (cI a0.Nonce)), (18, one (Cell.ptr 0 3))] [] [(0, [cI a0.Key, cI a0.Service, cI a0.Nonce, cI a0.Rest.Servers, cI a0.Rest.Ops, cI a0.Rest.End])] 1) := by
      refine hI _ _ _ ?_
      refine A.all [3, 5, 11] (by kernel_rfl) rfl ⟨⟨_, rfl, ?_⟩, ⟨_, rfl, ?_⟩, ⟨_, rfl, ?_⟩, trivial⟩
      · refine L.call [false] [] [] 1 hF rfl rfl rfl ent281 rfl rfl rfl rfl rfl (Fimpl_KeyTerm_gives k  a0.Key r3 hr3) rfl ?_
        refine L.nil ?_
        exact A.on (hO _ _ _ n1247) (Le.mk [(0, 0)] hm rfl ⟨⟨_, rfl, rfl⟩, ⟨_, rfl, rfl⟩, ⟨_, rfl, rfl⟩, ⟨_, rfl, rfl⟩, ⟨_, rfl, rfl⟩, ⟨_, rfl, rfl⟩, trivial⟩ trivial ⟨⟨_, _, rfl, rfl, rfl⟩, trivial⟩)
      · refine L.loadPtr shape3 hF rfl rfl rfl rfl rfl rfl ?_
        refine L.nil ?_
        exact A.on (hO _ _ _ n1271) (Le.mk [(0, 0)] hm rfl ⟨⟨_, rfl, rfl⟩, ⟨_, rfl, rfl⟩, ⟨_, rfl, rfl⟩, ⟨_, rfl, rfl⟩, ⟨_, rfl, rfl⟩, ⟨_, rfl, rfl⟩, trivial⟩ trivial ⟨⟨_, _, rfl, rfl, rfl⟩, trivial⟩)
      · refine L.loadPtr shape74 hF rfl rfl rfl rfl rfl rfl ?_
        refine L.nil ?_
        exact A.on (hO _ _ _ n3287) (Le.mk [(0, 0)] hm rfl ⟨⟨_, rfl, rfl⟩, ⟨_, rfl, rfl⟩, ⟨_, rfl, rfl⟩, ⟨_, rfl, rfl⟩, ⟨_, rfl, rfl⟩, ⟨_, rfl, rfl⟩, trivial⟩ trivial ⟨⟨_, _, rfl, rfl, rfl⟩, trivial⟩)
    have n1143 : W 10 #[true, true, true, false, true, true, true, false, false, false, true, false, false, false, false, false, false] (mkSt [(4, one (cS ([] : List UInt8))), (8, one (cI a1)), (10, one (cI a0.Key)), (13, one (cI a0.Service)), (14, one (Cell.ptr 0 2)), (18, one (Cell.ptr 0 3))] [] [(0, [cI a0.Key, cI a0.Service, cI a0.Nonce, cI a0.Rest.Servers, cI a0.Rest.Ops, cI a0.Rest.End])] 1) := by
      refine hI _ _ _ ?_
      refine A.all [3, 7, 11] (by kernel_rfl) rfl ⟨⟨_, rfl, ?_⟩, ⟨_, rfl, ?_⟩, ⟨_, rfl, ?_⟩, trivial⟩
      · refine L.call [false] [] [] 1 hF rfl rfl rfl ent281 rfl rfl rfl rfl rfl (Fimpl_KeyTerm_gives k  a0.Key r3 hr3) rfl ?_
        refine L.nil ?_
        exact A.on (hO _ _ _ n1151) (Le.mk [(0, 0)] hm rfl ⟨⟨_, rfl, rfl⟩, ⟨_, rfl, rfl⟩, ⟨_, rfl, rfl⟩, ⟨_, rfl, rfl⟩, ⟨_, rfl, rfl⟩, ⟨_, rfl, rfl⟩, trivial⟩ trivial ⟨⟨_, _, rfl, rfl, rfl⟩, trivial⟩)
      · refine L.loadPtr shape3 hF rfl rfl rfl rfl rfl rfl ?_
        refine L.nil ?_
        exact A.on (hO _ _ _ n1271) (Le.mk [(0, 0)] hm rfl ⟨⟨_, rfl, rfl⟩, ⟨_, rfl, rfl⟩, ⟨_, rfl, rfl⟩, ⟨_, rfl, rfl⟩, ⟨_, rfl, rfl⟩, ⟨_, rfl, rfl⟩, trivial⟩ trivial ⟨⟨_, _, rfl, rfl, rfl⟩, trivial⟩)
      · refine L.loadPtr shape74 hF rfl rfl rfl rfl rfl rfl ?_
        refine L.nil ?_
        exact A.on (hO _ _ _ n3191) (Le.mk [(0, 0)] hm rfl ⟨⟨_, rfl, rfl⟩, ⟨_, rfl, rfl⟩, ⟨_, rfl, rfl⟩, ⟨_, rfl, rfl⟩, ⟨_, rfl, rfl⟩, ⟨_, rfl, rfl⟩, trivial⟩ trivial ⟨⟨_, _, rfl, rfl, rfl⟩, trivial⟩)
    have n1119 : W 10 #[true, true, true, true, true, false, true, false, false, false, true, false, false, false, false, false, false] (mkSt [(4, one (cS ([] : List UInt8))), (8, one (cI a1)), (11, one (cS r3)), (12, one (Cell.ptr 0 1)), (14, one (Cell.ptr 0 2)), (18, one (Cell.ptr 0 3))] [] [(0, [cI a0.Key, cI a0.Service, cI a0.Nonce, cI a0.Rest.Servers, cI a0.Rest.Ops, cI a0.Rest.End])] 1) := by
      refine hI _ _ _ ?_
      refine A.all [5, 7, 11] (by kernel_rfl) rfl ⟨⟨_, rfl, ?_⟩, ⟨_, rfl, ?_⟩, ⟨_, rfl, ?_⟩, trivial⟩
      · refine L.loadPtr shape3 hF rfl rfl rfl rfl rfl rfl ?_
        refine L.nil ?_
        exact A.on (hO _ _ _ n1151) (Le.mk [(0, 0)] hm rfl ⟨⟨_, rfl, rfl⟩, ⟨_, rfl, rfl⟩, ⟨_, rfl, rfl⟩, ⟨_, rfl, rfl⟩, ⟨_, rfl, rfl⟩, ⟨_, rfl, rfl⟩, trivial⟩ trivial ⟨⟨_, _, rfl, rfl, rfl⟩, trivial⟩)
      · refine L.loadPtr shape3 hF rfl rfl rfl rfl rfl rfl ?_
        refine L.nil ?_
        exact A.on (hO _ _ _ n1247) (Le.mk [(0, 0)] hm rfl ⟨⟨_, rfl, rfl⟩, ⟨_, rfl, rfl⟩, ⟨_, rfl, rfl⟩, ⟨_, rfl, rfl⟩, ⟨_, rfl, rfl⟩, ⟨_, rfl, rfl⟩, trivial⟩ trivial ⟨⟨_, _, rfl, rfl, rfl⟩, trivial⟩)
      · refine L.loadPtr shape74 hF rfl rfl rfl rfl rfl rfl ?_
        refine L.nil ?_
        exact A.on (hO _ _ _ n3167) (Le.mk [(0, 0)] hm rfl ⟨⟨_, rfl, rfl⟩, ⟨_, rfl, rfl⟩, ⟨_, rfl, rfl⟩, ⟨_, rfl, rfl⟩, ⟨_, rfl, rfl⟩, ⟨_, rfl, rfl⟩, trivial⟩ trivial ⟨⟨_, _, rfl, rfl, rfl⟩, trivial⟩)
    have n3187 : W 10 #[true, true, false, false, true, true, true, false, false, false, true, true, false, false, false, false, false] (mkSt [(4, one (cS ([] : List UInt8))), (8, one (cI a1)), (9, one (Cell.ptr 0 0)), (13, one (cI a0.Service)), (14, one (Cell.ptr 0 2)), (19, agg [cI a0.Rest.Servers, cI a0.Rest.Ops, cI a0.Rest.End])] [] [(0, [cI a0.Key, cI a0.Service, cI a0.Nonce, cI a0.Rest.Servers, cI a0.Rest.Ops, cI a0.Rest.End])] 1) := by
      refine hI _ _ _ ?_
      refine A.all [2, 7] (by kernel_rfl) rfl ⟨⟨_, rfl, ?_⟩, ⟨_, rfl, ?_⟩, trivial⟩
      · refine L.loadPtr shape3 hF rfl rfl rfl rfl rfl rfl ?_
        refine L.nil ?_
        exact A.on (hO _ _ _ n3191) (Le.mk [(0, 0)] hm rfl ⟨⟨_, rfl, rfl⟩, ⟨_, rfl, rfl⟩, ⟨_, rfl, rfl⟩, ⟨_, rfl, rfl⟩, ⟨_, rfl, rfl⟩, ⟨_, rfl, rfl⟩, trivial⟩ trivial ⟨⟨_, _, rfl, rfl, rfl⟩, trivial⟩)
      · refine L.loadPtr shape3 hF rfl rfl rfl rfl rfl rfl ?_
        refine L.nil ?_
        exact A.on (hO _ _ _ n3315) (Le.mk [(0, 0)] hm rfl ⟨⟨_, rfl, rfl⟩, ⟨_, rfl, rfl⟩, ⟨_, rfl, rfl⟩, ⟨_, rfl, rfl⟩, ⟨_, rfl, rfl⟩, ⟨_, rfl, rfl⟩, trivial⟩ trivial ⟨⟨_, _, rfl, rfl, rfl⟩, trivial⟩)
    have n1267 : W 10 #[true, true, false, false, true, true, true, true, false, false, true, false, false, false, false, false, false] (mkSt [(4, one (cS ([] : List UInt8))), (8, one (cI a1)), (9, one (Cell.ptr 0 0)), (13, one (cI a0.Service)), (15, one (cI a0.Nonce)), (18, one (Cell.ptr 0 3))] [] [(0, [cI a0.Key, cI a0.Service, cI a0.Nonce, cI a0.Rest.Servers, cI a0.Rest.Ops, cI a0.Rest.End])] 1) := by
      refine hI _ _ _ ?_
      refine A.all [2, 8, 11] (by kernel_rfl) rfl ⟨⟨_, rfl, ?_⟩, ⟨_, rfl, ?_⟩, ⟨_, rfl, ?_⟩, trivial⟩
      · refine L.loadPtr shape3 hF rfl rfl rfl rfl rfl rfl ?_
        refine L.nil ?_
        exact A.on (hO _ _ _ n1271) (Le.mk [(0, 0)] hm rfl ⟨⟨_, rfl, rfl⟩, ⟨_, rfl, rfl⟩, ⟨_, rfl, rfl⟩, ⟨_, rfl, rfl⟩, ⟨_, rfl, rfl⟩, ⟨_, rfl, rfl⟩, trivial⟩ trivial ⟨⟨_, _, rfl, rfl, rfl⟩, trivial⟩)
      · refine L.buildSlice (e := eI) 1 ([a0.Service, a0.Nonce] : List Int) Try.underlying24 info3 rfl rfl rfl hF rfl rfl rfl rfl rfl rfl rfl rfl ?_
        refine L.nil ?_
        exact A.on (hO _ _ _ n1523) (Le.mk [(0, 0), (1, 1)] hm rfl ⟨⟨_, rfl, rfl⟩, ⟨_, rfl, rfl⟩, ⟨_, rfl, rfl⟩, ⟨_, rfl, rfl⟩, ⟨_, rfl, rfl⟩, trivial⟩ ⟨⟨_, rfl, rfl⟩, trivial⟩ ⟨⟨_, _, rfl, rfl, rfl⟩, trivial⟩)
      · refine L.loadPtr shape74 hF rfl rfl rfl rfl rfl rfl ?_
        refine L.nil ?_
        exact A.on (hO _ _ _ n3315) (Le.mk [(0, 0)] hm rfl ⟨⟨_, rfl, rfl⟩, ⟨_, rfl, rfl⟩, ⟨_, rfl, rfl⟩, ⟨_, rfl, rfl⟩, ⟨_, rfl, rfl⟩, ⟨_, rfl, rfl⟩, trivial⟩ trivial ⟨⟨_, _, rfl, rfl, rfl⟩, trivial⟩)
    have n1235 : W 11 #[true, true, false, false, true, false, true, true, false, false, true, false, false, false, false, false, false] (mkSt [(4, one (cS ([] : List UInt8))), (8, one (cI a1)), (9, one (Cell.ptr 0 0)), (12, one (Cell.ptr 0 1)), (15, one (cI a0.Nonce)), (18, one (Cell.ptr 0 3))] [] [(0, [cI a0.Key, cI a0.Service, cI a0.Nonce, cI a0.Rest.Servers, cI a0.Rest.Ops, cI a0.Rest.End])] 1) := by
      refine hI _ _ _ ?_
      refine A.all [2, 5, 11] (by kernel_rfl) rfl ⟨⟨_, rfl, ?_⟩, ⟨_, rfl, ?_⟩, ⟨_, rfl, ?_⟩, trivial⟩
      · refine L.loadPtr shape3 hF rfl rfl rfl rfl rfl rfl ?_
        refine L.nil ?_
        exact A.on (hO _ _ _ n1239) (Le.mk [(0, 0)] hm rfl ⟨⟨_, rfl, rfl⟩, ⟨_, rfl, rfl⟩, ⟨_, rfl, rfl⟩, ⟨_, rfl, rfl⟩, ⟨_, rfl, rfl⟩, ⟨_, rfl, rfl⟩, trivial⟩ trivial ⟨⟨_, _, rfl, rfl, rfl⟩, trivial⟩)
      · refine L.loadPtr shape3 hF rfl rfl rfl rfl rfl rfl ?_
        refine L.nil ?_
        exact A.on (hO _ _ _ n1267) (Le.mk [(0, 0)] hm rfl ⟨⟨_, rfl, rfl⟩, ⟨_, rfl, rfl⟩, ⟨_, rfl, rfl⟩, ⟨_, rfl, rfl⟩, ⟨_, rfl, rfl⟩, ⟨_, rfl, rfl⟩, trivial⟩ trivial ⟨⟨_, _, rfl, rfl, rfl⟩, trivial⟩)
      · refine L.loadPtr shape74 hF rfl rfl rfl rfl rfl rfl ?_
        refine L.nil ?_
        exact A.on (hO _ _ _ n3283) (Le.mk [(0, 0)] hm rfl ⟨⟨_, rfl, rfl⟩, ⟨_, rfl, rfl⟩, ⟨_, rfl, rfl⟩, ⟨_, rfl, rfl⟩, ⟨_, rfl, rfl⟩, ⟨_, rfl, rfl⟩, trivial⟩ trivial ⟨⟨_, _, rfl, rfl, rfl⟩, trivial⟩)
    have n3155 : W 11 #[true, true, false, false, true, false, true, false, false, false, true, true, false, false, false, false, false] (mkSt [(4, one (cS ([] : List UInt8))), (8, one (cI a1)), (9, one (Cell.ptr 0 0)), (12, one (Cell.ptr 0 1)), (14, one (Cell.ptr 0 2)), (19, agg [cI a0.Rest.Servers, cI a0.Rest.Ops, cI a0.Rest.End])] [] [(0, [cI a0.Key, cI a0.Service, cI a0.Nonce, cI a0.Rest.Servers, cI a0.Rest.Ops, cI a0.Rest.End])] 1) := by
      refine hI _ _ _ ?_
      refine A.all [2, 5, 7] (by kernel_rfl) rfl ⟨⟨_, rfl, ?_⟩, ⟨_, rfl, ?_⟩, ⟨_, rfl, ?_⟩, trivial⟩
      · refine L.loadPtr shape3 hF rfl rfl rfl rfl rfl rfl ?_
        refine L.nil ?_
        exact A.on (hO _ _ _ n3159) (Le.mk [(0, 0)] hm rfl ⟨⟨_, rfl, rfl⟩, ⟨_, rfl, rfl⟩, ⟨_, rfl, rfl⟩, ⟨_, rfl, rfl⟩, ⟨_, rfl, rfl⟩, ⟨_, rfl, rfl⟩, trivial⟩ trivial ⟨⟨_, _, rfl, rfl, rfl⟩, trivial⟩)
      · refine L.loadPtr shape3 hF rfl rfl rfl rfl rfl rfl ?_
        refine L.nil ?_
        exact A.on (hO _ _ _ n3187) (Le.mk [(0, 0)] hm rfl ⟨⟨_, rfl, rfl⟩, ⟨_, rfl, rfl⟩, ⟨_, rfl, rfl⟩, ⟨_, rfl, rfl⟩, ⟨_, rfl, rfl⟩, ⟨_, rfl, rfl⟩, trivial⟩ trivial ⟨⟨_, _, rfl, rfl, rfl⟩, trivial⟩)
      · refine L.loadPtr shape3 hF rfl rfl rfl rfl rfl rfl ?_
        refine L.nil ?_
        exact A.on (hO _ _ _ n3283) (Le.mk [(0, 0)] hm rfl ⟨⟨_, rfl, rfl⟩, ⟨_, rfl, rfl⟩, ⟨_, rfl, rfl⟩, ⟨_, rfl, rfl⟩, ⟨_, rfl, rfl⟩, ⟨_, rfl, rfl⟩, trivial⟩ trivial ⟨⟨_, _, rfl, rfl, rfl⟩, trivial⟩)
    have n1111 : W 11 #[true, true, true, false, true, false, true, false, false, false, true, false, false, false, false, false, false] (mkSt [(4, one (cS ([] : List UInt8))), (8, one (cI a1)), (10, one (cI a0.Key)), (12, one (Cell.ptr 0 1)), (14, one (Cell.ptr 0 2)), (18, one (Cell.ptr 0 3))] [] [(0, [cI a0.Key, cI a0.Service, cI a0.Nonce, cI a0.Rest.Servers, cI a0.Rest.Ops, cI a0.Rest.End])] 1) := by
      refine hI _ _ _ ?_
      refine A.all [3, 5, 7, 11] (by kernel_rfl) rfl ⟨⟨_, rfl, ?_⟩, ⟨_, rfl, ?_⟩, ⟨_, rfl, ?_⟩, ⟨_, rfl, ?_⟩, trivial⟩
      · refine L.call [false] [] [] 1 hF rfl rfl rfl ent281 rfl rfl rfl rfl rfl (Fimpl_KeyTerm_gives k  a0.Key r3 hr3) rfl ?_
        refine L.nil ?_
        exact A.on (hO _ _ _ n1119) (Le.mk [(0, 0)] hm rfl ⟨⟨_, rfl, rfl⟩, ⟨_, rfl, rfl⟩, ⟨_, rfl, rfl⟩, ⟨_, rfl, rfl⟩, ⟨_, rfl, rfl⟩, ⟨_, rfl, rfl⟩, trivial⟩ trivial ⟨⟨_, _, rfl, rfl, rfl⟩, trivial⟩)
      · refine L.loadPtr shape3 hF rfl rfl rfl rfl rfl rfl ?_
        refine L.nil ?_
        exact A.on (hO _ _ _ n1143) (Le.mk [(0, 0)] hm rfl ⟨⟨_, rfl, rfl⟩, ⟨_, rfl, rfl⟩, ⟨_, rfl, rfl⟩, ⟨_, rfl, rfl⟩, ⟨_, rfl, rfl⟩, ⟨_, rfl, rfl⟩, trivial⟩ trivial ⟨⟨_, _, rfl, rfl, rfl⟩, trivial⟩)
      · refine L.loadPtr shape3 hF rfl rfl rfl rfl rfl rfl ?_
        refine L.nil ?_
        exact A.on (hO _ _ _ n1239) (Le.mk [(0, 0)] hm rfl ⟨⟨_, rfl, rfl⟩, ⟨_, rfl, rfl⟩, ⟨_, rfl, rfl⟩, ⟨_, rfl, rfl⟩, ⟨_, rfl, rfl⟩, ⟨_, rfl, rfl⟩, trivial⟩ trivial ⟨⟨_, _, rfl, rfl, rfl⟩, trivial⟩)
      · refine L.loadPtr shape74 hF rfl rfl rfl rfl rfl rfl ?_
        refine L.nil ?_
        exact A.on (hO _ _ _ n3159) (Le.mk [(0, 0)] hm rfl ⟨⟨_, rfl, rfl⟩, ⟨_, rfl, rfl⟩, ⟨_, rfl, rfl⟩, ⟨_, rfl, rfl⟩, ⟨_, rfl, rfl⟩, ⟨_, rfl, rfl⟩, trivial⟩ trivial ⟨⟨_, _, rfl, rfl, rfl⟩, trivial⟩)
    have n1139 : W 11 #[true, true, false, false, true, true, true, false, false, false, true, false, false, false, false, false, false] (mkSt [(4, one (cS ([] : List UInt8))), (8, one (cI a1)), (9, one (Cell.ptr 0 0)), (13, one (cI a0.Service)), (14, one (Cell.ptr 0 2)), (18, one (Cell.ptr 0 3))] [] [(0, [cI a0.Key, cI a0.Service, cI a0.Nonce, cI a0.Rest.Servers, cI a0.Rest.Ops, cI a0.Rest.End])] 1) := by
      refine hI _ _ _ ?_
      refine A.all [2, 7, 11] (by kernel_rfl) rfl ⟨⟨_, rfl, ?_⟩, ⟨_, rfl, ?_⟩, ⟨_, rfl, ?_⟩, trivial⟩
      · refine L.loadPtr shape3 hF rfl rfl rfl rfl rfl rfl ?_
        refine L.nil ?_
        exact A.on (hO _ _ _ n1143) (Le.mk [(0, 0)] hm rfl ⟨⟨_, rfl, rfl⟩, ⟨_, rfl, rfl⟩, ⟨_, rfl, rfl⟩, ⟨_, rfl, rfl⟩, ⟨_, rfl, rfl⟩, ⟨_, rfl, rfl⟩, trivial⟩ trivial ⟨⟨_, _, rfl, rfl, rfl⟩, trivial⟩)
      · refine L.loadPtr shape3 hF rfl rfl rfl rfl rfl rfl ?_
        refine L.nil ?_
        exact A.on (hO _ _ _ n1267) (Le.mk [(0, 0)] hm rfl ⟨⟨_, rfl, rfl⟩, ⟨_, rfl, rfl⟩, ⟨_, rfl, rfl⟩, ⟨_, rfl, rfl⟩, ⟨_, rfl, rfl⟩, ⟨_, rfl, rfl⟩, trivial⟩ trivial ⟨⟨_, _, rfl, rfl, rfl⟩, trivial⟩)
      · refine L.loadPtr shape74 hF rfl rfl rfl rfl rfl rfl ?_
        refine L.nil ?_
        exact A.on (hO _ _ _ n3187) (Le.mk [(0, 0)] hm rfl ⟨⟨_, rfl, rfl⟩, ⟨_, rfl, rfl⟩, ⟨_, rfl, rfl⟩, ⟨_, rfl, rfl⟩, ⟨_, rfl, rfl⟩, ⟨_, rfl, rfl⟩, trivial⟩ trivial ⟨⟨_, _, rfl, rfl, rfl⟩, trivial⟩)
    have n1107 : W 12 #[true, true, false, false, true, false, true, false, false, false, true, false, false, false, false, false, false] (mkSt [(4, one (cS ([] : List UInt8))), (8, one (cI a1)), (9, one (Cell.ptr 0 0)), (12, one (Cell.ptr 0 1)), (14, one (Cell.ptr 0 2)), (18, one (Cell.ptr 0 3))] [] [(0, [cI a0.Key, cI a0.Service, cI a0.Nonce, cI a0.Rest.Servers, cI a0.Rest.Ops, cI a0.Rest.End])] 1) := by
      refine hI _ _ _ ?_
      refine A.all [2, 5, 7, 11] (by kernel_rfl) rfl ⟨⟨_, rfl, ?_⟩, ⟨_, rfl, ?_⟩, ⟨_, rfl, ?_⟩, ⟨_, rfl, ?_⟩, trivial⟩
      · refine L.loadPtr shape3 hF rfl rfl rfl rfl rfl rfl ?_
        refine L.nil ?_
        exact A.on (hO _ _ _ n1111) (Le.mk [(0, 0)] hm rfl ⟨⟨_, rfl, rfl⟩, ⟨_, rfl, rfl⟩, ⟨_, rfl, rfl⟩, ⟨_, rfl, rfl⟩, ⟨_, rfl, rfl⟩, ⟨_, rfl, rfl⟩, trivial⟩ trivial ⟨⟨_, _, rfl, rfl, rfl⟩, trivial⟩)
      · refine L.loadPtr shape3 hF rfl rfl rfl rfl rfl rfl ?_
        refine L.nil ?_
        exact A.on (hO _ _ _ n1139) (Le.mk [(0, 0)] hm rfl ⟨⟨_, rfl, rfl⟩, ⟨_, rfl, rfl⟩, ⟨_, rfl, rfl⟩, ⟨_, rfl, rfl⟩, ⟨_, rfl, rfl⟩, ⟨_, rfl, rfl⟩, trivial⟩ trivial ⟨⟨_, _, rfl, rfl, rfl⟩, trivial⟩)
      · refine L.loadPtr shape3 hF rfl rfl rfl rfl rfl rfl ?_
        refine L.nil ?_
        exact A.on (hO _ _ _ n1235) (Le.mk [(0, 0)] hm rfl ⟨⟨_, rfl, rfl⟩, ⟨_, rfl, rfl⟩, ⟨_, rfl, rfl⟩, ⟨_, rfl, rfl⟩, ⟨_, rfl, rfl⟩, ⟨_, rfl, rfl⟩, trivial⟩ trivial ⟨⟨_, _, rfl, rfl, rfl⟩, trivial⟩)
      · refine L.loadPtr shape74 hF rfl rfl rfl rfl rfl rfl ?_
        refine L.nil ?_
        exact A.on (hO _ _ _ n3155) (Le.mk [(0, 0)] hm rfl ⟨⟨_, rfl, rfl⟩, ⟨_, rfl, rfl⟩, ⟨_, rfl, rfl⟩, ⟨_, rfl, rfl⟩, ⟨_, rfl, rfl⟩, ⟨_, rfl, rfl⟩, trivial⟩ trivial ⟨⟨_, _, rfl, rfl, rfl⟩, trivial⟩)
    have n83 : W 13 #[true, true, false, false, true, false, true, false, false, false, false, false, false, false, false, false, false] (mkSt [(2, one (Cell.ptr 0 0)), (4, one (cS ([] : List UInt8))), (8, one (cI a1)), (9, one (Cell.ptr 0 0)), (12, one (Cell.ptr 0 1)), (14, one (Cell.ptr 0 2))] [] [(0, [cI a0.Key, cI a0.Service, cI a0.Nonce, cI a0.Rest.Servers, cI a0.Rest.Ops, cI a0.Rest.End])] 1) := by
      refine hI _ _ _ ?_
      refine A.take 10 rfl (by kernel_rfl) (by kernel_rfl) (by kernel_rfl) rfl (Ca.fieldAddr Try.underlying187 rfl info74 rfl) (fun Q0 k0 => L.fieldAddr Try.underlying187 rfl info74 rfl hF rfl rfl rfl rfl rfl (L.nil k0)) ?_
      exact A.on (hO _ _ _ n1107) (Le.mk [(0, 0)] hm rfl ⟨⟨_, rfl, rfl⟩, ⟨_, rfl, rfl⟩, ⟨_, rfl, rfl⟩, ⟨_, rfl, rfl⟩, ⟨_, rfl, rfl⟩, ⟨_, rfl, rfl⟩, trivial⟩ trivial ⟨⟨_, _, rfl, rfl, rfl⟩, trivial⟩)
    have n19 : W 14 #[true, true, false, false, true, false, false, false, false, false, false, false, false, false, false, false, false] (mkSt [(2, one (Cell.ptr 0 0)), (4, one (cS ([] : List UInt8))), (8, one (cI a1)), (9, one (Cell.ptr 0 0)), (12, one (Cell.ptr 0 1))] [] [(0, [cI a0.Key, cI a0.Service, cI a0.Nonce, cI a0.Rest.Servers, cI a0.Rest.Ops, cI a0.Rest.End])] 1) := by
      refine hI _ _ _ ?_
      refine A.take 6 rfl (by kernel_rfl) (by kernel_rfl) (by kernel_rfl) rfl (Ca.fieldAddr Try.underlying187 rfl info3 rfl) (fun Q0 k0 => L.fieldAddr Try.underlying187 rfl info3 rfl hF rfl rfl rfl rfl rfl (L.nil k0)) ?_
      exact A.on (hO _ _ _ n83) (Le.mk [(0, 0)] hm rfl ⟨⟨_, rfl, rfl⟩, ⟨_, rfl, rfl⟩, ⟨_, rfl, rfl⟩, ⟨_, rfl, rfl⟩, ⟨_, rfl, rfl⟩, ⟨_, rfl, rfl⟩, trivial⟩ trivial ⟨⟨_, _, rfl, rfl, rfl⟩, trivial⟩)
    have n3 : W 15 #[true, true, false, false, false, false, false, false, false, false, false, false, false, false, false, false, false] (mkSt [(2, one (Cell.ptr 0 0)), (4, one (cS ([] : List UInt8))), (8, one (cI a1)), (9, one (Cell.ptr 0 0))] [] [(0, [cI a0.Key, cI a0.Service, cI a0.Nonce, cI a0.Rest.Servers, cI a0.Rest.Ops, cI a0.Rest.End])] 1) := by
      refine hI _ _ _ ?_
      refine A.take 4 rfl (by kernel_rfl) (by kernel_rfl) (by kernel_rfl) rfl (Ca.fieldAddr Try.underlying187 rfl info3 rfl) (fun Q0 k0 => L.fieldAddr Try.underlying187 rfl info3 rfl hF rfl rfl rfl rfl rfl (L.nil k0)) ?_
      exact A.on (hO _ _ _ n19) (Le.mk [(0, 0)] hm rfl ⟨⟨_, rfl, rfl⟩, ⟨_, rfl, rfl⟩, ⟨_, rfl, rfl⟩, ⟨_, rfl, rfl⟩, ⟨_, rfl, rfl⟩, trivial⟩ trivial ⟨⟨_, _, rfl, rfl, rfl⟩, trivial⟩)
    have n1 : W 16 #[true, false, false, false, false, false, false, false, false, false, false, false, false, false, false, false, false] (mkSt [(2, one (Cell.ptr 0 0)), (4, one (cS ([] : List UInt8))), (8, one (cI a1))] [] [(0, [cI a0.Key, cI a0.Service, cI a0.Nonce, cI a0.Rest.Servers, cI a0.Rest.Ops, cI a0.Rest.End])] 1) := by
      refine hI _ _ _ ?_
      refine A.take 1 rfl (by kernel_rfl) (by kernel_rfl) (by kernel_rfl) rfl (Ca.fieldAddr Try.underlying187 rfl info3 rfl) (fun Q0 k0 => L.fieldAddr Try.underlying187 rfl info3 rfl hF rfl rfl rfl rfl rfl (L.nil k0)) ?_
      exact A.on (hO _ _ _ n3) (Le.mk [(0, 0)] hm rfl ⟨⟨_, rfl, rfl⟩, ⟨_, rfl, rfl⟩, ⟨_, rfl, rfl⟩, ⟨_, rfl, rfl⟩, trivial⟩ trivial ⟨⟨_, _, rfl, rfl, rfl⟩, trivial⟩)
    have n0 : W 17 #[false, false, false, false, false, false, false, false, false, false, false, false, false, false, false, false, false] (mkSt [(1, one (cI a1)), (2, one (Cell.ptr 0 0)), (4, one (cS ([] : List UInt8)))] [] [(0, [cI a0.Key, cI a0.Service, cI a0.Nonce, cI a0.Rest.Servers, cI a0.Rest.Ops, cI a0.Rest.End])] 1) := by
      refine hI _ _ _ ?_
      refine A.take 0 rfl (by kernel_rfl) (by kernel_rfl) (by kernel_rfl) rfl (Ca.move) (fun Q0 k0 => L.move hF rfl rfl rfl (L.nil k0)) ?_
      exact A.on (hO _ _ _ n1) (Le.mk [(0, 0)] hm rfl ⟨⟨_, rfl, rfl⟩, ⟨_, rfl, rfl⟩, ⟨_, rfl, rfl⟩, trivial⟩ trivial ⟨⟨_, _, rfl, rfl, rfl⟩, trivial⟩)
    exact hI _ _ _ (A.on (hO _ _ _ n0) (Le.mk [(0, 7)] hm rfl ⟨⟨_, rfl, rfl⟩, ⟨_, rfl, rfl⟩, ⟨_, rfl, rfl⟩, trivial⟩ trivial ⟨⟨_, _, rfl, rfl, rfl⟩, trivial⟩))
/-! ### Fimpl_ReadGrant -/
def Fimpl_ReadGrant (k : Nat) (a0 : List UInt8) (a1 : Int) : Option (Timpl_Grant × Bool) := (Fimpl_Open k a0 a1).bind fun r1 => (Fimpl_Parts k r1.1).bind fun r2 => cond ((r2.1.length : Int) != (3 : Int)) (some ((⟨(0 : Int), (0 : Int), (0 : Int), (⟨(0 : Int), (0 : Int), (0 : Int)⟩ : Timpl_Rest)⟩ : Timpl_Grant), false)) ((at? r2.1 (1 : Int)).bind fun b3 => (Fimpl_ReadNums k b3).bind fun r4 => cond ((r4.1.length : Int) != (2 : Int)) (some ((⟨(0 : Int), (0 : Int), (0 : Int), (⟨(0 : Int), (0 : Int), (0 : Int)⟩ : Timpl_Rest)⟩ : Timpl_Grant), false)) ((at? r4.1 (0 : Int)).bind fun b5 => (at? r4.1 (1 : Int)).bind fun b6 => (at? r2.1 (0 : Int)).bind fun b7 => (Fimpl_ReadKey k b7).bind fun r8 => (at? r2.1 (2 : Int)).bind fun b9 => (Fimpl_ReadRest k b9).bind fun r10 => (Fimpl_ShowGrant k (⟨r8.1, b5, b6, r10.1⟩ : Timpl_Grant) a1).bind fun r12 => cond (r12 != a0) (some ((⟨(0 : Int), (0 : Int), (0 : Int), (⟨(0 : Int), (0 : Int), (0 : Int)⟩ : Timpl_Rest)⟩ : Timpl_Grant), false)) (some ((⟨r8.1, b5, b6, r10.1⟩ : Timpl_Grant), true))))
theorem ent146 : Enters Try.prog 146 := ⟨Try.f146, Try.func146, rfl, by decide⟩
set_option maxHeartbeats 8000000 in
set_option maxRecDepth 100000 in
theorem Fimpl_ReadGrant_gives (k : Nat) (a0 : List UInt8) (a1 : Int) (r : Timpl_Grant × Bool) (H : Fimpl_ReadGrant k a0 a1 = some r) : Gives Try.prog 146 [V.one (cS a0), V.one (cI a1)] [] [V.agg [cI r.1.Key, cI r.1.Service, cI r.1.Nonce, cI r.1.Rest.Servers, cI r.1.Rest.Ops, cI r.1.Rest.End], V.one (cL r.2)] [] := by
  refine Gives.intro Try.func146 rfl rfl rfl rfl ?_
  intro F hF hm
  unfold Fimpl_ReadGrant at H
  obtain ⟨K, hK⟩ : ∃ K, k ≤ K := ⟨k, Nat.le_refl k⟩
  refine WpC.seq ?_
  refine WpC.regionL ?_
  refine L.alloc 2 info187 rfl hF rfl rfl rfl rfl ?_
  refine L.assign hF rfl rfl rfl ?_
  refine L.nil ?_
  refine WpC.seq ?_
  refine WpC.regionL ?_
  refine L.move hF rfl rfl rfl ?_
  refine L.move hF rfl rfl rfl ?_
  obtain ⟨r1, hr1, H⟩ := bindS H
  refine L.call [false, false] [] [] 3 hF rfl rfl rfl ent237 rfl rfl rfl rfl rfl (Fimpl_Open_gives k  a0 a1 r1 hr1) rfl ?_
  refine L.move hF rfl rfl rfl ?_
  refine L.extract hF rfl rfl rfl rfl ?_
  refine L.extract hF rfl rfl rfl rfl ?_
  refine L.assign hF rfl rfl rfl ?_
  refine L.assign hF rfl rfl rfl ?_
  refine L.nil ?_
  refine WpC.seq ?_
  refine WpC.regionL ?_
  refine L.move hF rfl rfl rfl ?_
  obtain ⟨r2, hr2, H⟩ := bindS H
  refine L.call [false] [] [] 5 hF rfl rfl rfl ent144 rfl rfl rfl rfl rfl (Fimpl_Parts_gives k  r1.1 r2 hr2) rfl ?_
  refine L.move hF rfl rfl rfl ?_
  refine L.extract hF rfl rfl rfl rfl ?_
  refine L.extract hF rfl rfl rfl rfl ?_
  refine L.assign hF rfl rfl rfl ?_
  refine L.assign hF rfl rfl rfl ?_
  refine L.nil ?_
  refine WpC.seq ?_
  refine WpC.seq ?_
  refine WpC.regionL ?_
  refine L.move hF rfl rfl rfl ?_
  refine L.lenR (xs := r2.1) (e := eS) Try.underlying120 hF rfl rfl rfl rfl ?_
  refine L.bin hF rfl rfl rfl rfl rfl rfl ?_
  refine L.nil ?_
  refine WpC.cond rfl (fun hc => ?_) (fun hc => ?_)
  · replace H := condT hc H
    refine WpC.seq ?_
    refine WpC.regionL ?_
    refine L.buildF built187 hF rfl rfl rfl rfl ?_
    refine L.storePtr shape187 hF rfl rfl rfl rfl rfl rfl rfl ?_
    refine L.assign hF rfl rfl rfl ?_
    refine L.nil ?_
    refine WpC.ret ?_
    cases H
    exact Leaves.ret rfl rfl rfl ⟨rfl, rfl⟩
  · replace H := condF hc H
    refine WpC.skip ?_
    refine WpC.seq ?_
    refine WpC.regionL ?_
    refine L.move hF rfl rfl rfl ?_
    obtain ⟨b3, hb3, H⟩ := bindS H
    refine L.idxR (xs := r2.1) (e := eS) Try.underlying120 info9 hF rfl rfl rfl rfl rfl hb3 rfl rfl ?_
    refine L.loadEp (xs := r2.1) (e := eS) shape9 hF rfl rfl rfl rfl (at?_get hb3).2 rfl rfl ?_
    obtain ⟨r4, hr4, H⟩ := bindS H
    refine L.call [false] [] [] 7 hF rfl rfl rfl ent136 rfl rfl rfl rfl rfl (Fimpl_ReadNums_gives k  b3 r4 hr4) rfl ?_
    refine L.move hF rfl rfl rfl ?_
    refine L.extract hF rfl rfl rfl rfl ?_
    refine L.extract hF rfl rfl rfl rfl ?_
    refine L.assign hF rfl rfl rfl ?_
    refine L.assign hF rfl rfl rfl ?_
    refine L.nil ?_
    refine WpC.seq ?_
    refine WpC.seq ?_
    refine WpC.regionL ?_
    refine L.move hF rfl rfl rfl ?_
    refine L.lenR (xs := r4.1) (e := eI) Try.underlying24 hF rfl rfl rfl rfl ?_
    refine L.bin hF rfl rfl rfl rfl rfl rfl ?_
    refine L.nil ?_
    refine WpC.cond rfl (fun hc => ?_) (fun hc => ?_)
    · replace H := condT hc H
      refine WpC.seq ?_
      refine WpC.regionL ?_
      refine L.buildF built187 hF rfl rfl rfl rfl ?_
      refine L.storePtr shape187 hF rfl rfl rfl rfl rfl rfl rfl ?_
      refine L.assign hF rfl rfl rfl ?_
      refine L.nil ?_
      refine WpC.ret ?_
      cases H
      exact Leaves.ret rfl rfl rfl ⟨rfl, rfl⟩
    · replace H := condF hc H
      refine WpC.skip ?_
      refine WpC.seq ?_
      obtain ⟨b5, hb5, H⟩ := bindS H
      obtain ⟨b6, hb6, H⟩ := bindS H
      refine A.begin mixed rfl rfl ?_
      intro W hI hO
      have n511 : W 0 #[true, true, true, true, true, true, true, true, true] (mkSt [(0, one (cS a0)), (1, one (cI a1)), (4, one (Cell.ptr 0 0)), (8, one (Cell.own 1)), (12, one (Cell.ptr 2 0))] [(1, ⟨1, List.map eS r2.1⟩)] [(0, [cI (0 : Int), cI (0 : Int), cI (0 : Int), cI (0 : Int), cI (0 : Int), cI (0 : Int)]), (2, [cI (0 : Int), cI b5, cI b6, cI (0 : Int), cI (0 : Int), cI (0 : Int)])] 3) := by
        refine hI _ _ _ (A.done (by kernel_rfl) ?_)
        refine WpC.seq ?_
        refine WpC.regionL ?_
        refine L.move hF rfl rfl rfl ?_
        obtain ⟨b7, hb7, H⟩ := bindS H
        refine L.idxR (xs := r2.1) (e := eS) Try.underlying120 info9 hF rfl rfl rfl rfl rfl hb7 rfl rfl ?_
        refine L.loadEp (xs := r2.1) (e := eS) shape9 hF rfl rfl rfl rfl (at?_get hb7).2 rfl rfl ?_
        obtain ⟨r8, hr8, H⟩ := bindS H
        refine L.call [false] [] [] 3 hF rfl rfl rfl ent238 rfl rfl rfl rfl rfl (Fimpl_ReadKey_gives k  b7 r8 hr8) rfl ?_
        refine L.move hF rfl rfl rfl ?_
        refine L.extract hF rfl rfl rfl rfl ?_
        refine L.extract hF rfl rfl rfl rfl ?_
        refine L.fieldAddr Try.underlying187 rfl info3 rfl hF rfl rfl rfl rfl rfl ?_
        refine L.storePtr shape3 hF rfl rfl rfl rfl rfl rfl rfl ?_
        refine L.nil ?_
        refine WpC.seq ?_
        refine WpC.regionL ?_
        refine L.move hF rfl rfl rfl ?_
        obtain ⟨b9, hb9, H⟩ := bindS H
        refine L.idxR (xs := r2.1) (e := eS) Try.underlying120 info9 hF rfl rfl rfl rfl rfl hb9 rfl rfl ?_
        refine L.loadEp (xs := r2.1) (e := eS) shape9 hF rfl rfl rfl rfl (at?_get hb9).2 rfl rfl ?_
        obtain ⟨r10, hr10, H⟩ := bindS H
        refine L.call [false] [] [] 5 hF rfl rfl rfl ent239 rfl rfl rfl rfl rfl (Fimpl_ReadRest_gives k  b9 r10 hr10) rfl ?_
        refine L.move hF rfl rfl rfl ?_
        refine L.extract hF rfl rfl rfl rfl ?_
        refine L.extract hF rfl rfl rfl rfl ?_
        refine L.fieldAddr Try.underlying187 rfl info74 rfl hF rfl rfl rfl rfl rfl ?_
        refine L.storePtr shape74 hF rfl rfl rfl rfl rfl rfl rfl ?_
        refine L.nil ?_
        refine WpC.seq ?_
        refine WpC.seq ?_
        refine WpC.regionL ?_
        refine L.loadPtr shape187 hF rfl rfl rfl rfl rfl rfl ?_
        refine L.move hF rfl rfl rfl ?_
        obtain ⟨r12, hr12, H⟩ := bindS H
        refine L.call [false, false] [] [] 9 hF rfl rfl rfl ent240 rfl rfl rfl rfl rfl (Fimpl_ShowGrant_gives k  (⟨r8.1, b5, b6, r10.1⟩ : Timpl_Grant) a1 r12 hr12) rfl ?_
        refine L.move hF rfl rfl rfl ?_
        refine L.binS hF rfl rfl rfl rfl rfl ?_
        refine L.nil ?_
        refine WpC.cond rfl (fun hc => ?_) (fun hc => ?_)
        · replace H := condT hc H
          refine WpC.seq ?_
          refine WpC.regionL ?_
          refine L.buildF built187 hF rfl rfl rfl rfl ?_
          refine L.storePtr shape187 hF rfl rfl rfl rfl rfl rfl rfl ?_
          refine L.assign hF rfl rfl rfl ?_
          refine L.nil ?_
          refine WpC.ret ?_
          cases H
          exact Leaves.ret rfl rfl rfl ⟨rfl, rfl⟩
        · replace H := condF hc H
          refine WpC.skip ?_
          refine WpC.seq ?_
          refine WpC.regionL ?_
          refine L.loadPtr shape187 hF rfl rfl rfl rfl rfl rfl ?_
          refine L.storePtr shape187 hF rfl rfl rfl rfl rfl rfl rfl ?_
          refine L.assign hF rfl rfl rfl ?_
          refine L.nil ?_
          refine WpC.ret ?_
          cases H
          exact Leaves.ret rfl rfl rfl ⟨rfl, rfl⟩
      have n255 : W 1 #[true, true, true, true, true, true, true, true, false] (mkSt [(0, one (cS a0)), (1, one (cI a1)), (4, one (Cell.ptr 0 0)), (8, one (Cell.own 1)), (12, one (Cell.ptr 2 0)), (45, agg [cI (0 : Int), cI b5, cI b6, cI (0 : Int), cI (0 : Int), cI (0 : Int)])] [(1, ⟨1, List.map eS r2.1⟩)] [(0, [cI (0 : Int), cI (0 : Int), cI (0 : Int), cI (0 : Int), cI (0 : Int), cI (0 : Int)]), (2, [cI (0 : Int), cI (0 : Int), cI (0 : Int), cI (0 : Int), cI (0 : Int), cI (0 : Int)])] 3) := by
        refine hI _ _ _ ?_
        refine A.all [8] (by kernel_rfl) rfl ⟨⟨_, rfl, ?_⟩, trivial⟩
        · refine L.storePtr shape187 hF rfl rfl rfl rfl rfl rfl rfl ?_
          refine L.nil ?_
          exact A.on (hO _ _ _ n511) (Le.mk [(0, 0), (1, 1), (2, 2)] hm rfl ⟨⟨_, rfl, rfl⟩, ⟨_, rfl, rfl⟩, ⟨_, rfl, rfl⟩, ⟨_, rfl, rfl⟩, ⟨_, rfl, rfl⟩, trivial⟩ ⟨⟨_, rfl, rfl⟩, trivial⟩ ⟨⟨_, _, rfl, rfl, rfl⟩, ⟨_, _, rfl, rfl, rfl⟩, trivial⟩)
      have n191 : W 2 #[true, true, true, true, true, true, false, true, false] (mkSt [(0, one (cS a0)), (1, one (cI a1)), (4, one (Cell.ptr 0 0)), (8, one (Cell.own 1)), (12, one (Cell.ptr 2 0)), (41, one (cI b5)), (44, one (cI b6))] [(1, ⟨1, List.map eS r2.1⟩)] [(0, [cI (0 : Int), cI (0 : Int), cI (0 : Int), cI (0 : Int), cI (0 : Int), cI (0 : Int)]), (2, [cI (0 : Int), cI (0 : Int), cI (0 : Int), cI (0 : Int), cI (0 : Int), cI (0 : Int)])] 3) := by
        refine hI _ _ _ ?_
        refine A.take 6 rfl (by kernel_rfl) (by kernel_rfl) (by kernel_rfl) rfl (Ca.build rfl (by rw [built187]; rfl)) (fun Q0 k0 => L.buildF built187 hF rfl rfl rfl rfl (L.nil k0)) ?_
        exact A.on (hO _ _ _ n255) (Le.mk [(0, 0), (1, 1), (2, 2)] hm rfl ⟨⟨_, rfl, rfl⟩, ⟨_, rfl, rfl⟩, ⟨_, rfl, rfl⟩, ⟨_, rfl, rfl⟩, ⟨_, rfl, rfl⟩, ⟨_, rfl, rfl⟩, trivial⟩ ⟨⟨_, rfl, rfl⟩, trivial⟩ ⟨⟨_, _, rfl, rfl, rfl⟩, ⟨_, _, rfl, rfl, rfl⟩, trivial⟩)
      have n127 : W 2 #[true, true, true, true, true, true, true, false, false] (mkSt [(0, one (cS a0)), (1, one (cI a1)), (4, one (Cell.ptr 0 0)), (8, one (Cell.own 1)), (45, agg [cI (0 : Int), cI b5, cI b6, cI (0 : Int), cI (0 : Int), cI (0 : Int)])] [(1, ⟨1, List.map eS r2.1⟩)] [(0, [cI (0 : Int), cI (0 : Int), cI (0 : Int), cI (0 : Int), cI (0 : Int), cI (0 : Int)])] 2) := by
        refine hI _ _ _ ?_
        refine A.all [7] (by kernel_rfl) rfl ⟨⟨_, rfl, ?_⟩, trivial⟩
        · refine L.alloc 2 info187 rfl hF rfl rfl rfl rfl ?_
          refine L.nil ?_
          exact A.on (hO _ _ _ n255) (Le.mk [(0, 0), (1, 1), (2, 2)] hm rfl ⟨⟨_, rfl, rfl⟩, ⟨_, rfl, rfl⟩, ⟨_, rfl, rfl⟩, ⟨_, rfl, rfl⟩, ⟨_, rfl, rfl⟩, ⟨_, rfl, rfl⟩, trivial⟩ ⟨⟨_, rfl, rfl⟩, trivial⟩ ⟨⟨_, _, rfl, rfl, rfl⟩, ⟨_, _, rfl, rfl, rfl⟩, trivial⟩)
      have n159 : W 3 #[true, true, true, true, true, false, false, true, false] (mkSt [(0, one (cS a0)), (1, one (cI a1)), (4, one (Cell.ptr 0 0)), (8, one (Cell.own 1)), (12, one (Cell.ptr 2 0)), (41, one (cI b5)), (43, one (Cell.ep 3 ((1 : Int).toNat) 0))] [(1, ⟨1, List.map eS r2.1⟩), (3, ⟨1, List.map eI r4.1⟩)] [(0, [cI (0 : Int), cI (0 : Int), cI (0 : Int), cI (0 : Int), cI (0 : Int), cI (0 : Int)]), (2, [cI (0 : Int), cI (0 : Int), cI (0 : Int), cI (0 : Int), cI (0 : Int), cI (0 : Int)])] 4) := by
        refine hI _ _ _ ?_
        refine A.all [5] (by kernel_rfl) rfl ⟨⟨_, rfl, ?_⟩, trivial⟩
        · refine L.loadEp (xs := r4.1) (e := eI) shape3 hF rfl rfl rfl rfl (at?_get hb6).2 rfl rfl ?_
          refine L.nil ?_
          exact A.on (hO _ _ _ n191) (Le.mk [(0, 0), (1, 1), (2, 2)] hm rfl ⟨⟨_, rfl, rfl⟩, ⟨_, rfl, rfl⟩, ⟨_, rfl, rfl⟩, ⟨_, rfl, rfl⟩, ⟨_, rfl, rfl⟩, ⟨_, rfl, rfl⟩, ⟨_, rfl, rfl⟩, trivial⟩ ⟨⟨_, rfl, rfl⟩, trivial⟩ ⟨⟨_, _, rfl, rfl, rfl⟩, ⟨_, _, rfl, rfl, rfl⟩, trivial⟩)
      have n187 : W 3 #[true, true, false, true, true, true, false, true, false] (mkSt [(0, one (cS a0)), (1, one (cI a1)), (4, one (Cell.ptr 0 0)), (8, one (Cell.own 1)), (12, one (Cell.ptr 2 0)), (40, one (Cell.ep 3 ((0 : Int).toNat) 0)), (44, one (cI b6))] [(1, ⟨1, List.map eS r2.1⟩), (3, ⟨1, List.map eI r4.1⟩)] [(0, [cI (0 : Int), cI (0 : Int), cI (0 : Int), cI (0 : Int), cI (0 : Int), cI (0 : Int)]), (2, [cI (0 : Int), cI (0 : Int), cI (0 : Int), cI (0 : Int), cI (0 : Int), cI (0 : Int)])] 4) := by
        refine hI _ _ _ ?_
        refine A.all [2] (by kernel_rfl) rfl ⟨⟨_, rfl, ?_⟩, trivial⟩
        · refine L.loadEp (xs := r4.1) (e := eI) shape3 hF rfl rfl rfl rfl (at?_get hb5).2 rfl rfl ?_
          refine L.nil ?_
          exact A.on (hO _ _ _ n191) (Le.mk [(0, 0), (1, 1), (2, 2)] hm rfl ⟨⟨_, rfl, rfl⟩, ⟨_, rfl, rfl⟩, ⟨_, rfl, rfl⟩, ⟨_, rfl, rfl⟩, ⟨_, rfl, rfl⟩, ⟨_, rfl, rfl⟩, ⟨_, rfl, rfl⟩, trivial⟩ ⟨⟨_, rfl, rfl⟩, trivial⟩ ⟨⟨_, _, rfl, rfl, rfl⟩, ⟨_, _, rfl, rfl, rfl⟩, trivial⟩)
      have n63 : W 3 #[true, true, true, true, true, true, false, false, false] (mkSt [(0, one (cS a0)), (1, one (cI a1)), (4, one (Cell.ptr 0 0)), (8, one (Cell.own 1)), (41, one (cI b5)), (44, one (cI b6))] [(1, ⟨1, List.map eS r2.1⟩)] [(0, [cI (0 : Int), cI (0 : Int), cI (0 : Int), cI (0 : Int), cI (0 : Int), cI (0 : Int)])] 2) := by
        refine hI _ _ _ ?_
        refine A.take 6 rfl (by kernel_rfl) (by kernel_rfl) (by kernel_rfl) rfl (Ca.build rfl (by rw [built187]; rfl)) (fun Q0 k0 => L.buildF built187 hF rfl rfl rfl rfl (L.nil k0)) ?_
        exact A.on (hO _ _ _ n127) (Le.mk [(0, 0), (1, 1)] hm rfl ⟨⟨_, rfl, rfl⟩, ⟨_, rfl, rfl⟩, ⟨_, rfl, rfl⟩, ⟨_, rfl, rfl⟩, ⟨_, rfl, rfl⟩, trivial⟩ ⟨⟨_, rfl, rfl⟩, trivial⟩ ⟨⟨_, _, rfl, rfl, rfl⟩, trivial⟩)
      have n59 : W 4 #[true, true, false, true, true, true, false, false, false] (mkSt [(0, one (cS a0)), (1, one (cI a1)), (4, one (Cell.ptr 0 0)), (8, one (Cell.own 1)), (40, one (Cell.ep 2 ((0 : Int).toNat) 0)), (44, one (cI b6))] [(1, ⟨1, List.map eS r2.1⟩), (2, ⟨1, List.map eI r4.1⟩)] [(0, [cI (0 : Int), cI (0 : Int), cI (0 : Int), cI (0 : Int), cI (0 : Int), cI (0 : Int)])] 3) := by
        refine hI _ _ _ ?_
        refine A.all [2, 7] (by kernel_rfl) rfl ⟨⟨_, rfl, ?_⟩, ⟨_, rfl, ?_⟩, trivial⟩
        · refine L.loadEp (xs := r4.1) (e := eI) shape3 hF rfl rfl rfl rfl (at?_get hb5).2 rfl rfl ?_
          refine L.nil ?_
          exact A.on (hO _ _ _ n63) (Le.mk [(0, 0), (1, 1)] hm rfl ⟨⟨_, rfl, rfl⟩, ⟨_, rfl, rfl⟩, ⟨_, rfl, rfl⟩, ⟨_, rfl, rfl⟩, ⟨_, rfl, rfl⟩, ⟨_, rfl, rfl⟩, trivial⟩ ⟨⟨_, rfl, rfl⟩, trivial⟩ ⟨⟨_, _, rfl, rfl, rfl⟩, trivial⟩)
        · refine L.alloc 3 info187 rfl hF rfl rfl rfl rfl ?_
          refine L.nil ?_
          exact A.on (hO _ _ _ n187) (Le.mk [(0, 0), (1, 1), (2, 3), (3, 2)] hm rfl ⟨⟨_, rfl, rfl⟩, ⟨_, rfl, rfl⟩, ⟨_, rfl, rfl⟩, ⟨_, rfl, rfl⟩, ⟨_, rfl, rfl⟩, ⟨_, rfl, rfl⟩, ⟨_, rfl, rfl⟩, trivial⟩ ⟨⟨_, rfl, rfl⟩, ⟨_, rfl, rfl⟩, trivial⟩ ⟨⟨_, _, rfl, rfl, rfl⟩, ⟨_, _, rfl, rfl, rfl⟩, trivial⟩)
      have n155 : W 4 #[true, true, false, true, true, false, false, true, false] (mkSt [(0, one (cS a0)), (1, one (cI a1)), (4, one (Cell.ptr 0 0)), (8, one (Cell.own 1)), (12, one (Cell.ptr 2 0)), (40, one (Cell.ep 3 ((0 : Int).toNat) 0)), (43, one (Cell.ep 3 ((1 : Int).toNat) 0))] [(1, ⟨1, List.map eS r2.1⟩), (3, ⟨1, List.map eI r4.1⟩)] [(0, [cI (0 : Int), cI (0 : Int), cI (0 : Int), cI (0 : Int), cI (0 : Int), cI (0 : Int)]), (2, [cI (0 : Int), cI (0 : Int), cI (0 : Int), cI (0 : Int), cI (0 : Int), cI (0 : Int)])] 4) := by
        refine hI _ _ _ ?_
        refine A.all [2, 5] (by kernel_rfl) rfl ⟨⟨_, rfl, ?_⟩, ⟨_, rfl, ?_⟩, trivial⟩
        · refine L.loadEp (xs := r4.1) (e := eI) shape3 hF rfl rfl rfl rfl (at?_get hb5).2 rfl rfl ?_
          refine L.nil ?_
          exact A.on (hO _ _ _ n159) (Le.mk [(0, 0), (1, 1), (2, 2), (3, 3)] hm rfl ⟨⟨_, rfl, rfl⟩, ⟨_, rfl, rfl⟩, ⟨_, rfl, rfl⟩, ⟨_, rfl, rfl⟩, ⟨_, rfl, rfl⟩, ⟨_, rfl, rfl⟩, ⟨_, rfl, rfl⟩, trivial⟩ ⟨⟨_, rfl, rfl⟩, ⟨_, rfl, rfl⟩, trivial⟩ ⟨⟨_, _, rfl, rfl, rfl⟩, ⟨_, _, rfl, rfl, rfl⟩, trivial⟩)
        · refine L.loadEp (xs := r4.1) (e := eI) shape3 hF rfl rfl rfl rfl (at?_get hb6).2 rfl rfl ?_
          refine L.nil ?_
          exact A.on (hO _ _ _ n187) (Le.mk [(0, 0), (1, 1), (2, 2), (3, 3)] hm rfl ⟨⟨_, rfl, rfl⟩, ⟨_, rfl, rfl⟩, ⟨_, rfl, rfl⟩, ⟨_, rfl, rfl⟩, ⟨_, rfl, rfl⟩, ⟨_, rfl, rfl⟩, ⟨_, rfl, rfl⟩, trivial⟩ ⟨⟨_, rfl, rfl⟩, ⟨_, rfl, rfl⟩, trivial⟩ ⟨⟨_, _, rfl, rfl, rfl⟩, ⟨_, _, rfl, rfl, rfl⟩, trivial⟩)
      have n31 : W 4 #[true, true, true, true, true, false, false, false, false] (mkSt [(0, one (cS a0)), (1, one (cI a1)), (4, one (Cell.ptr 0 0)), (8, one (Cell.own 1)), (41, one (cI b5)), (43, one (Cell.ep 2 ((1 : Int).toNat) 0))] [(1, ⟨1, List.map eS r2.1⟩), (2, ⟨1, List.map eI r4.1⟩)] [(0, [cI (0 : Int), cI (0 : Int), cI (0 : Int), cI (0 : Int), cI (0 : Int), cI (0 : Int)])] 3) := by
        refine hI _ _ _ ?_
        refine A.all [5, 7] (by kernel_rfl) rfl ⟨⟨_, rfl, ?_⟩, ⟨_, rfl, ?_⟩, trivial⟩
        · refine L.loadEp (xs := r4.1) (e := eI) shape3 hF rfl rfl rfl rfl (at?_get hb6).2 rfl rfl ?_
          refine L.nil ?_
          exact A.on (hO _ _ _ n63) (Le.mk [(0, 0), (1, 1)] hm rfl ⟨⟨_, rfl, rfl⟩, ⟨_, rfl, rfl⟩, ⟨_, rfl, rfl⟩, ⟨_, rfl, rfl⟩, ⟨_, rfl, rfl⟩, ⟨_, rfl, rfl⟩, trivial⟩ ⟨⟨_, rfl, rfl⟩, trivial⟩ ⟨⟨_, _, rfl, rfl, rfl⟩, trivial⟩)
        · refine L.alloc 3 info187 rfl hF rfl rfl rfl rfl ?_
          refine L.nil ?_
          exact A.on (hO _ _ _ n159) (Le.mk [(0, 0), (1, 1), (2, 3), (3, 2)] hm rfl ⟨⟨_, rfl, rfl⟩, ⟨_, rfl, rfl⟩, ⟨_, rfl, rfl⟩, ⟨_, rfl, rfl⟩, ⟨_, rfl, rfl⟩, ⟨_, rfl, rfl⟩, ⟨_, rfl, rfl⟩, trivial⟩ ⟨⟨_, rfl, rfl⟩, ⟨_, rfl, rfl⟩, trivial⟩ ⟨⟨_, _, rfl, rfl, rfl⟩, ⟨_, _, rfl, rfl, rfl⟩, trivial⟩)
      have n27 : W 5 #[true, true, false, true, true, false, false, false, false] (mkSt [(0, one (cS a0)), (1, one (cI a1)), (4, one (Cell.ptr 0 0)), (8, one (Cell.own 1)), (40, one (Cell.ep 2 ((0 : Int).toNat) 0)), (43, one (Cell.ep 2 ((1 : Int).toNat) 0))] [(1, ⟨1, List.map eS r2.1⟩), (2, ⟨1, List.map eI r4.1⟩)] [(0, [cI (0 : Int), cI (0 : Int), cI (0 : Int), cI (0 : Int), cI (0 : Int), cI (0 : Int)])] 3) := by
        refine hI _ _ _ ?_
        refine A.all [2, 5, 7] (by kernel_rfl) rfl ⟨⟨_, rfl, ?_⟩, ⟨_, rfl, ?_⟩, ⟨_, rfl, ?_⟩, trivial⟩
        · refine L.loadEp (xs := r4.1) (e := eI) shape3 hF rfl rfl rfl rfl (at?_get hb5).2 rfl rfl ?_
          refine L.nil ?_
          exact A.on (hO _ _ _ n31) (Le.mk [(0, 0), (1, 1), (2, 2)] hm rfl ⟨⟨_, rfl, rfl⟩, ⟨_, rfl, rfl⟩, ⟨_, rfl, rfl⟩, ⟨_, rfl, rfl⟩, ⟨_, rfl, rfl⟩, ⟨_, rfl, rfl⟩, trivial⟩ ⟨⟨_, rfl, rfl⟩, ⟨_, rfl, rfl⟩, trivial⟩ ⟨⟨_, _, rfl, rfl, rfl⟩, trivial⟩)
        · refine L.loadEp (xs := r4.1) (e := eI) shape3 hF rfl rfl rfl rfl (at?_get hb6).2 rfl rfl ?_
          refine L.nil ?_
          exact A.on (hO _ _ _ n59) (Le.mk [(0, 0), (1, 1), (2, 2)] hm rfl ⟨⟨_, rfl, rfl⟩, ⟨_, rfl, rfl⟩, ⟨_, rfl, rfl⟩, ⟨_, rfl, rfl⟩, ⟨_, rfl, rfl⟩, ⟨_, rfl, rfl⟩, trivial⟩ ⟨⟨_, rfl, rfl⟩, ⟨_, rfl, rfl⟩, trivial⟩ ⟨⟨_, _, rfl, rfl, rfl⟩, trivial⟩)
        · refine L.alloc 3 info187 rfl hF rfl rfl rfl rfl ?_
          refine L.nil ?_
          exact A.on (hO _ _ _ n155) (Le.mk [(0, 0), (1, 1), (2, 3), (3, 2)] hm rfl ⟨⟨_, rfl, rfl⟩, ⟨_, rfl, rfl⟩, ⟨_, rfl, rfl⟩, ⟨_, rfl, rfl⟩, ⟨_, rfl, rfl⟩, ⟨_, rfl, rfl⟩, ⟨_, rfl, rfl⟩, trivial⟩ ⟨⟨_, rfl, rfl⟩, ⟨_, rfl, rfl⟩, trivial⟩ ⟨⟨_, _, rfl, rfl, rfl⟩, ⟨_, _, rfl, rfl, rfl⟩, trivial⟩)
      have n11 : W 6 #[true, true, false, true, false, false, false, false, false] (mkSt [(0, one (cS a0)), (1, one (cI a1)), (4, one (Cell.ptr 0 0)), (8, one (Cell.own 1)), (40, one (Cell.ep 2 ((0 : Int).toNat) 0)), (42, one (Cell.own 2))] [(1, ⟨1, List.map eS r2.1⟩), (2, ⟨1, List.map eI r4.1⟩)] [(0, [cI (0 : Int), cI (0 : Int), cI (0 : Int), cI (0 : Int), cI (0 : Int), cI (0 : Int)])] 3) := by
        refine hI _ _ _ ?_
        refine A.take 4 rfl (by kernel_rfl) (by kernel_rfl) (by kernel_rfl) rfl (Ca.indexAddr) (fun Q0 k0 => L.idxR (xs := r4.1) (e := eI) Try.underlying24 info3 hF rfl rfl rfl rfl rfl hb6 rfl rfl (L.nil k0)) ?_
        exact A.on (hO _ _ _ n27) (Le.mk [(0, 0), (1, 1), (2, 2)] hm rfl ⟨⟨_, rfl, rfl⟩, ⟨_, rfl, rfl⟩, ⟨_, rfl, rfl⟩, ⟨_, rfl, rfl⟩, ⟨_, rfl, rfl⟩, ⟨_, rfl, rfl⟩, trivial⟩ ⟨⟨_, rfl, rfl⟩, ⟨_, rfl, rfl⟩, trivial⟩ ⟨⟨_, _, rfl, rfl, rfl⟩, trivial⟩)
      have n3 : W 7 #[true, true, false, false, false, false, false, false, false] (mkSt [(0, one (cS a0)), (1, one (cI a1)), (4, one (Cell.ptr 0 0)), (8, one (Cell.own 1)), (10, one (Cell.own 2)), (40, one (Cell.ep 2 ((0 : Int).toNat) 0))] [(1, ⟨1, List.map eS r2.1⟩), (2, ⟨1, List.map eI r4.1⟩)] [(0, [cI (0 : Int), cI (0 : Int), cI (0 : Int), cI (0 : Int), cI (0 : Int), cI (0 : Int)])] 3) := by
        refine hI _ _ _ ?_
        refine A.take 3 rfl (by kernel_rfl) (by kernel_rfl) (by kernel_rfl) rfl (Ca.move) (fun Q0 k0 => L.move hF rfl rfl rfl (L.nil k0)) ?_
        exact A.on (hO _ _ _ n11) (Le.mk [(0, 0), (1, 1), (2, 2)] hm rfl ⟨⟨_, rfl, rfl⟩, ⟨_, rfl, rfl⟩, ⟨_, rfl, rfl⟩, ⟨_, rfl, rfl⟩, ⟨_, rfl, rfl⟩, ⟨_, rfl, rfl⟩, trivial⟩ ⟨⟨_, rfl, rfl⟩, ⟨_, rfl, rfl⟩, trivial⟩ ⟨⟨_, _, rfl, rfl, rfl⟩, trivial⟩)
      have n1 : W 8 #[true, false, false, false, false, false, false, false, false] (mkSt [(0, one (cS a0)), (1, one (cI a1)), (4, one (Cell.ptr 0 0)), (8, one (Cell.own 1)), (10, one (Cell.own 2)), (39, one (Cell.own 2))] [(1, ⟨1, List.map eS r2.1⟩), (2, ⟨1, List.map eI r4.1⟩)] [(0, [cI (0 : Int), cI (0 : Int), cI (0 : Int), cI (0 : Int), cI (0 : Int), cI (0 : Int)])] 3) := by
        refine hI _ _ _ ?_
        refine A.take 1 rfl (by kernel_rfl) (by kernel_rfl) (by kernel_rfl) rfl (Ca.indexAddr) (fun Q0 k0 => L.idxR (xs := r4.1) (e := eI) Try.underlying24 info3 hF rfl rfl rfl rfl rfl hb5 rfl rfl (L.nil k0)) ?_
        exact A.on (hO _ _ _ n3) (Le.mk [(0, 0), (1, 1), (2, 2)] hm rfl ⟨⟨_, rfl, rfl⟩, ⟨_, rfl, rfl⟩, ⟨_, rfl, rfl⟩, ⟨_, rfl, rfl⟩, ⟨_, rfl, rfl⟩, ⟨_, rfl, rfl⟩, trivial⟩ ⟨⟨_, rfl, rfl⟩, ⟨_, rfl, rfl⟩, trivial⟩ ⟨⟨_, _, rfl, rfl, rfl⟩, trivial⟩)
      have n0 : W 9 #[false, false, false, false, false, false, false, false, false] (mkSt [(0, one (cS a0)), (1, one (cI a1)), (4, one (Cell.ptr 0 0)), (8, one (Cell.own 1)), (10, one (Cell.own 2))] [(1, ⟨1, List.map eS r2.1⟩), (2, ⟨1, List.map eI r4.1⟩)] [(0, [cI (0 : Int), cI (0 : Int), cI (0 : Int), cI (0 : Int), cI (0 : Int), cI (0 : Int)])] 3) := by
        refine hI _ _ _ ?_
        refine A.take 0 rfl (by kernel_rfl) (by kernel_rfl) (by kernel_rfl) rfl (Ca.move) (fun Q0 k0 => L.move hF rfl rfl rfl (L.nil k0)) ?_
        exact A.on (hO _ _ _ n1) (Le.mk [(0, 0), (1, 1), (2, 2)] hm rfl ⟨⟨_, rfl, rfl⟩, ⟨_, rfl, rfl⟩, ⟨_, rfl, rfl⟩, ⟨_, rfl, rfl⟩, ⟨_, rfl, rfl⟩, ⟨_, rfl, rfl⟩, trivial⟩ ⟨⟨_, rfl, rfl⟩, ⟨_, rfl, rfl⟩, trivial⟩ ⟨⟨_, _, rfl, rfl, rfl⟩, trivial⟩)
      exact hI _ _ _ (A.on (hO _ _ _ n0) (Le.mk [(0, 2), (1, 5), (2, 7)] hm rfl ⟨⟨_, rfl, rfl⟩, ⟨_, rfl, rfl⟩, ⟨_, rfl, rfl⟩, ⟨_, rfl, rfl⟩, ⟨_, rfl, rfl⟩, trivial⟩ ⟨⟨_, rfl, rfl⟩, ⟨_, rfl, rfl⟩, trivial⟩ ⟨⟨_, _, rfl, rfl, rfl⟩, trivial⟩))
end Go.Proofs.Ytcolcmjcjpikcaa.M
