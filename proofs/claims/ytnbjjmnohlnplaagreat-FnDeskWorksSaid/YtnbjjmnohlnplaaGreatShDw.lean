/- The library's sort (and Compact) at []int, as contracts. -/
import Derived.Test.YtnbjjmnohlnplaaGreatKDw2
import Derived.Test.YtnbjjmnohlnplaaGreatProg
namespace Go.Proofs.YtnbjjmnohlnplaaGreat.M
open Go Go.MG
set_option linter.unusedVariables false
def sh189_ren : Go.Shelf.Ren := ⟨fun | 189 => 48 | 125 => 96 | 257 => 95 | 128 => 158 | 129 => 159 | 294 => 149 | 295 => 150 | 296 => 151 | 297 => 152 | 298 => 153 | 299 => 154 | 216 => 155 | 300 => 156 | 301 => 157 | 328 => 197 | 329 => 198 | 330 => 199 | 331 => 200 | 332 => 201 | 215 => 202 | 343 => 232 | n => n, fun | 28 => 24 | 3 => 3 | 46 => 135 | 0 => 0 | 51 => 181 | 53 => 183 | 4 => 4 | 183 => 176 | 182 => 175 | 131 => 157 | 5 => 5 | 9 => 9 | 218 => 208 | 222 => 212 | 228 => 240 | 229 => 172 | n => n, fun | n => n⟩
theorem sh189 : Go.Proofs.Lays.n189 Tryz.prog sh189_ren where
  mixed := by kernel_rfl
  f125 := Tryz.func96.trans (congrArg some (by kernel_rfl))
  f128 := Tryz.func158.trans (congrArg some (by kernel_rfl))
  f129 := Tryz.func159.trans (congrArg some (by kernel_rfl))
  f189 := Tryz.func48.trans (congrArg some (by kernel_rfl))
  f215 := Tryz.func202.trans (congrArg some (by kernel_rfl))
  f216 := Tryz.func155.trans (congrArg some (by kernel_rfl))
  f257 := Tryz.func95.trans (congrArg some (by kernel_rfl))
  f294 := Tryz.func149.trans (congrArg some (by kernel_rfl))
  f295 := Tryz.func150.trans (congrArg some (by kernel_rfl))
  f296 := Tryz.func151.trans (congrArg some (by kernel_rfl))
  f297 := Tryz.func152.trans (congrArg some (by kernel_rfl))
  f298 := Tryz.func153.trans (congrArg some (by kernel_rfl))
  f299 := Tryz.func154.trans (congrArg some (by kernel_rfl))
  f300 := Tryz.func156.trans (congrArg some (by kernel_rfl))
  f301 := Tryz.func157.trans (congrArg some (by kernel_rfl))
  f328 := Tryz.func197.trans (congrArg some (by kernel_rfl))
  f329 := Tryz.func198.trans (congrArg some (by kernel_rfl))
  f330 := Tryz.func199.trans (congrArg some (by kernel_rfl))
  f331 := Tryz.func200.trans (congrArg some (by kernel_rfl))
  f332 := Tryz.func201.trans (congrArg some (by kernel_rfl))
  f343 := Tryz.func232.trans (congrArg some (by kernel_rfl))
  t0 := Tryz.underlying0
  a0 := Tryz.isAgg0
  z0 := Tryz.sizeOf0
  v0 := Tryz.zeroValue0
  t3 := Tryz.underlying3
  a3 := Tryz.isAgg3
  z3 := Tryz.sizeOf3
  v3 := Tryz.zeroValue3
  t4 := Tryz.underlying4
  a4 := Tryz.isAgg4
  z4 := Tryz.sizeOf4
  v4 := Tryz.zeroValue4
  t5 := Tryz.underlying5
  a5 := Tryz.isAgg5
  z5 := Tryz.sizeOf5
  v5 := Tryz.zeroValue5
  t9 := Tryz.underlying9
  a9 := Tryz.isAgg9
  z9 := Tryz.sizeOf9
  v9 := Tryz.zeroValue9
  t28 := Tryz.underlying24
  a28 := Tryz.isAgg24
  z28 := Tryz.sizeOf24
  v28 := Tryz.zeroValue24
  t46 := Tryz.underlying135
  a46 := Tryz.isAgg135
  z46 := Tryz.sizeOf135
  v46 := Tryz.zeroValue135
  t51 := Tryz.underlying181
  a51 := Tryz.isAgg181
  z51 := Tryz.sizeOf181
  v51 := Tryz.zeroValue181
  t53 := Tryz.underlying183
  a53 := Tryz.isAgg183
  z53 := Tryz.sizeOf183
  v53 := Tryz.zeroValue183
  t131 := Tryz.underlying157
  a131 := Tryz.isAgg157
  z131 := Tryz.sizeOf157
  v131 := Tryz.zeroValue157
  t182 := Tryz.underlying175
  a182 := Tryz.isAgg175
  z182 := Tryz.sizeOf175
  v182 := Tryz.zeroValue175
  t183 := Tryz.underlying176
  a183 := Tryz.isAgg176
  z183 := Tryz.sizeOf176
  v183 := Tryz.zeroValue176
  t218 := Tryz.underlying208
  a218 := Tryz.isAgg208
  z218 := Tryz.sizeOf208
  v218 := Tryz.zeroValue208
  t222 := Tryz.underlying212
  a222 := Tryz.isAgg212
  z222 := Tryz.sizeOf212
  v222 := Tryz.zeroValue212
  t228 := Tryz.underlying240
  a228 := Tryz.isAgg240
  z228 := Tryz.sizeOf240
  v228 := Tryz.zeroValue240
  t229 := Tryz.underlying172
  a229 := Tryz.isAgg172
  z229 := Tryz.sizeOf172
  v229 := Tryz.zeroValue172
def sh20_ren : Go.Shelf.Ren := ⟨fun | 20 => 130 | n => n, fun | 22 => 24 | 3 => 3 | 4 => 4 | 0 => 0 | n => n, fun | n => n⟩
theorem sh20 : Go.Proofs.Lays2.n20 Tryz.prog sh20_ren where
  mixed := by kernel_rfl
  f20 := Tryz.func130.trans (congrArg some (by kernel_rfl))
  t0 := Tryz.underlying0
  a0 := Tryz.isAgg0
  z0 := Tryz.sizeOf0
  v0 := Tryz.zeroValue0
  t3 := Tryz.underlying3
  a3 := Tryz.isAgg3
  z3 := Tryz.sizeOf3
  v3 := Tryz.zeroValue3
  t4 := Tryz.underlying4
  a4 := Tryz.isAgg4
  z4 := Tryz.sizeOf4
  v4 := Tryz.zeroValue4
  t22 := Tryz.underlying24
  a22 := Tryz.isAgg24
  z22 := Tryz.sizeOf24
  v22 := Tryz.zeroValue24
  i3 := by kernel_rfl
section
open Go.RowKit
theorem insNil (w : World) : Calls Tryz.prog 149 #[.slice none 0 0, .int .i64 0, .int .i64 0] w fun e w' => e = .returned (.tuple #[]) ∧ w' = w := by
  go_enter Tryz.func149, Tryz.ntmps149
  go_wp2
  refine wp_loop_rounds 1 ?_
  rw [rounds_succ]
  go_wp2
  go_end0
  exact ⟨rfl, rfl⟩
set_option maxRecDepth 100000 in
theorem pdqNil (w : World) : Calls Tryz.prog 95 #[.slice none 0 0, .int .i64 0, .int .i64 0, .int .i64 0] w fun e w' => e = .returned (.tuple #[]) ∧ w' = w := by
  go_enter Tryz.func95, Tryz.ntmps95
  go_wp2
  refine wp_loop_rounds 1 ?_
  rw [rounds_succ]
  go_wp2_with (first | (go_at_call 149; refine (insNil _).mono ?_; rintro e w' ⟨rfl, rfl⟩))
  refine bodyPost_ret (results_none rfl _ _ _) rfl ?_
  exact ⟨rfl, rfl⟩
theorem lenNil (w : World) : Calls Tryz.prog 96 #[.int .u64 0] w fun e w' => e = .returned (.int .i64 0) ∧ w' = w :=
  calls_of_every_depth fun D => Any.lenWalkInAll { sh189 with } D 0 w (by omega)
set_option maxRecDepth 100000 in
theorem sortNil (w : World) : Calls Tryz.prog 48 #[.slice none 0 0] w fun e w' => e = .returned (.tuple #[]) ∧ w' = w := by
  go_enter Tryz.func48, Tryz.ntmps48
  go_wp2_with (first
    | (go_at_call 96; refine (lenNil _).mono ?_; rintro e w' ⟨rfl, rfl⟩)
    | (go_at_call 95; refine (pdqNil _).mono ?_; rintro e w' ⟨rfl, rfl⟩))
  go_end0
  exact ⟨rfl, rfl⟩
end
def isIns (x : Int) : List Int → List Int
  | [] => [x]
  | y :: l => cond (decide (x ≤ y)) (x :: y :: l) (y :: isIns x l)
def isSrt : List Int → List Int
  | [] => []
  | x :: l => isIns x (isSrt l)
theorem isIns_perm (x : Int) : ∀ l, (isIns x l).Perm (x :: l)
  | [] => List.Perm.refl _
  | y :: l => by
    unfold isIns
    cases decide (x ≤ y)
    · exact ((isIns_perm x l).cons y).trans (List.Perm.swap x y l)
    · exact List.Perm.refl _
theorem isSrt_perm : ∀ l, (isSrt l).Perm l
  | [] => List.Perm.refl _
  | x :: l => (isIns_perm x _).trans ((isSrt_perm l).cons x)
theorem isIns_srt (x : Int) : ∀ {l : List Int}, l.Pairwise (· ≤ ·) → (isIns x l).Pairwise (· ≤ ·)
  | [], _ => by simp [isIns]
  | y :: l, h => by
    unfold isIns
    have h1 := List.pairwise_cons.1 h
    cases e : decide (x ≤ y)
    · refine List.pairwise_cons.2 ⟨fun z hz => ?_, isIns_srt x h1.2⟩
      have : ¬ x ≤ y := of_decide_eq_false e
      rcases List.mem_cons.1 ((isIns_perm x l).mem_iff.1 hz) with rfl | hz
      · omega
      · exact h1.1 z hz
    · have : x ≤ y := of_decide_eq_true e
      refine List.pairwise_cons.2 ⟨fun z hz => ?_, h⟩
      rcases List.mem_cons.1 hz with rfl | hz
      · exact this
      · have := h1.1 z hz; omega
theorem isSrt_srt : ∀ l, (isSrt l).Pairwise (· ≤ ·)
  | [] => List.Pairwise.nil
  | x :: l => isIns_srt x (isSrt_srt l)
theorem isSrt_eq (l : List Int) : (l.mergeSort fun x y => decide (x ≤ y)) = isSrt l := by
  refine List.Perm.eq_of_pairwise (le := (· ≤ ·)) (fun a b _ _ h1 h2 => by omega) ?_ (isSrt_srt l) ((List.mergeSort_perm l _).trans (isSrt_perm l).symm)
  have h1 := List.pairwise_mergeSort (le := fun x y : Int => decide (x ≤ y)) (fun a b c h1 h2 => by simp at h1 h2 ⊢; omega) (fun a b => by simp; omega) l
  exact h1.imp (fun h => of_decide_eq_true h)
def V_Sort_int (k : Nat) (a0 : List Int) : Option (List Int) := cond (decide (a0.length < 4611686018427387904)) (some (isSrt a0)) none
theorem V_Sort_int_gives (k : Nat) (a0 : List Int) (r : List Int) (H : V_Sort_int k a0 = some r) : GivesB Tryz.prog 48 [V.one (Cell.ow 1 (List.map eI a0))] [] [0] [] [] [V.one (Cell.ow 1 (List.map eI r))] := by
  obtain ⟨h, H⟩ := condG H
  rw [← isSrt_eq] at H
  cases H
  exact sort_gives (fun blk off cap zs w h1 h2 h3 => Any.slices_Sort_int sh189 blk off cap zs w h1 h2 h3) sortNil a0 (of_decide_eq_true h)
def V_Compact_int (k : Nat) (a0 : List Int) : Option (List Int) := cond (decide (a0.length ≤ 9223372036854775807)) (some (Go.Lib.compact a0)) none
theorem V_Compact_int_gives (k : Nat) (a0 : List Int) (r : List Int) (H : V_Compact_int k a0 = some r) : Gives Tryz.prog 130 [V.one (Cell.ow 1 (List.map eI a0))] [] [V.one (Cell.ow 1 (List.map eI r))] [] := by
  obtain ⟨h, H⟩ := condG H
  cases H
  exact compact_gives (fun blk off cap zs w h1 h2 h3 => Any.slices_Compact_int sh20 blk off cap zs w h1 h2 h3) (fun a cap w => Any.slices_Compact_int_empty sh20 a cap w) a0 (of_decide_eq_true h)
end Go.Proofs.YtnbjjmnohlnplaaGreat.M
