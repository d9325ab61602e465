/- The library's sort (and Compact) at []int, as contracts. -/
import Derived.Test.YtbaemdkdgghokaaGreatKSe2
import Derived.Test.YtbaemdkdgghokaaGreatProg
namespace Go.Proofs.YtbaemdkdgghokaaGreat.M
open Go Go.MG
set_option linter.unusedVariables false
def sh189_ren : Go.Shelf.Ren := ⟨fun | 189 => 62 | 125 => 150 | 257 => 149 | 128 => 232 | 129 => 233 | 294 => 223 | 295 => 224 | 296 => 225 | 297 => 226 | 298 => 227 | 299 => 228 | 216 => 229 | 300 => 230 | 301 => 231 | 328 => 276 | 329 => 277 | 330 => 278 | 331 => 279 | 332 => 280 | 215 => 281 | 343 => 303 | n => n, fun | 28 => 24 | 3 => 3 | 46 => 182 | 0 => 0 | 51 => 255 | 53 => 257 | 4 => 4 | 183 => 250 | 182 => 249 | 131 => 225 | 5 => 5 | 9 => 9 | 218 => 290 | 222 => 294 | 228 => 319 | 229 => 246 | n => n, fun | n => n⟩
theorem sh189 : Go.Proofs.Lays.n189 Tryz.prog sh189_ren where
  mixed := by kernel_rfl
  f125 := Tryz.func150.trans (congrArg some (by kernel_rfl))
  f128 := Tryz.func232.trans (congrArg some (by kernel_rfl))
  f129 := Tryz.func233.trans (congrArg some (by kernel_rfl))
  f189 := Tryz.func62.trans (congrArg some (by kernel_rfl))
  f215 := Tryz.func281.trans (congrArg some (by kernel_rfl))
  f216 := Tryz.func229.trans (congrArg some (by kernel_rfl))
  f257 := Tryz.func149.trans (congrArg some (by kernel_rfl))
  f294 := Tryz.func223.trans (congrArg some (by kernel_rfl))
  f295 := Tryz.func224.trans (congrArg some (by kernel_rfl))
  f296 := Tryz.func225.trans (congrArg some (by kernel_rfl))
  f297 := Tryz.func226.trans (congrArg some (by kernel_rfl))
  f298 := Tryz.func227.trans (congrArg some (by kernel_rfl))
  f299 := Tryz.func228.trans (congrArg some (by kernel_rfl))
  f300 := Tryz.func230.trans (congrArg some (by kernel_rfl))
  f301 := Tryz.func231.trans (congrArg some (by kernel_rfl))
  f328 := Tryz.func276.trans (congrArg some (by kernel_rfl))
  f329 := Tryz.func277.trans (congrArg some (by kernel_rfl))
  f330 := Tryz.func278.trans (congrArg some (by kernel_rfl))
  f331 := Tryz.func279.trans (congrArg some (by kernel_rfl))
  f332 := Tryz.func280.trans (congrArg some (by kernel_rfl))
  f343 := Tryz.func303.trans (congrArg some (by kernel_rfl))
  t0 := Tryz.underlying0
  a0 := Tryz.isAgg0
  z0 := Tryz.sizeOf0
  v0 := Tryz.zeroValue0
  t3 := Tryz.underlying3
  a3 := Tryz.isAgg3
  z3 := Tryz.sizeOf3
  v3 := Tryz.zeroValue3
  t4 := Tryz.underlying4
  a4 := Tryz.isAgg4
  z4 := Tryz.sizeOf4
  v4 := Tryz.zeroValue4
  t5 := Tryz.underlying5
  a5 := Tryz.isAgg5
  z5 := Tryz.sizeOf5
  v5 := Tryz.zeroValue5
  t9 := Tryz.underlying9
  a9 := Tryz.isAgg9
  z9 := Tryz.sizeOf9
  v9 := Tryz.zeroValue9
  t28 := Tryz.underlying24
  a28 := Tryz.isAgg24
  z28 := Tryz.sizeOf24
  v28 := Tryz.zeroValue24
  t46 := Tryz.underlying182
  a46 := Tryz.isAgg182
  z46 := Tryz.sizeOf182
  v46 := Tryz.zeroValue182
  t51 := Tryz.underlying255
  a51 := Tryz.isAgg255
  z51 := Tryz.sizeOf255
  v51 := Tryz.zeroValue255
  t53 := Tryz.underlying257
  a53 := Tryz.isAgg257
  z53 := Tryz.sizeOf257
  v53 := Tryz.zeroValue257
  t131 := Tryz.underlying225
  a131 := Tryz.isAgg225
  z131 := Tryz.sizeOf225
  v131 := Tryz.zeroValue225
  t182 := Tryz.underlying249
  a182 := Tryz.isAgg249
  z182 := Tryz.sizeOf249
  v182 := Tryz.zeroValue249
  t183 := Tryz.underlying250
  a183 := Tryz.isAgg250
  z183 := Tryz.sizeOf250
  v183 := Tryz.zeroValue250
  t218 := Tryz.underlying290
  a218 := Tryz.isAgg290
  z218 := Tryz.sizeOf290
  v218 := Tryz.zeroValue290
  t222 := Tryz.underlying294
  a222 := Tryz.isAgg294
  z222 := Tryz.sizeOf294
  v222 := Tryz.zeroValue294
  t228 := Tryz.underlying319
  a228 := Tryz.isAgg319
  z228 := Tryz.sizeOf319
  v228 := Tryz.zeroValue319
  t229 := Tryz.underlying246
  a229 := Tryz.isAgg246
  z229 := Tryz.sizeOf246
  v229 := Tryz.zeroValue246
def sh20_ren : Go.Shelf.Ren := ⟨fun | 20 => 205 | n => n, fun | 22 => 24 | 3 => 3 | 4 => 4 | 0 => 0 | n => n, fun | n => n⟩
theorem sh20 : Go.Proofs.Lays2.n20 Tryz.prog sh20_ren where
  mixed := by kernel_rfl
  f20 := Tryz.func205.trans (congrArg some (by kernel_rfl))
  t0 := Tryz.underlying0
  a0 := Tryz.isAgg0
  z0 := Tryz.sizeOf0
  v0 := Tryz.zeroValue0
  t3 := Tryz.underlying3
  a3 := Tryz.isAgg3
  z3 := Tryz.sizeOf3
  v3 := Tryz.zeroValue3
  t4 := Tryz.underlying4
  a4 := Tryz.isAgg4
  z4 := Tryz.sizeOf4
  v4 := Tryz.zeroValue4
  t22 := Tryz.underlying24
  a22 := Tryz.isAgg24
  z22 := Tryz.sizeOf24
  v22 := Tryz.zeroValue24
  i3 := by kernel_rfl
section
open Go.RowKit
theorem insNil (w : World) : Calls Tryz.prog 223 #[.slice none 0 0, .int .i64 0, .int .i64 0] w fun e w' => e = .returned (.tuple #[]) ∧ w' = w := by
  go_enter Tryz.func223, Tryz.ntmps223
  go_wp2
  refine wp_loop_rounds 1 ?_
  rw [rounds_succ]
  go_wp2
  go_end0
  exact ⟨rfl, rfl⟩
set_option maxRecDepth 100000 in
theorem pdqNil (w : World) : Calls Tryz.prog 149 #[.slice none 0 0, .int .i64 0, .int .i64 0, .int .i64 0] w fun e w' => e = .returned (.tuple #[]) ∧ w' = w := by
  go_enter Tryz.func149, Tryz.ntmps149
  go_wp2
  refine wp_loop_rounds 1 ?_
  rw [rounds_succ]
  go_wp2_with (first | (go_at_call 223; refine (insNil _).mono ?_; rintro e w' ⟨rfl, rfl⟩))
  refine bodyPost_ret (results_none rfl _ _ _) rfl ?_
  exact ⟨rfl, rfl⟩
theorem lenNil (w : World) : Calls Tryz.prog 150 #[.int .u64 0] w fun e w' => e = .returned (.int .i64 0) ∧ w' = w :=
  calls_of_every_depth fun D => Any.lenWalkInAll { sh189 with } D 0 w (by omega)
set_option maxRecDepth 100000 in
theorem sortNil (w : World) : Calls Tryz.prog 62 #[.slice none 0 0] w fun e w' => e = .returned (.tuple #[]) ∧ w' = w := by
  go_enter Tryz.func62, Tryz.ntmps62
  go_wp2_with (first
    | (go_at_call 150; refine (lenNil _).mono ?_; rintro e w' ⟨rfl, rfl⟩)
    | (go_at_call 149; refine (pdqNil _).mono ?_; rintro e w' ⟨rfl, rfl⟩))
  go_end0
  exact ⟨rfl, rfl⟩
end
def V_Sort_int (k : Nat) (a0 : List Int) : Option (List Int) := cond (decide (a0.length < 4611686018427387904)) (some (a0.mergeSort fun x y => decide (x ≤ y))) none
theorem V_Sort_int_gives (k : Nat) (a0 : List Int) (r : List Int) (H : V_Sort_int k a0 = some r) : GivesB Tryz.prog 62 [V.one (Cell.ow 1 (List.map eI a0))] [] [0] [] [] [V.one (Cell.ow 1 (List.map eI r))] := by
  obtain ⟨h, H⟩ := condG H
  cases H
  exact sort_gives (fun blk off cap zs w h1 h2 h3 => Any.slices_Sort_int sh189 blk off cap zs w h1 h2 h3) sortNil a0 (of_decide_eq_true h)
def V_Compact_int (k : Nat) (a0 : List Int) : Option (List Int) := cond (decide (a0.length ≤ 9223372036854775807)) (some (Go.Lib.compact a0)) none
theorem V_Compact_int_gives (k : Nat) (a0 : List Int) (r : List Int) (H : V_Compact_int k a0 = some r) : Gives Tryz.prog 205 [V.one (Cell.ow 1 (List.map eI a0))] [] [V.one (Cell.ow 1 (List.map eI r))] [] := by
  obtain ⟨h, H⟩ := condG H
  cases H
  exact compact_gives (fun blk off cap zs w h1 h2 h3 => Any.slices_Compact_int sh20 blk off cap zs w h1 h2 h3) (fun a cap w => Any.slices_Compact_int_empty sh20 a cap w) a0 (of_decide_eq_true h)
end Go.Proofs.YtbaemdkdgghokaaGreat.M
