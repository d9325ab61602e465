/- The library's sort (and Compact) at []int, as contracts. -/
import Derived.Test.YtcolcmjcjpikcaaMgZd
import Derived.Test.YtcolcmjcjpikcaaProg
namespace Go.Proofs.Ytcolcmjcjpikcaa.M
open Go Go.MG
set_option linter.unusedVariables false
def sh189_ren : Go.Shelf.Ren := ⟨fun | 189 => 261 | 125 => 287 | 257 => 286 | 128 => 303 | 129 => 304 | 294 => 294 | 295 => 295 | 296 => 296 | 297 => 297 | 298 => 298 | 299 => 299 | 216 => 300 | 300 => 301 | 301 => 302 | 328 => 305 | 329 => 306 | 330 => 307 | 331 => 308 | 332 => 309 | 215 => 310 | 343 => 311 | n => n, fun | 28 => 24 | 3 => 3 | 46 => 236 | 0 => 0 | 51 => 291 | 53 => 293 | 4 => 4 | 183 => 285 | 182 => 284 | 131 => 240 | 5 => 5 | 9 => 9 | 218 => 294 | 222 => 298 | 228 => 300 | 229 => 147 | n => n, fun | n => n⟩
theorem sh189 : Go.Proofs.Lays.n189 Try.prog sh189_ren where
  mixed := by kernel_rfl
  f125 := Try.func287.trans (congrArg some (by kernel_rfl))
  f128 := Try.func303.trans (congrArg some (by kernel_rfl))
  f129 := Try.func304.trans (congrArg some (by kernel_rfl))
  f189 := Try.func261.trans (congrArg some (by kernel_rfl))
  f215 := Try.func310.trans (congrArg some (by kernel_rfl))
  f216 := Try.func300.trans (congrArg some (by kernel_rfl))
  f257 := Try.func286.trans (congrArg some (by kernel_rfl))
  f294 := Try.func294.trans (congrArg some (by kernel_rfl))
  f295 := Try.func295.trans (congrArg some (by kernel_rfl))
  f296 := Try.func296.trans (congrArg some (by kernel_rfl))
  f297 := Try.func297.trans (congrArg some (by kernel_rfl))
  f298 := Try.func298.trans (congrArg some (by kernel_rfl))
  f299 := Try.func299.trans (congrArg some (by kernel_rfl))
  f300 := Try.func301.trans (congrArg some (by kernel_rfl))
  f301 := Try.func302.trans (congrArg some (by kernel_rfl))
  f328 := Try.func305.trans (congrArg some (by kernel_rfl))
  f329 := Try.func306.trans (congrArg some (by kernel_rfl))
  f330 := Try.func307.trans (congrArg some (by kernel_rfl))
  f331 := Try.func308.trans (congrArg some (by kernel_rfl))
  f332 := Try.func309.trans (congrArg some (by kernel_rfl))
  f343 := Try.func311.trans (congrArg some (by kernel_rfl))
  t0 := Try.underlying0
  a0 := Try.isAgg0
  z0 := Try.sizeOf0
  v0 := Try.zeroValue0
  t3 := Try.underlying3
  a3 := Try.isAgg3
  z3 := Try.sizeOf3
  v3 := Try.zeroValue3
  t4 := Try.underlying4
  a4 := Try.isAgg4
  z4 := Try.sizeOf4
  v4 := Try.zeroValue4
  t5 := Try.underlying5
  a5 := Try.isAgg5
  z5 := Try.sizeOf5
  v5 := Try.zeroValue5
  t9 := Try.underlying9
  a9 := Try.isAgg9
  z9 := Try.sizeOf9
  v9 := Try.zeroValue9
  t28 := Try.underlying24
  a28 := Try.isAgg24
  z28 := Try.sizeOf24
  v28 := Try.zeroValue24
  t46 := Try.underlying236
  a46 := Try.isAgg236
  z46 := Try.sizeOf236
  v46 := Try.zeroValue236
  t51 := Try.underlying291
  a51 := Try.isAgg291
  z51 := Try.sizeOf291
  v51 := Try.zeroValue291
  t53 := Try.underlying293
  a53 := Try.isAgg293
  z53 := Try.sizeOf293
  v53 := Try.zeroValue293
  t131 := Try.underlying240
  a131 := Try.isAgg240
  z131 := Try.sizeOf240
  v131 := Try.zeroValue240
  t182 := Try.underlying284
  a182 := Try.isAgg284
  z182 := Try.sizeOf284
  v182 := Try.zeroValue284
  t183 := Try.underlying285
  a183 := Try.isAgg285
  z183 := Try.sizeOf285
  v183 := Try.zeroValue285
  t218 := Try.underlying294
  a218 := Try.isAgg294
  z218 := Try.sizeOf294
  v218 := Try.zeroValue294
  t222 := Try.underlying298
  a222 := Try.isAgg298
  z222 := Try.sizeOf298
  v222 := Try.zeroValue298
  t228 := Try.underlying300
  a228 := Try.isAgg300
  z228 := Try.sizeOf300
  v228 := Try.zeroValue300
  t229 := Try.underlying147
  a229 := Try.isAgg147
  z229 := Try.sizeOf147
  v229 := Try.zeroValue147
def sh20_ren : Go.Shelf.Ren := ⟨fun | 20 => 262 | n => n, fun | 22 => 24 | 3 => 3 | 4 => 4 | 0 => 0 | n => n, fun | n => n⟩
theorem sh20 : Go.Proofs.Lays2.n20 Try.prog sh20_ren where
  mixed := by kernel_rfl
  f20 := Try.func262.trans (congrArg some (by kernel_rfl))
  t0 := Try.underlying0
  a0 := Try.isAgg0
  z0 := Try.sizeOf0
  v0 := Try.zeroValue0
  t3 := Try.underlying3
  a3 := Try.isAgg3
  z3 := Try.sizeOf3
  v3 := Try.zeroValue3
  t4 := Try.underlying4
  a4 := Try.isAgg4
  z4 := Try.sizeOf4
  v4 := Try.zeroValue4
  t22 := Try.underlying24
  a22 := Try.isAgg24
  z22 := Try.sizeOf24
  v22 := Try.zeroValue24
  i3 := by kernel_rfl
section
open Go.RowKit
theorem insNil (w : World) : Calls Try.prog 294 #[.slice none 0 0, .int .i64 0, .int .i64 0] w fun e w' => e = .returned (.tuple #[]) ∧ w' = w := by
  go_enter Try.func294, Try.ntmps294
  go_wp2
  refine wp_loop_rounds 1 ?_
  rw [rounds_succ]
  go_wp2
  go_end0
  exact ⟨rfl, rfl⟩
set_option maxRecDepth 100000 in
theorem pdqNil (w : World) : Calls Try.prog 286 #[.slice none 0 0, .int .i64 0, .int .i64 0, .int .i64 0] w fun e w' => e = .returned (.tuple #[]) ∧ w' = w := by
  go_enter Try.func286, Try.ntmps286
  go_wp2
  refine wp_loop_rounds 1 ?_
  rw [rounds_succ]
  go_wp2_with (first | (go_at_call 294; refine (insNil _).mono ?_; rintro e w' ⟨rfl, rfl⟩))
  refine bodyPost_ret (results_none rfl _ _ _) rfl ?_
  exact ⟨rfl, rfl⟩
theorem lenNil (w : World) : Calls Try.prog 287 #[.int .u64 0] w fun e w' => e = .returned (.int .i64 0) ∧ w' = w :=
  calls_of_every_depth fun D => Any.lenWalkInAll { sh189 with } D 0 w (by omega)
set_option maxRecDepth 100000 in
theorem sortNil (w : World) : Calls Try.prog 261 #[.slice none 0 0] w fun e w' => e = .returned (.tuple #[]) ∧ w' = w := by
  go_enter Try.func261, Try.ntmps261
  go_wp2_with (first
    | (go_at_call 287; refine (lenNil _).mono ?_; rintro e w' ⟨rfl, rfl⟩)
    | (go_at_call 286; refine (pdqNil _).mono ?_; rintro e w' ⟨rfl, rfl⟩))
  go_end0
  exact ⟨rfl, rfl⟩
end
def Fslices_Sort_int (k : Nat) (a0 : List Int) : Option (List Int) := cond (decide (a0.length < 4611686018427387904)) (some (a0.mergeSort fun x y => decide (x ≤ y))) none
theorem Fslices_Sort_int_gives (k : Nat) (a0 : List Int) (r : List Int) (H : Fslices_Sort_int k a0 = some r) : GivesB Try.prog 261 [V.one (Cell.ow 1 (List.map eI a0))] [] [0] [] [] [V.one (Cell.ow 1 (List.map eI r))] := by
  obtain ⟨h, H⟩ := condG H
  cases H
  exact sort_gives (fun blk off cap zs w h1 h2 h3 => Any.slices_Sort_int sh189 blk off cap zs w h1 h2 h3) sortNil a0 (of_decide_eq_true h)
def Fslices_Compact_int (k : Nat) (a0 : List Int) : Option (List Int) := cond (decide (a0.length ≤ 9223372036854775807)) (some (Go.Lib.compact a0)) none
theorem Fslices_Compact_int_gives (k : Nat) (a0 : List Int) (r : List Int) (H : Fslices_Compact_int k a0 = some r) : Gives Try.prog 262 [V.one (Cell.ow 1 (List.map eI a0))] [] [V.one (Cell.ow 1 (List.map eI r))] [] := by
  obtain ⟨h, H⟩ := condG H
  cases H
  exact compact_gives (fun blk off cap zs w h1 h2 h3 => Any.slices_Compact_int sh20 blk off cap zs w h1 h2 h3) (fun a cap w => Any.slices_Compact_int_empty sh20 a cap w) a0 (of_decide_eq_true h)
end Go.Proofs.Ytcolcmjcjpikcaa.M
