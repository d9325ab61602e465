/- The library's DeleteFunc at []int with the closure of Concerns, as a contract. -/
import Derived.Test.YtnbjjmnohlnplaaGreatShDw
import Derived.Test.YtnbjjmnohlnplaaGreatKDw2
namespace Go.Proofs.YtnbjjmnohlnplaaGreat.M
open Go Go.MG
set_option linter.unusedVariables false
def sh10_ren : Go.Shelf.Ren := ⟨fun | 10 => 167 | 6 => 166 | n => n, fun | 22 => 24 | 23 => 3 | 25 => 79 | 3 => 3 | 4 => 4 | 0 => 0 | n => n, fun | n => n⟩
theorem sh10 : Go.Proofs.SlLaysH.n10 Tryz.prog sh10_ren where
  mixed := by kernel_rfl
  f6 := ⟨ "slices.IndexFunc[[]int,int]", by decide, Tryz.func166.trans (congrArg some (by kernel_rfl))⟩
  f10 := ⟨ "slices.DeleteFunc[[]int,int]", by decide, Tryz.func167.trans (congrArg some (by kernel_rfl))⟩
  t0 := Tryz.underlying0
  a0 := Tryz.isAgg0
  z0 := Tryz.sizeOf0
  v0 := Tryz.zeroValue0
  t3 := Tryz.underlying3
  a3 := Tryz.isAgg3
  z3 := Tryz.sizeOf3
  v3 := Tryz.zeroValue3
  t4 := Tryz.underlying4
  a4 := Tryz.isAgg4
  z4 := Tryz.sizeOf4
  v4 := Tryz.zeroValue4
  t22 := Tryz.underlying24
  a22 := Tryz.isAgg24
  z22 := Tryz.sizeOf24
  v22 := Tryz.zeroValue24
  a23 := Tryz.isAgg3
  z23 := Tryz.sizeOf3
  t25 := Tryz.underlying79
  a25 := Tryz.isAgg79
  z25 := Tryz.sizeOf79
  v25 := Tryz.zeroValue79
section
open Go.RowKit
theorem cloDel (W : World) (x : Int) : Go.Proofs.FnGives Tryz.prog 168 #[] #[.int .i64 x] (.bool (!(decide (0 ≤ x) && decide (x ≤ 2)))) W := by
  show Calls Tryz.prog 168 #[.int .i64 x] W _
  go_enter Tryz.func168, Tryz.ntmps168
  go_wp2
  · rename_i h
    go_ret
    refine ⟨?_, 0, rfl⟩
    rw [decide_eq_true h, Bool.true_and]; rfl
  · rename_i h
    go_ret
    refine ⟨?_, 0, rfl⟩
    rw [decide_eq_false (by omega : ¬ 0 ≤ x)]; rfl
end
def V_DeleteFunc_int__impl_Concerns_1 (k : Nat) (a0 : List Int) : Option (List Int) := cond (decide (0 < a0.length ∧ a0.length ≤ 9223372036854775807)) (some (a0.filter fun x => decide (0 ≤ x) && decide (x ≤ 2))) none
theorem V_DeleteFunc_int__impl_Concerns_1_gives (k : Nat) (a0 : List Int) (r : List Int) (H : V_DeleteFunc_int__impl_Concerns_1 k a0 = some r) : Gives Tryz.prog 167 [V.one (Cell.ow 1 (List.map eI a0)), V.one (Cell.clo 168 [])] [] [V.one (Cell.ow 1 (List.map eI r))] [] := by
  obtain ⟨h, H⟩ := condG H
  cases H
  have h := of_decide_eq_true h
  have := del_gives (P := Tryz.prog) (f := 167) (g := 168) (fun x => !(decide (0 ≤ x) && decide (x ≤ 2))) cloDel (fun blk off cap d w h1 h2 h3 h4 h5 => AnyE.slices_DeleteFunc sh10 (Value.int .i64) (fun _ => rfl) _ 168 #[] (enters_of Tryz.func168 (by decide) rfl) 0 Tryz.zeroValue3 blk off cap d w h1 h2 h3 h4 h5) a0 (fun e => by rw [e] at h; simp at h) h.2
  simpa using this
end Go.Proofs.YtnbjjmnohlnplaaGreat.M
