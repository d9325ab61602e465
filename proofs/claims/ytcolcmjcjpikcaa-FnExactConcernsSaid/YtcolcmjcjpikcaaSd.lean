/- The library's DeleteFunc at []int with the closure of Concerns, as a contract. -/
import Derived.Test.YtcolcmjcjpikcaaSh
import Derived.Test.YtcolcmjcjpikcaaMgZe
namespace Go.Proofs.Ytcolcmjcjpikcaa.M
open Go Go.MG
set_option linter.unusedVariables false
def sh10_ren : Go.Shelf.Ren := ⟨fun | 10 => 182 | 6 => 129 | n => n, fun | 22 => 24 | 23 => 3 | 25 => 176 | 3 => 3 | 4 => 4 | 0 => 0 | n => n, fun | n => n⟩
theorem sh10 : Go.Proofs.SlLaysH.n10 Try.prog sh10_ren where
  mixed := by kernel_rfl
  f6 := ⟨ "slices.IndexFunc[[]int,int]", by decide, Try.func129.trans (congrArg some (by kernel_rfl))⟩
  f10 := ⟨ "slices.DeleteFunc[[]int,int]", by decide, Try.func182.trans (congrArg some (by kernel_rfl))⟩
  t0 := Try.underlying0
  a0 := Try.isAgg0
  z0 := Try.sizeOf0
  v0 := Try.zeroValue0
  t3 := Try.underlying3
  a3 := Try.isAgg3
  z3 := Try.sizeOf3
  v3 := Try.zeroValue3
  t4 := Try.underlying4
  a4 := Try.isAgg4
  z4 := Try.sizeOf4
  v4 := Try.zeroValue4
  t22 := Try.underlying24
  a22 := Try.isAgg24
  z22 := Try.sizeOf24
  v22 := Try.zeroValue24
  a23 := Try.isAgg3
  z23 := Try.sizeOf3
  t25 := Try.underlying176
  a25 := Try.isAgg176
  z25 := Try.sizeOf176
  v25 := Try.zeroValue176
section
open Go.RowKit
theorem cloDel (W : World) (x : Int) : Go.Proofs.FnGives Try.prog 183 #[] #[.int .i64 x] (.bool (!(decide (0 ≤ x) && decide (x ≤ 2)))) W := by
  show Calls Try.prog 183 #[.int .i64 x] W _
  go_enter Try.func183, Try.ntmps183
  go_wp2
  · rename_i h
    go_ret
    refine ⟨?_, 0, rfl⟩
    rw [decide_eq_true h, Bool.true_and]; rfl
  · rename_i h
    go_ret
    refine ⟨?_, 0, rfl⟩
    rw [decide_eq_false (by omega : ¬ 0 ≤ x)]; rfl
end
def Fslices_DeleteFunc_int__impl_Concerns_1 (k : Nat) (a0 : List Int) : Option (List Int) := cond (decide (0 < a0.length ∧ a0.length ≤ 9223372036854775807)) (some (a0.filter fun x => decide (0 ≤ x) && decide (x ≤ 2))) none
theorem Fslices_DeleteFunc_int__impl_Concerns_1_gives (k : Nat) (a0 : List Int) (r : List Int) (H : Fslices_DeleteFunc_int__impl_Concerns_1 k a0 = some r) : Gives Try.prog 182 [V.one (Cell.ow 1 (List.map eI a0)), V.one (Cell.clo 183 [])] [] [V.one (Cell.ow 1 (List.map eI r))] [] := by
  obtain ⟨h, H⟩ := condG H
  cases H
  have h := of_decide_eq_true h
  have := del_gives (P := Try.prog) (f := 182) (g := 183) (fun x => !(decide (0 ≤ x) && decide (x ≤ 2))) cloDel (fun blk off cap d w h1 h2 h3 h4 h5 => AnyE.slices_DeleteFunc sh10 (Value.int .i64) (fun _ => rfl) _ 183 #[] (enters_of Try.func183 (by decide) rfl) 0 Try.zeroValue3 blk off cap d w h1 h2 h3 h4 h5) a0 (fun e => by rw [e] at h; simp at h) h.2
  simpa using this
end Go.Proofs.Ytcolcmjcjpikcaa.M
