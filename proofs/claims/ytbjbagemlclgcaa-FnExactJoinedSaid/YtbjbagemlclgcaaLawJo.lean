/- The program's Joined answers as the reference's does -/
import Derived.Test.YtbjbagemlclgcaaRows
import Derived.Test.YtbjbagemlclgcaaQJo
import Derived.WalkKit
import Derived.ProofKit
import Derived.OpenShut
import Derived.ShutString
import Derived.ChangeOld
import Derived.Below
import Derived.SizedLaws
namespace Go.Proofs.Ytbjbagemlclgcaa.fnExactJoined
open Go.ChangeShapes Go.WideShapes Go.ChangeAt Go.RowKit
set_option linter.unusedVariables false
open M
theorem own : ownKnob Try.prog.godebug = none := by kernel_rfl
def initL : List Char := ([104, 97, 114, 110, 101, 115, 115, 32, 98, 50, 50, 99, 50, 101, 52, 51, 100, 101, 54, 49, 55, 50, 54, 98, 52, 54, 50, 102, 56, 48, 53, 51, 101, 99, 49, 51, 50, 99, 55, 101, 56, 100, 56, 102, 102, 99, 97, 53, 98, 56, 57, 52, 49, 99, 53, 56, 53, 52, 54, 57, 51, 100, 57, 54, 54, 48, 51, 51, 56, 52, 49, 49, 32, 99, 117, 116, 32, 97, 116, 32, 108, 111, 111, 112, 46, 101, 120, 97, 109, 112, 108, 101, 47, 103, 48, 48, 55, 54, 57, 47, 108, 97, 119, 115, 46, 70, 110, 69, 120, 97, 99, 116, 74, 111, 105, 110, 101, 100] : List Nat).map Char.ofNat
theorem initO : Try.prog.initOrder = "harness b22c2e43de61726b462f8053ec132c7e8d8ffca5b8941c5854693d9660338411 cut at loop.example/g00769/laws.FnExactJoined" := by kernel_rfl
theorem initP : "harness b22c2e43de61726b462f8053ec132c7e8d8ffca5b8941c5854693d9660338411 cut at loop.example/g00769/laws.FnExactJoined" = String.ofList initL := by kernel_rfl
theorem initT : Try.prog.initOrder.toList = initL := by rw [initO, initP, String.toList_ofList]
abbrev ch (n : Nat) : Char := Char.ofNat n
theorem words : behindMainWord (wordsSigns Try.prog.initOrder.toList) = [[ch 99, ch 117, ch 116], [ch 97, ch 116], [ch 108, ch 111, ch 111, ch 112, ch 46, ch 101, ch 120, ch 97, ch 109, ch 112, ch 108, ch 101, ch 47, ch 103, ch 48, ch 48, ch 55, ch 54, ch 57, ch 47, ch 108, ch 97, ch 119, ch 115, ch 46, ch 70, ch 110, ch 69, ch 120, ch 97, ch 99, ch 116, ch 74, ch 111, ch 105, ch 110, ch 101, ch 100]] := by
  rw [initT]
  kernel_rfl
theorem mayE : Try.prog.mayEnter = true := by
  rw [Program.mayEnter.eq_1, words]
  kernel_rfl
theorem liftsF : Try.prog.liftsFinal = Rows.fnExactJoinedRow.lifted := by
  rw [Program.liftsFinal.eq_1, Program.headLifts.eq_1, words]
  kernel_rfl
theorem makeE : Try.prog.make = some Rows.fnExactJoinedRow.make := by
  rw [Program.make.eq_1, Program.headLifts.eq_1, words]
  kernel_rfl
theorem closed : joinedFacts Try.prog 3 Try.f3 Rows.fnExactJoinedSpec Rows.fnExactJoinedRow = true := by
  unfold joinedFacts
  rw [mayE, liftsF, makeE]
  kernel_rfl
set_option maxRecDepth 100000 in
theorem lifted (os : Os) (started : os.Started) (H : Type) (enc : TypeId × Value → H) :
    ReturnsInHanded {} Try.checked os 3 .any (Rows.fnExactJoinedSpec.pre6 enc Try.prog Try.f3 Rows.fnExactJoinedRow.domain false) (Rows.fnExactJoinedSpec.post enc Try.prog Try.f3 false true false false) := by
  refine returnsInHanded_of_change_sized (C := Try.checked) own started (by kernel_rfl) Try.func3
    (ChangeSpec.witness6 (enc := enc) (C := Try.checked) false ⟨#[], #[.slice none 0 0, .slice none 0 0], []⟩ 8 (by kernel_rfl) (by kernel_rfl) (by kernel_rfl) (by kernel_rfl)) ?_
  intro W base args ds gs before hval0 hW hcnd hsz0 _
  refine Go.MG.law_calls (ts := [22, 22]) (tb := 4) (by kernel_rfl) rfl (by kernel_rfl) rfl Try.underlying4 rfl hW fun p hA => ?_
  obtain ⟨v0, vs0, d0, ds0, p0, q0, hargs, rfl, rfl, h0, r0⟩ := trodAll_cons hA
  obtain ⟨v1, vs1, d1, ds1, p1, q1, rfl, rfl, rfl, h1, r1⟩ := trodAll_cons r0
  obtain ⟨rfl, rfl, rfl⟩ := trodAll_nil r1
  obtain ⟨a0, x0, w0⟩ := Go.MG.arg_slice Try.underlying22 open22 (hval0 0 22 v0 rfl (by rw [← Array.getElem?_toList, hargs]; rfl)) h0
  obtain ⟨a1, x1, w1⟩ := Go.MG.arg_slice Try.underlying22 open22 (hval0 1 22 v1 rfl (by rw [← Array.getElem?_toList, hargs]; rfl)) h1
  obtain ⟨k, hk⟩ := M.lawExactJoined a0 a1 w0 w1
  refine ⟨⟨rfl, rfl, rfl⟩, [.one (.sl true (List.map eTlaws_Rule a0)), .one (.sl true (List.map eTlaws_Rule a1))], hargs ▸ (Go.MG.RXVs.cons0 x0 (Go.MG.RXVs.cons0 x1 Go.MG.RXVs.nil0)), M.g3 k true true a0 a1 true hk⟩
theorem over : Rows.fnExactJoinedRow.holds Try.pinned (OpenSpec.ofChange Rows.fnExactJoinedSpec) :=
  OpenClaim.holds_of_wide 3 Try.f3 rfl rfl rfl rfl rfl rfl rfl ⟨rfl, rfl, rfl, rfl, rfl⟩ rfl rfl rfl rfl rfl (by kernel_rfl) Try.func3 closed
    (of_decide_eq_true (by kernel_rfl)) (by unfold Func.isWrapper; first | (rw [if_pos (by decide +kernel)]; kernel_rfl) | (rw [if_neg (by decide +kernel)]; exact ⟨rfl, rfl⟩))
    (fun os started H enc _ => lifted os started H enc)
theorem proved : Rows.FnExactJoinedSaid := over
#print axioms proved
end Go.Proofs.Ytbjbagemlclgcaa.fnExactJoined
namespace Go.Proofs.Ytbjbagemlclgcaa
/-- The row, under a short name, for the claim. -/
theorem fnExactJoined_holds : Rows.FnExactJoinedSaid := fnExactJoined.proved
end Go.Proofs.Ytbjbagemlclgcaa
