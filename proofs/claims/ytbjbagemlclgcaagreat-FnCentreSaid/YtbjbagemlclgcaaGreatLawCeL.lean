/- What a centre gives is good for no more than what it was shown and asked; it is sealed for who it is for -/
import Derived.Test.YtbjbagemlclgcaaGreatRows
import Derived.Test.YtbjbagemlclgcaaGreatQCeL
import Derived.WalkKit
import Derived.ProofKit
import Derived.OpenShut
import Derived.ShutString
import Derived.ChangeOld
import Derived.Below
import Derived.SizedLaws
namespace Go.Proofs.YtbjbagemlclgcaaGreat.fnCentre
open Go.ChangeShapes Go.WideShapes Go.ChangeAt Go.RowKit
set_option linter.unusedVariables false
open M
theorem own : ownKnob Tryz.prog.godebug = none := by kernel_rfl
def initL : List Char := ([104, 97, 114, 110, 101, 115, 115, 32, 97, 51, 98, 53, 53, 53, 100, 98, 100, 48, 57, 49, 55, 102, 101, 99, 56, 99, 97, 100, 98, 51, 101, 48, 98, 48, 98, 55, 52, 55, 98, 100, 55, 99, 102, 50, 98, 99, 55, 55, 51, 98, 56, 53, 98, 55, 50, 57, 53, 100, 49, 50, 48, 101, 50, 55, 54, 101, 98, 54, 99, 97, 101, 102, 32, 99, 117, 116, 32, 97, 116, 32, 108, 111, 111, 112, 46, 101, 120, 97, 109, 112, 108, 101, 47, 103, 48, 48, 55, 54, 57, 47, 108, 97, 119, 115, 46, 70, 110, 69, 120, 97, 99, 116, 83, 101, 114, 118, 101, 32, 108, 111, 111, 112, 46, 101, 120, 97, 109, 112, 108, 101, 47, 103, 48, 48, 55, 54, 57, 47, 108, 97, 119, 115, 46, 70, 110, 83, 101, 114, 118, 101, 32, 108, 111, 111, 112, 46, 101, 120, 97, 109, 112, 108, 101, 47, 103, 48, 48, 55, 54, 57, 47, 108, 97, 119, 115, 46, 70, 110, 69, 120, 97, 99, 116, 67, 101, 110, 116, 114, 101, 32, 108, 111, 111, 112, 46, 101, 120, 97, 109, 112, 108, 101, 47, 103, 48, 48, 55, 54, 57, 47, 108, 97, 119, 115, 46, 70, 110, 67, 101, 110, 116, 114, 101] : List Nat).map Char.ofNat
theorem initO : Tryz.prog.initOrder = "harness a3b555dbd0917fec8cadb3e0b0b747bd7cf2bc773b85b7295d120e276eb6caef cut at loop.example/g00769/laws.FnExactServe loop.example/g00769/laws.FnServe loop.example/g00769/laws.FnExactCentre loop.example/g00769/laws.FnCentre" := by kernel_rfl
theorem initP : "harness a3b555dbd0917fec8cadb3e0b0b747bd7cf2bc773b85b7295d120e276eb6caef cut at loop.example/g00769/laws.FnExactServe loop.example/g00769/laws.FnServe loop.example/g00769/laws.FnExactCentre loop.example/g00769/laws.FnCentre" = String.ofList initL := by kernel_rfl
theorem initT : Tryz.prog.initOrder.toList = initL := by rw [initO, initP, String.toList_ofList]
abbrev ch (n : Nat) : Char := Char.ofNat n
theorem words : behindMainWord (wordsSigns Tryz.prog.initOrder.toList) = [[ch 99, ch 117, ch 116], [ch 97, ch 116], [ch 108, ch 111, ch 111, ch 112, ch 46, ch 101, ch 120, ch 97, ch 109, ch 112, ch 108, ch 101, ch 47, ch 103, ch 48, ch 48, ch 55, ch 54, ch 57, ch 47, ch 108, ch 97, ch 119, ch 115, ch 46, ch 70, ch 110, ch 69, ch 120, ch 97, ch 99, ch 116, ch 83, ch 101, ch 114, ch 118, ch 101], [ch 108, ch 111, ch 111, ch 112, ch 46, ch 101, ch 120, ch 97, ch 109, ch 112, ch 108, ch 101, ch 47, ch 103, ch 48, ch 48, ch 55, ch 54, ch 57, ch 47, ch 108, ch 97, ch 119, ch 115, ch 46, ch 70, ch 110, ch 83, ch 101, ch 114, ch 118, ch 101], [ch 108, ch 111, ch 111, ch 112, ch 46, ch 101, ch 120, ch 97, ch 109, ch 112, ch 108, ch 101, ch 47, ch 103, ch 48, ch 48, ch 55, ch 54, ch 57, ch 47, ch 108, ch 97, ch 119, ch 115, ch 46, ch 70, ch 110, ch 69, ch 120, ch 97, ch 99, ch 116, ch 67, ch 101, ch 110, ch 116, ch 114, ch 101], [ch 108, ch 111, ch 111, ch 112, ch 46, ch 101, ch 120, ch 97, ch 109, ch 112, ch 108, ch 101, ch 47, ch 103, ch 48, ch 48, ch 55, ch 54, ch 57, ch 47, ch 108, ch 97, ch 119, ch 115, ch 46, ch 70, ch 110, ch 67, ch 101, ch 110, ch 116, ch 114, ch 101]] := by
  rw [initT]
  kernel_rfl
theorem mayE : Tryz.prog.mayEnter = true := by
  rw [Program.mayEnter.eq_1, words]
  kernel_rfl
theorem liftsF : Tryz.prog.liftsFinal = Rows.fnCentreRow.lifted := by
  rw [Program.liftsFinal.eq_1, Program.headLifts.eq_1, words]
  kernel_rfl
theorem makeE : Tryz.prog.make = some Rows.fnCentreRow.make := by
  rw [Program.make.eq_1, Program.headLifts.eq_1, words]
  kernel_rfl
theorem closed : joinedFacts Tryz.prog 6 Tryz.f6 Rows.fnCentreSpec Rows.fnCentreRow = true := by
  unfold joinedFacts
  rw [mayE, liftsF, makeE]
  kernel_rfl
set_option maxRecDepth 100000 in
theorem lifted (os : Os) (started : os.Started) (H : Type) (enc : TypeId × Value → H) :
    ReturnsInHanded {} Tryz.checked os 6 .any (Rows.fnCentreSpec.pre6 enc Tryz.prog Tryz.f6 Rows.fnCentreRow.domain false) (Rows.fnCentreSpec.post enc Tryz.prog Tryz.f6 false true false false) := by
  refine returnsInHanded_of_change_sized (C := Tryz.checked) own started (by kernel_rfl) Tryz.func6
    (ChangeSpec.witness6 (enc := enc) (C := Tryz.checked) false ⟨#[], #[.slice none 0 0], []⟩ 8 (by kernel_rfl) (by kernel_rfl) (by kernel_rfl) (by kernel_rfl)) ?_
  intro W base args ds gs before hval0 hW hcnd hsz0 _
  refine Go.MG.law_calls (ts := [54]) (tb := 4) (by kernel_rfl) rfl (by kernel_rfl) rfl Tryz.underlying4 rfl hW fun p hA => ?_
  obtain ⟨v0, vs0, d0, ds0, p0, q0, hargs, rfl, rfl, h0, r0⟩ := trodAll_cons hA
  obtain ⟨rfl, rfl, rfl⟩ := trodAll_nil r0
  obtain ⟨a0, x0, w0⟩ := Go.MG.arg_slice Tryz.underlying54 open54 (hval0 0 54 v0 rfl (by rw [← Array.getElem?_toList, hargs]; rfl)) h0
  obtain ⟨k, hk⟩ := M.lawCentre a0 w0
  refine ⟨⟨rfl, rfl, rfl⟩, [.one (.sl true (List.map Go.MG.eB a0))], hargs ▸ (Go.MG.RXVs.cons0 x0 Go.MG.RXVs.nil0), M.g6 k a0 true hk⟩
theorem over : Rows.fnCentreRow.holds Tryz.pinned (OpenSpec.ofChange Rows.fnCentreSpec) :=
  OpenClaim.holds_of_wide 6 Tryz.f6 rfl rfl rfl rfl rfl rfl rfl ⟨rfl, rfl, rfl, rfl, rfl⟩ rfl rfl rfl rfl rfl (by kernel_rfl) Tryz.func6 closed
    (of_decide_eq_true (by kernel_rfl)) (by unfold Func.isWrapper; first | (rw [if_pos (by decide +kernel)]; kernel_rfl) | (rw [if_neg (by decide +kernel)]; exact ⟨rfl, rfl⟩))
    (fun os started H enc _ => lifted os started H enc)
theorem proved : Rows.FnCentreSaid := over
#print axioms proved
end Go.Proofs.YtbjbagemlclgcaaGreat.fnCentre
namespace Go.Proofs.YtbjbagemlclgcaaGreat
/-- The row, under a short name, for the claim. -/
theorem fnCentre_holds : Rows.FnCentreSaid := fnCentre.proved
end Go.Proofs.YtbjbagemlclgcaaGreat
