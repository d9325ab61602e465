/- The program's Centre answers as the reference's does -/
import Derived.Test.YtbjbagemlclgcaaGreatRows
import Derived.Test.YtbjbagemlclgcaaGreatQCe
import Derived.WalkKit
import Derived.ProofKit
import Derived.OpenShut
import Derived.ShutString
import Derived.ChangeOld
import Derived.Below
import Derived.SizedLaws
namespace Go.Proofs.YtbjbagemlclgcaaGreat.fnExactCentre
open Go.ChangeShapes Go.WideShapes Go.ChangeAt Go.RowKit
set_option linter.unusedVariables false
open M
theorem own : ownKnob Tryz.prog.godebug = none := by kernel_rfl
def initL : List Char := ([104, 97, 114, 110, 101, 115, 115, 32, 97, 51, 98, 53, 53, 53, 100, 98, 100, 48, 57, 49, 55, 102, 101, 99, 56, 99, 97, 100, 98, 51, 101, 48, 98, 48, 98, 55, 52, 55, 98, 100, 55, 99, 102, 50, 98, 99, 55, 55, 51, 98, 56, 53, 98, 55, 50, 57, 53, 100, 49, 50, 48, 101, 50, 55, 54, 101, 98, 54, 99, 97, 101, 102, 32, 99, 117, 116, 32, 97, 116, 32, 108, 111, 111, 112, 46, 101, 120, 97, 109, 112, 108, 101, 47, 103, 48, 48, 55, 54, 57, 47, 108, 97, 119, 115, 46, 70, 110, 69, 120, 97, 99, 116, 83, 101, 114, 118, 101, 32, 108, 111, 111, 112, 46, 101, 120, 97, 109, 112, 108, 101, 47, 103, 48, 48, 55, 54, 57, 47, 108, 97, 119, 115, 46, 70, 110, 83, 101, 114, 118, 101, 32, 108, 111, 111, 112, 46, 101, 120, 97, 109, 112, 108, 101, 47, 103, 48, 48, 55, 54, 57, 47, 108, 97, 119, 115, 46, 70, 110, 69, 120, 97, 99, 116, 67, 101, 110, 116, 114, 101, 32, 108, 111, 111, 112, 46, 101, 120, 97, 109, 112, 108, 101, 47, 103, 48, 48, 55, 54, 57, 47, 108, 97, 119, 115, 46, 70, 110, 67, 101, 110, 116, 114, 101] : List Nat).map Char.ofNat
theorem initO : Tryz.prog.initOrder = "harness a3b555dbd0917fec8cadb3e0b0b747bd7cf2bc773b85b7295d120e276eb6caef cut at loop.example/g00769/laws.FnExactServe loop.example/g00769/laws.FnServe loop.example/g00769/laws.FnExactCentre loop.example/g00769/laws.FnCentre" := by kernel_rfl
theorem initP : "harness a3b555dbd0917fec8cadb3e0b0b747bd7cf2bc773b85b7295d120e276eb6caef cut at loop.example/g00769/laws.FnExactServe loop.example/g00769/laws.FnServe loop.example/g00769/laws.FnExactCentre loop.example/g00769/laws.FnCentre" = String.ofList initL := by kernel_rfl
theorem initT : Tryz.prog.initOrder.toList = initL := by rw [initO, initP, String.toList_ofList]
abbrev ch (n : Nat) : Char := Char.ofNat n
theorem words : behindMainWord (wordsSigns Tryz.prog.initOrder.toList) = [[ch 99, ch 117, ch 116], [ch 97, ch 116], [ch 108, ch 111, ch 111, ch 112, ch 46, ch 101, ch 120, ch 97, ch 109, ch 112, ch 108, ch 101, ch 47, ch 103, ch 48, ch 48, ch 55, ch 54, ch 57, ch 47, ch 108, ch 97, ch 119, ch 115, ch 46, ch 70, ch 110, ch 69, ch 120, ch 97, ch 99, ch 116, ch 83, ch 101, ch 114, ch 118, ch 101], [ch 108, ch 111, ch 111, ch 112, ch 46, ch 101, ch 120, ch 97, ch 109, ch 112, ch 108, ch 101, ch 47, ch 103, ch 48, ch 48, ch 55, ch 54, ch 57, ch 47, ch 108, ch 97, ch 119, ch 115, ch 46, ch 70, ch 110, ch 83, ch 101, ch 114, ch 118, ch 101], [ch 108, ch 111, ch 111, ch 112, ch 46, ch 101, ch 120, ch 97, ch 109, ch 112, ch 108, ch 101, ch 47, ch 103, ch 48, ch 48, ch 55, ch 54, ch 57, ch 47, ch 108, ch 97, ch 119, ch 115, ch 46, ch 70, ch 110, ch 69, ch 120, ch 97, ch 99, ch 116, ch 67, ch 101, ch 110, ch 116, ch 114, ch 101], [ch 108, ch 111, ch 111, ch 112, ch 46, ch 101, ch 120, ch 97, ch 109, ch 112, ch 108, ch 101, ch 47, ch 103, ch 48, ch 48, ch 55, ch 54, ch 57, ch 47, ch 108, ch 97, ch 119, ch 115, ch 46, ch 70, ch 110, ch 67, ch 101, ch 110, ch 116, ch 114, ch 101]] := by
  rw [initT]
  kernel_rfl
theorem mayE : Tryz.prog.mayEnter = true := by
  rw [Program.mayEnter.eq_1, words]
  kernel_rfl
theorem liftsF : Tryz.prog.liftsFinal = Rows.fnExactCentreRow.lifted := by
  rw [Program.liftsFinal.eq_1, Program.headLifts.eq_1, words]
  kernel_rfl
theorem makeE : Tryz.prog.make = some Rows.fnExactCentreRow.make := by
  rw [Program.make.eq_1, Program.headLifts.eq_1, words]
  kernel_rfl
theorem closed : joinedFacts Tryz.prog 5 Tryz.f5 Rows.fnExactCentreSpec Rows.fnExactCentreRow = true := by
  unfold joinedFacts
  rw [mayE, liftsF, makeE]
  kernel_rfl
set_option maxRecDepth 100000 in
theorem lifted (os : Os) (started : os.Started) (H : Type) (enc : TypeId × Value → H) :
    ReturnsInHanded {} Tryz.checked os 5 .any (Rows.fnExactCentreSpec.pre6 enc Tryz.prog Tryz.f5 Rows.fnExactCentreRow.domain false) (Rows.fnExactCentreSpec.post enc Tryz.prog Tryz.f5 false true false false) := by
  refine returnsInHanded_of_change_sized (C := Tryz.checked) own started (by kernel_rfl) Tryz.func5
    (ChangeSpec.witness6 (enc := enc) (C := Tryz.checked) false ⟨#[], #[.agg #[.slice none 0 0, .slice none 0 0, .slice none 0 0, .slice none 0 0, .int .i64 (0)], .int .i64 (0), .int .i64 (0), .int .i64 (0), .string ByteArray.empty], []⟩ 8 (by kernel_rfl) (by kernel_rfl) (by kernel_rfl) (by kernel_rfl)) ?_
  intro W base args ds gs before hval0 hW hcnd hsz0 _
  refine Go.MG.law_calls (ts := [25, 3, 3, 3, 9]) (tb := 4) (by kernel_rfl) rfl (by kernel_rfl) rfl Tryz.underlying4 rfl hW fun p hA => ?_
  obtain ⟨v0, vs0, d0, ds0, p0, q0, hargs, rfl, rfl, h0, r0⟩ := trodAll_cons hA
  obtain ⟨v1, vs1, d1, ds1, p1, q1, rfl, rfl, rfl, h1, r1⟩ := trodAll_cons r0
  obtain ⟨v2, vs2, d2, ds2, p2, q2, rfl, rfl, rfl, h2, r2⟩ := trodAll_cons r1
  obtain ⟨v3, vs3, d3, ds3, p3, q3, rfl, rfl, rfl, h3, r3⟩ := trodAll_cons r2
  obtain ⟨v4, vs4, d4, ds4, p4, q4, rfl, rfl, rfl, h4, r4⟩ := trodAll_cons r3
  obtain ⟨rfl, rfl, rfl⟩ := trodAll_nil r4
  obtain ⟨a0, x0, w0⟩ := Go.MG.arg_agg open25 Tryz.underlying25 (hval0 0 25 v0 rfl (by rw [← Array.getElem?_toList, hargs]; rfl)) h0
  obtain ⟨a1, x1, w1⟩ := Go.MG.arg_int Tryz.underlying3 (hval0 1 3 v1 rfl (by rw [← Array.getElem?_toList, hargs]; rfl)) h1
  obtain ⟨a2, x2, w2⟩ := Go.MG.arg_int Tryz.underlying3 (hval0 2 3 v2 rfl (by rw [← Array.getElem?_toList, hargs]; rfl)) h2
  obtain ⟨a3, x3, w3⟩ := Go.MG.arg_int Tryz.underlying3 (hval0 3 3 v3 rfl (by rw [← Array.getElem?_toList, hargs]; rfl)) h3
  obtain ⟨a4, x4, w4⟩ := Go.MG.arg_str Tryz.underlying9 (hval0 4 9 v4 rfl (by rw [← Array.getElem?_toList, hargs]; rfl)) h4
  obtain ⟨k, hk⟩ := M.lawExactCentre a0 a1 a2 a3 a4 w0 w1 w2 w3 w4
  refine ⟨⟨rfl, rfl, rfl⟩, [.agg (eL_Config a0), .one (Go.MG.cI a1), .one (Go.MG.cI a2), .one (Go.MG.cI a3), .one (Go.MG.cS a4)], hargs ▸ (Go.MG.RXVs.cons0 x0 (Go.MG.RXVs.cons0 x1 (Go.MG.RXVs.cons0 x2 (Go.MG.RXVs.cons0 x3 (Go.MG.RXVs.cons0 x4 Go.MG.RXVs.nil0))))), M.g5 k true true true true a0 a1 a2 a3 a4 true hk⟩
theorem over : Rows.fnExactCentreRow.holds Tryz.pinned (OpenSpec.ofChange Rows.fnExactCentreSpec) :=
  OpenClaim.holds_of_wide 5 Tryz.f5 rfl rfl rfl rfl rfl rfl rfl ⟨rfl, rfl, rfl, rfl, rfl⟩ rfl rfl rfl rfl rfl (by kernel_rfl) Tryz.func5 closed
    (of_decide_eq_true (by kernel_rfl)) (by unfold Func.isWrapper; first | (rw [if_pos (by decide +kernel)]; kernel_rfl) | (rw [if_neg (by decide +kernel)]; exact ⟨rfl, rfl⟩))
    (fun os started H enc _ => lifted os started H enc)
theorem proved : Rows.FnExactCentreSaid := over
#print axioms proved
end Go.Proofs.YtbjbagemlclgcaaGreat.fnExactCentre
namespace Go.Proofs.YtbjbagemlclgcaaGreat
/-- The row, under a short name, for the claim. -/
theorem fnExactCentre_holds : Rows.FnExactCentreSaid := fnExactCentre.proved
end Go.Proofs.YtbjbagemlclgcaaGreat
