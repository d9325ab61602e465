/- The program's Secret returns what the reference's returns, for all arguments. -/
import Derived.Test.YtbaemdkdgghokaaGreatRows
import Derived.Test.YtbaemdkdgghokaaGreatQSe
import Derived.WalkKit
import Derived.ProofKit
import Derived.OpenShut
import Derived.ShutString
import Derived.ChangeOld
import Derived.Below
import Derived.SizedLaws
namespace Go.Proofs.YtbaemdkdgghokaaGreat.fnExactSecret
open Go.ChangeShapes Go.WideShapes Go.ChangeAt Go.RowKit
set_option linter.unusedVariables false
open M
theorem own : ownKnob Tryz.prog.godebug = none := by kernel_rfl
def initL : List Char := ([104, 97, 114, 110, 101, 115, 115, 32, 57, 57, 55, 57, 51, 98, 56, 55, 52, 54, 51, 97, 49, 53, 100, 49, 56, 55, 97, 54, 55, 97, 48, 50, 54, 51, 48, 52, 49, 98, 97, 102, 48, 55, 98, 56, 48, 50, 48, 48, 97, 57, 102, 97, 98, 51, 49, 97, 51, 57, 56, 51, 102, 52, 53, 57, 49, 56, 57, 48, 48, 52, 97, 51, 32, 99, 117, 116, 32, 97, 116, 32, 108, 111, 111, 112, 46, 101, 120, 97, 109, 112, 108, 101, 47, 103, 48, 48, 55, 54, 57, 47, 108, 97, 119, 115, 46, 70, 110, 83, 116, 111, 108, 101, 110, 32, 108, 111, 111, 112, 46, 101, 120, 97, 109, 112, 108, 101, 47, 103, 48, 48, 55, 54, 57, 47, 108, 97, 119, 115, 46, 70, 110, 69, 120, 97, 99, 116, 72, 111, 110, 101, 115, 116, 32, 108, 111, 111, 112, 46, 101, 120, 97, 109, 112, 108, 101, 47, 103, 48, 48, 55, 54, 57, 47, 108, 97, 119, 115, 46, 70, 110, 70, 108, 111, 119, 32, 108, 111, 111, 112, 46, 101, 120, 97, 109, 112, 108, 101, 47, 103, 48, 48, 55, 54, 57, 47, 108, 97, 119, 115, 46, 70, 110, 69, 120, 97, 99, 116, 65, 117, 116, 104, 101, 110, 116, 105, 99, 32, 108, 111, 111, 112, 46, 101, 120, 97, 109, 112, 108, 101, 47, 103, 48, 48, 55, 54, 57, 47, 108, 97, 119, 115, 46, 70, 110, 69, 120, 97, 99, 116, 78, 97, 114, 114, 111, 119, 32, 108, 111, 111, 112, 46, 101, 120, 97, 109, 112, 108, 101, 47, 103, 48, 48, 55, 54, 57, 47, 108, 97, 119, 115, 46, 70, 110, 82, 101, 112, 108, 97, 121, 32, 108, 111, 111, 112, 46, 101, 120, 97, 109, 112, 108, 101, 47, 103, 48, 48, 55, 54, 57, 47, 108, 97, 119, 115, 46, 70, 110, 69, 120, 97, 99, 116, 83, 101, 99, 114, 101, 116, 32, 108, 111, 111, 112, 46, 101, 120, 97, 109, 112, 108, 101, 47, 103, 48, 48, 55, 54, 57, 47, 108, 97, 119, 115, 46, 70, 110, 68, 101, 115, 107, 87, 111, 114, 107, 115, 32, 108, 111, 111, 112, 46, 101, 120, 97, 109, 112, 108, 101, 47, 103, 48, 48, 55, 54, 57, 47, 108, 97, 119, 115, 46, 70, 110, 67, 104, 97, 105, 110] : List Nat).map Char.ofNat
theorem initO : Tryz.prog.initOrder = "harness 99793b87463a15d187a67a0263041baf07b80200a9fab31a3983f459189004a3 cut at loop.example/g00769/laws.FnStolen loop.example/g00769/laws.FnExactHonest loop.example/g00769/laws.FnFlow loop.example/g00769/laws.FnExactAuthentic loop.example/g00769/laws.FnExactNarrow loop.example/g00769/laws.FnReplay loop.example/g00769/laws.FnExactSecret loop.example/g00769/laws.FnDeskWorks loop.example/g00769/laws.FnChain" := by kernel_rfl
theorem initP : "harness 99793b87463a15d187a67a0263041baf07b80200a9fab31a3983f459189004a3 cut at loop.example/g00769/laws.FnStolen loop.example/g00769/laws.FnExactHonest loop.example/g00769/laws.FnFlow loop.example/g00769/laws.FnExactAuthentic loop.example/g00769/laws.FnExactNarrow loop.example/g00769/laws.FnReplay loop.example/g00769/laws.FnExactSecret loop.example/g00769/laws.FnDeskWorks loop.example/g00769/laws.FnChain" = String.ofList initL := by kernel_rfl
theorem initT : Tryz.prog.initOrder.toList = initL := by rw [initO, initP, String.toList_ofList]
abbrev ch (n : Nat) : Char := Char.ofNat n
theorem words : behindMainWord (wordsSigns Tryz.prog.initOrder.toList) = [[ch 99, ch 117, ch 116], [ch 97, ch 116], [ch 108, ch 111, ch 111, ch 112, ch 46, ch 101, ch 120, ch 97, ch 109, ch 112, ch 108, ch 101, ch 47, ch 103, ch 48, ch 48, ch 55, ch 54, ch 57, ch 47, ch 108, ch 97, ch 119, ch 115, ch 46, ch 70, ch 110, ch 83, ch 116, ch 111, ch 108, ch 101, ch 110], [ch 108, ch 111, ch 111, ch 112, ch 46, ch 101, ch 120, ch 97, ch 109, ch 112, ch 108, ch 101, ch 47, ch 103, ch 48, ch 48, ch 55, ch 54, ch 57, ch 47, ch 108, ch 97, ch 119, ch 115, ch 46, ch 70, ch 110, ch 69, ch 120, ch 97, ch 99, ch 116, ch 72, ch 111, ch 110, ch 101, ch 115, ch 116], [ch 108, ch 111, ch 111, ch 112, ch 46, ch 101, ch 120, ch 97, ch 109, ch 112, ch 108, ch 101, ch 47, ch 103, ch 48, ch 48, ch 55, ch 54, ch 57, ch 47, ch 108, ch 97, ch 119, ch 115, ch 46, ch 70, ch 110, ch 70, ch 108, ch 111, ch 119], [ch 108, ch 111, ch 111, ch 112, ch 46, ch 101, ch 120, ch 97, ch 109, ch 112, ch 108, ch 101, ch 47, ch 103, ch 48, ch 48, ch 55, ch 54, ch 57, ch 47, ch 108, ch 97, ch 119, ch 115, ch 46, ch 70, ch 110, ch 69, ch 120, ch 97, ch 99, ch 116, ch 65, ch 117, ch 116, ch 104, ch 101, ch 110, ch 116, ch 105, ch 99], [ch 108, ch 111, ch 111, ch 112, ch 46, ch 101, ch 120, ch 97, ch 109, ch 112, ch 108, ch 101, ch 47, ch 103, ch 48, ch 48, ch 55, ch 54, ch 57, ch 47, ch 108, ch 97, ch 119, ch 115, ch 46, ch 70, ch 110, ch 69, ch 120, ch 97, ch 99, ch 116, ch 78, ch 97, ch 114, ch 114, ch 111, ch 119], [ch 108, ch 111, ch 111, ch 112, ch 46, ch 101, ch 120, ch 97, ch 109, ch 112, ch 108, ch 101, ch 47, ch 103, ch 48, ch 48, ch 55, ch 54, ch 57, ch 47, ch 108, ch 97, ch 119, ch 115, ch 46, ch 70, ch 110, ch 82, ch 101, ch 112, ch 108, ch 97, ch 121], [ch 108, ch 111, ch 111, ch 112, ch 46, ch 101, ch 120, ch 97, ch 109, ch 112, ch 108, ch 101, ch 47, ch 103, ch 48, ch 48, ch 55, ch 54, ch 57, ch 47, ch 108, ch 97, ch 119, ch 115, ch 46, ch 70, ch 110, ch 69, ch 120, ch 97, ch 99, ch 116, ch 83, ch 101, ch 99, ch 114, ch 101, ch 116], [ch 108, ch 111, ch 111, ch 112, ch 46, ch 101, ch 120, ch 97, ch 109, ch 112, ch 108, ch 101, ch 47, ch 103, ch 48, ch 48, ch 55, ch 54, ch 57, ch 47, ch 108, ch 97, ch 119, ch 115, ch 46, ch 70, ch 110, ch 68, ch 101, ch 115, ch 107, ch 87, ch 111, ch 114, ch 107, ch 115], [ch 108, ch 111, ch 111, ch 112, ch 46, ch 101, ch 120, ch 97, ch 109, ch 112, ch 108, ch 101, ch 47, ch 103, ch 48, ch 48, ch 55, ch 54, ch 57, ch 47, ch 108, ch 97, ch 119, ch 115, ch 46, ch 70, ch 110, ch 67, ch 104, ch 97, ch 105, ch 110]] := by
  rw [initT]
  kernel_rfl
theorem mayE : Tryz.prog.mayEnter = true := by
  rw [Program.mayEnter.eq_1, words]
  kernel_rfl
theorem liftsF : Tryz.prog.liftsFinal = Rows.fnExactSecretRow.lifted := by
  rw [Program.liftsFinal.eq_1, Program.headLifts.eq_1, words]
  kernel_rfl
theorem makeE : Tryz.prog.make = some Rows.fnExactSecretRow.make := by
  rw [Program.make.eq_1, Program.headLifts.eq_1, words]
  kernel_rfl
theorem closed : joinedFacts Tryz.prog 9 Tryz.f9 Rows.fnExactSecretSpec Rows.fnExactSecretRow = true := by
  unfold joinedFacts
  rw [mayE, liftsF, makeE]
  kernel_rfl
set_option maxRecDepth 100000 in
theorem lifted (os : Os) (started : os.Started) (H : Type) (enc : TypeId × Value → H) :
    ReturnsInHanded {} Tryz.checked os 9 .any (Rows.fnExactSecretSpec.pre6 enc Tryz.prog Tryz.f9 Rows.fnExactSecretRow.domain false) (Rows.fnExactSecretSpec.post enc Tryz.prog Tryz.f9 false true false false) := by
  refine returnsInHanded_of_change_sized (C := Tryz.checked) own started (by kernel_rfl) Tryz.func9
    (ChangeSpec.witness6 (enc := enc) (C := Tryz.checked) false ⟨#[], #[.agg #[.slice none 0 0, .slice none 0 0, .slice none 0 0, .slice none 0 0, .int .i64 (0), .int .i64 (0), .int .i64 (0), .slice none 0 0, .slice none 0 0, .slice none 0 0, .slice none 0 0, .slice none 0 0, .slice none 0 0, .slice none 0 0, .slice none 0 0, .slice none 0 0]], []⟩ 8 (by kernel_rfl) (by kernel_rfl) (by kernel_rfl) (by kernel_rfl)) ?_
  intro W base args ds gs before hval0 hW hcnd hsz0 _
  refine Go.MG.law_calls (ts := [64]) (tb := 4) (by kernel_rfl) rfl (by kernel_rfl) rfl Tryz.underlying4 rfl hW fun p hA => ?_
  obtain ⟨v0, vs0, d0, ds0, p0, q0, hargs, rfl, rfl, h0, r0⟩ := trodAll_cons hA
  obtain ⟨rfl, rfl, rfl⟩ := trodAll_nil r0
  obtain ⟨a0, x0, w0⟩ := Go.MG.arg_agg open64 Tryz.underlying64 (hval0 0 64 v0 rfl (by rw [← Array.getElem?_toList, hargs]; rfl)) h0
  obtain ⟨k, hk⟩ := M.lawExactSecret a0 w0
  refine ⟨⟨rfl, rfl, rfl⟩, [.agg (eL_World a0)], hargs ▸ (Go.MG.RXVs.cons0 x0 Go.MG.RXVs.nil0), M.g9 k true true true true true true true true true true true true true a0 true hk⟩
theorem over : Rows.fnExactSecretRow.holds Tryz.pinned (OpenSpec.ofChange Rows.fnExactSecretSpec) :=
  OpenClaim.holds_of_wide 9 Tryz.f9 rfl rfl rfl rfl rfl rfl rfl ⟨rfl, rfl, rfl, rfl, rfl⟩ rfl rfl rfl rfl rfl (by kernel_rfl) Tryz.func9 closed
    (of_decide_eq_true (by kernel_rfl)) (by unfold Func.isWrapper; first | (rw [if_pos (by decide +kernel)]; kernel_rfl) | (rw [if_neg (by decide +kernel)]; exact ⟨rfl, rfl⟩))
    (fun os started H enc _ => lifted os started H enc)
theorem proved : Rows.FnExactSecretSaid := over
#print axioms proved
end Go.Proofs.YtbaemdkdgghokaaGreat.fnExactSecret
namespace Go.Proofs.YtbaemdkdgghokaaGreat
/-- The row, under a short name, for the claim. -/
theorem fnExactSecret_holds : Rows.FnExactSecretSaid := fnExactSecret.proved
end Go.Proofs.YtbaemdkdgghokaaGreat
