/- The program's NewWorld returns what the reference's returns, for all arguments. -/
import Derived.Test.YtgjbgakcfcomdaaRows
import Derived.Test.YtgjbgakcfcomdaaQNewWorld
import Derived.WalkKit
import Derived.ProofKit
import Derived.OpenShut
import Derived.ShutString
import Derived.ChangeOld
import Derived.Below
import Derived.SizedLaws
namespace Go.Proofs.Ytgjbgakcfcomdaa.fnExactNewWorld
open Go.ChangeShapes Go.WideShapes Go.ChangeAt Go.RowKit
set_option linter.unusedVariables false
open M
theorem own : ownKnob Try.prog.godebug = none := by kernel_rfl
def initL : List Char := ([104, 97, 114, 110, 101, 115, 115, 32, 53, 98, 101, 55, 52, 97, 48, 50, 55, 97, 97, 50, 56, 54, 97, 56, 51, 50, 101, 49, 51, 101, 98, 49, 56, 100, 97, 54, 49, 98, 56, 55, 49, 99, 49, 53, 98, 57, 97, 49, 53, 56, 98, 57, 50, 97, 56, 55, 50, 56, 56, 102, 99, 56, 97, 55, 50, 49, 102, 102, 98, 102, 97, 99, 32, 99, 117, 116, 32, 97, 116, 32, 108, 111, 111, 112, 46, 101, 120, 97, 109, 112, 108, 101, 47, 103, 48, 48, 55, 54, 57, 47, 108, 97, 119, 115, 46, 70, 110, 69, 120, 97, 99, 116, 82, 101, 97, 100, 84, 108, 118, 32, 108, 111, 111, 112, 46, 101, 120, 97, 109, 112, 108, 101, 47, 103, 48, 48, 55, 54, 57, 47, 108, 97, 119, 115, 46, 70, 110, 69, 120, 97, 99, 116, 82, 101, 97, 100, 82, 117, 108, 101, 115, 32, 108, 111, 111, 112, 46, 101, 120, 97, 109, 112, 108, 101, 47, 103, 48, 48, 55, 54, 57, 47, 108, 97, 119, 115, 46, 70, 110, 82, 117, 108, 101, 84, 101, 120, 116, 32, 108, 111, 111, 112, 46, 101, 120, 97, 109, 112, 108, 101, 47, 103, 48, 48, 55, 54, 57, 47, 108, 97, 119, 115, 46, 70, 110, 84, 108, 118, 70, 105, 110, 100, 32, 108, 111, 111, 112, 46, 101, 120, 97, 109, 112, 108, 101, 47, 103, 48, 48, 55, 54, 57, 47, 108, 97, 119, 115, 46, 70, 110, 84, 108, 118, 32, 108, 111, 111, 112, 46, 101, 120, 97, 109, 112, 108, 101, 47, 103, 48, 48, 55, 54, 57, 47, 108, 97, 119, 115, 46, 70, 110, 69, 120, 97, 99, 116, 78, 111, 114, 109, 97, 108, 32, 108, 111, 111, 112, 46, 101, 120, 97, 109, 112, 108, 101, 47, 103, 48, 48, 55, 54, 57, 47, 108, 97, 119, 115, 46, 70, 110, 69, 120, 97, 99, 116, 74, 111, 105, 110, 101, 100, 32, 108, 111, 111, 112, 46, 101, 120, 97, 109, 112, 108, 101, 47, 103, 48, 48, 55, 54, 57, 47, 108, 97, 119, 115, 46, 70, 110, 69, 120, 97, 99, 116, 78, 101, 119, 87, 111, 114, 108, 100] : List Nat).map Char.ofNat
theorem initO : Try.prog.initOrder = "harness 5be74a027aa286a832e13eb18da61b871c15b9a158b92a87288fc8a721ffbfac cut at loop.example/g00769/laws.FnExactReadTlv loop.example/g00769/laws.FnExactReadRules loop.example/g00769/laws.FnRuleText loop.example/g00769/laws.FnTlvFind loop.example/g00769/laws.FnTlv loop.example/g00769/laws.FnExactNormal loop.example/g00769/laws.FnExactJoined loop.example/g00769/laws.FnExactNewWorld" := by kernel_rfl
theorem initP : "harness 5be74a027aa286a832e13eb18da61b871c15b9a158b92a87288fc8a721ffbfac cut at loop.example/g00769/laws.FnExactReadTlv loop.example/g00769/laws.FnExactReadRules loop.example/g00769/laws.FnRuleText loop.example/g00769/laws.FnTlvFind loop.example/g00769/laws.FnTlv loop.example/g00769/laws.FnExactNormal loop.example/g00769/laws.FnExactJoined loop.example/g00769/laws.FnExactNewWorld" = String.ofList initL := by kernel_rfl
theorem initT : Try.prog.initOrder.toList = initL := by rw [initO, initP, String.toList_ofList]
abbrev ch (n : Nat) : Char := Char.ofNat n
theorem words : behindMainWord (wordsSigns Try.prog.initOrder.toList) = [[ch 99, ch 117, ch 116], [ch 97, ch 116], [ch 108, ch 111, ch 111, ch 112, ch 46, ch 101, ch 120, ch 97, ch 109, ch 112, ch 108, ch 101, ch 47, ch 103, ch 48, ch 48, ch 55, ch 54, ch 57, ch 47, ch 108, ch 97, ch 119, ch 115, ch 46, ch 70, ch 110, ch 69, ch 120, ch 97, ch 99, ch 116, ch 82, ch 101, ch 97, ch 100, ch 84, ch 108, ch 118], [ch 108, ch 111, ch 111, ch 112, ch 46, ch 101, ch 120, ch 97, ch 109, ch 112, ch 108, ch 101, ch 47, ch 103, ch 48, ch 48, ch 55, ch 54, ch 57, ch 47, ch 108, ch 97, ch 119, ch 115, ch 46, ch 70, ch 110, ch 69, ch 120, ch 97, ch 99, ch 116, ch 82, ch 101, ch 97, ch 100, ch 82, ch 117, ch 108, ch 101, ch 115], [ch 108, ch 111, ch 111, ch 112, ch 46, ch 101, ch 120, ch 97, ch 109, ch 112, ch 108, ch 101, ch 47, ch 103, ch 48, ch 48, ch 55, ch 54, ch 57, ch 47, ch 108, ch 97, ch 119, ch 115, ch 46, ch 70, ch 110, ch 82, ch 117, ch 108, ch 101, ch 84, ch 101, ch 120, ch 116], [ch 108, ch 111, ch 111, ch 112, ch 46, ch 101, ch 120, ch 97, ch 109, ch 112, ch 108, ch 101, ch 47, ch 103, ch 48, ch 48, ch 55, ch 54, ch 57, ch 47, ch 108, ch 97, ch 119, ch 115, ch 46, ch 70, ch 110, ch 84, ch 108, ch 118, ch 70, ch 105, ch 110, ch 100], [ch 108, ch 111, ch 111, ch 112, ch 46, ch 101, ch 120, ch 97, ch 109, ch 112, ch 108, ch 101, ch 47, ch 103, ch 48, ch 48, ch 55, ch 54, ch 57, ch 47, ch 108, ch 97, ch 119, ch 115, ch 46, ch 70, ch 110, ch 84, ch 108, ch 118], [ch 108, ch 111, ch 111, ch 112, ch 46, ch 101, ch 120, ch 97, ch 109, ch 112, ch 108, ch 101, ch 47, ch 103, ch 48, ch 48, ch 55, ch 54, ch 57, ch 47, ch 108, ch 97, ch 119, ch 115, ch 46, ch 70, ch 110, ch 69, ch 120, ch 97, ch 99, ch 116, ch 78, ch 111, ch 114, ch 109, ch 97, ch 108], [ch 108, ch 111, ch 111, ch 112, ch 46, ch 101, ch 120, ch 97, ch 109, ch 112, ch 108, ch 101, ch 47, ch 103, ch 48, ch 48, ch 55, ch 54, ch 57, ch 47, ch 108, ch 97, ch 119, ch 115, ch 46, ch 70, ch 110, ch 69, ch 120, ch 97, ch 99, ch 116, ch 74, ch 111, ch 105, ch 110, ch 101, ch 100], [ch 108, ch 111, ch 111, ch 112, ch 46, ch 101, ch 120, ch 97, ch 109, ch 112, ch 108, ch 101, ch 47, ch 103, ch 48, ch 48, ch 55, ch 54, ch 57, ch 47, ch 108, ch 97, ch 119, ch 115, ch 46, ch 70, ch 110, ch 69, ch 120, ch 97, ch 99, ch 116, ch 78, ch 101, ch 119, ch 87, ch 111, ch 114, ch 108, ch 100]] := by
  rw [initT]
  kernel_rfl
theorem mayE : Try.prog.mayEnter = true := by
  rw [Program.mayEnter.eq_1, words]
  kernel_rfl
theorem liftsF : Try.prog.liftsFinal = Rows.fnExactNewWorldRow.lifted := by
  rw [Program.liftsFinal.eq_1, Program.headLifts.eq_1, words]
  kernel_rfl
theorem makeE : Try.prog.make = some Rows.fnExactNewWorldRow.make := by
  rw [Program.make.eq_1, Program.headLifts.eq_1, words]
  kernel_rfl
theorem closed : joinedFacts Try.prog 10 Try.f10 Rows.fnExactNewWorldSpec Rows.fnExactNewWorldRow = true := by
  unfold joinedFacts
  rw [mayE, liftsF, makeE]
  kernel_rfl
set_option maxRecDepth 100000 in
theorem lifted (os : Os) (started : os.Started) (H : Type) (enc : TypeId × Value → H) :
    ReturnsInHanded {} Try.checked os 10 .any (Rows.fnExactNewWorldSpec.pre6 enc Try.prog Try.f10 Rows.fnExactNewWorldRow.domain false) (Rows.fnExactNewWorldSpec.post enc Try.prog Try.f10 false true false false) := by
  refine returnsInHanded_of_change_sized (C := Try.checked) own started (by kernel_rfl) Try.func10
    (ChangeSpec.witness6 (enc := enc) (C := Try.checked) false ⟨#[], #[.agg #[.slice none 0 0, .slice none 0 0, .slice none 0 0, .slice none 0 0, .int .i64 (0)]], []⟩ 8 (by kernel_rfl) (by kernel_rfl) (by kernel_rfl) (by kernel_rfl)) ?_
  intro W base args ds gs before hval0 hW hcnd hsz0 _
  refine Go.MG.law_calls (ts := [58]) (tb := 4) (by kernel_rfl) rfl (by kernel_rfl) rfl Try.underlying4 rfl hW fun p hA => ?_
  obtain ⟨v0, vs0, d0, ds0, p0, q0, hargs, rfl, rfl, h0, r0⟩ := trodAll_cons hA
  obtain ⟨rfl, rfl, rfl⟩ := trodAll_nil r0
  obtain ⟨a0, x0, w0⟩ := Go.MG.arg_agg open58 Try.underlying58 (hval0 0 58 v0 rfl (by rw [← Array.getElem?_toList, hargs]; rfl)) h0
  obtain ⟨k, hk⟩ := M.lawExactNewWorld a0 w0
  refine ⟨⟨rfl, rfl, rfl⟩, [.agg (eTlaws_Config a0)], hargs ▸ (Go.MG.RXVs.cons0 x0 Go.MG.RXVs.nil0), M.Flaws_FnExactNewWorld_gives k true true true true a0 true hk⟩
theorem over : Rows.fnExactNewWorldRow.holds Try.pinned (OpenSpec.ofChange Rows.fnExactNewWorldSpec) :=
  OpenClaim.holds_of_wide 10 Try.f10 rfl rfl rfl rfl rfl rfl rfl ⟨rfl, rfl, rfl, rfl, rfl⟩ rfl rfl rfl rfl rfl (by kernel_rfl) Try.func10 closed
    (of_decide_eq_true (by kernel_rfl)) (by unfold Func.isWrapper; first | (rw [if_pos (by decide +kernel)]; kernel_rfl) | (rw [if_neg (by decide +kernel)]; exact ⟨rfl, rfl⟩))
    (fun os started H enc _ => lifted os started H enc)
theorem proved : Rows.FnExactNewWorldSaid := over
#print axioms proved
end Go.Proofs.Ytgjbgakcfcomdaa.fnExactNewWorld
namespace Go.Proofs.Ytgjbgakcfcomdaa
/-- The row, under a short name, for the claim. -/
theorem fnExactNewWorld_holds : Rows.FnExactNewWorldSaid := fnExactNewWorld.proved
end Go.Proofs.Ytgjbgakcfcomdaa
