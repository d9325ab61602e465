/- The program's Once returns what the reference's returns, for all arguments. -/
import Derived.Test.YtgjbgakcfcomdaaGreatRows
import Derived.Test.YtgjbgakcfcomdaaGreatQOnce
import Derived.WalkKit
import Derived.ProofKit
import Derived.OpenShut
import Derived.ShutString
import Derived.ChangeOld
import Derived.Below
import Derived.SizedLaws
namespace Go.Proofs.YtgjbgakcfcomdaaGreat.fnExactOnce
open Go.ChangeShapes Go.WideShapes Go.ChangeAt Go.RowKit
set_option linter.unusedVariables false
open M
theorem own : ownKnob Tryz.prog.godebug = none := by kernel_rfl
def initL : List Char := ([104, 97, 114, 110, 101, 115, 115, 32, 100, 57, 100, 49, 53, 56, 51, 52, 97, 56, 102, 55, 97, 49, 51, 50, 98, 102, 100, 53, 97, 57, 55, 100, 57, 51, 53, 98, 48, 50, 51, 52, 54, 97, 97, 97, 98, 57, 50, 51, 101, 98, 56, 99, 52, 99, 102, 101, 56, 100, 54, 57, 49, 57, 97, 56, 54, 52, 56, 57, 53, 102, 49, 56, 32, 99, 117, 116, 32, 97, 116, 32, 108, 111, 111, 112, 46, 101, 120, 97, 109, 112, 108, 101, 47, 103, 48, 48, 55, 54, 57, 47, 108, 97, 119, 115, 46, 70, 110, 69, 120, 97, 99, 116, 83, 101, 114, 118, 101, 32, 108, 111, 111, 112, 46, 101, 120, 97, 109, 112, 108, 101, 47, 103, 48, 48, 55, 54, 57, 47, 108, 97, 119, 115, 46, 70, 110, 83, 101, 114, 118, 101, 32, 108, 111, 111, 112, 46, 101, 120, 97, 109, 112, 108, 101, 47, 103, 48, 48, 55, 54, 57, 47, 108, 97, 119, 115, 46, 70, 110, 69, 120, 97, 99, 116, 87, 111, 114, 108, 100, 79, 107, 32, 108, 111, 111, 112, 46, 101, 120, 97, 109, 112, 108, 101, 47, 103, 48, 48, 55, 54, 57, 47, 108, 97, 119, 115, 46, 70, 110, 69, 120, 97, 99, 116, 79, 110, 99, 101, 32, 108, 111, 111, 112, 46, 101, 120, 97, 109, 112, 108, 101, 47, 103, 48, 48, 55, 54, 57, 47, 108, 97, 119, 115, 46, 70, 110, 69, 120, 97, 99, 116, 67, 101, 110, 116, 114, 101, 32, 108, 111, 111, 112, 46, 101, 120, 97, 109, 112, 108, 101, 47, 103, 48, 48, 55, 54, 57, 47, 108, 97, 119, 115, 46, 70, 110, 67, 101, 110, 116, 114, 101] : List Nat).map Char.ofNat
theorem initO : Tryz.prog.initOrder = "harness d9d15834a8f7a132bfd5a97d935b02346aaab923eb8c4cfe8d6919a864895f18 cut at loop.example/g00769/laws.FnExactServe loop.example/g00769/laws.FnServe loop.example/g00769/laws.FnExactWorldOk loop.example/g00769/laws.FnExactOnce loop.example/g00769/laws.FnExactCentre loop.example/g00769/laws.FnCentre" := by kernel_rfl
theorem initP : "harness d9d15834a8f7a132bfd5a97d935b02346aaab923eb8c4cfe8d6919a864895f18 cut at loop.example/g00769/laws.FnExactServe loop.example/g00769/laws.FnServe loop.example/g00769/laws.FnExactWorldOk loop.example/g00769/laws.FnExactOnce loop.example/g00769/laws.FnExactCentre loop.example/g00769/laws.FnCentre" = String.ofList initL := by kernel_rfl
theorem initT : Tryz.prog.initOrder.toList = initL := by rw [initO, initP, String.toList_ofList]
abbrev ch (n : Nat) : Char := Char.ofNat n
theorem words : behindMainWord (wordsSigns Tryz.prog.initOrder.toList) = [[ch 99, ch 117, ch 116], [ch 97, ch 116], [ch 108, ch 111, ch 111, ch 112, ch 46, ch 101, ch 120, ch 97, ch 109, ch 112, ch 108, ch 101, ch 47, ch 103, ch 48, ch 48, ch 55, ch 54, ch 57, ch 47, ch 108, ch 97, ch 119, ch 115, ch 46, ch 70, ch 110, ch 69, ch 120, ch 97, ch 99, ch 116, ch 83, ch 101, ch 114, ch 118, ch 101], [ch 108, ch 111, ch 111, ch 112, ch 46, ch 101, ch 120, ch 97, ch 109, ch 112, ch 108, ch 101, ch 47, ch 103, ch 48, ch 48, ch 55, ch 54, ch 57, ch 47, ch 108, ch 97, ch 119, ch 115, ch 46, ch 70, ch 110, ch 83, ch 101, ch 114, ch 118, ch 101], [ch 108, ch 111, ch 111, ch 112, ch 46, ch 101, ch 120, ch 97, ch 109, ch 112, ch 108, ch 101, ch 47, ch 103, ch 48, ch 48, ch 55, ch 54, ch 57, ch 47, ch 108, ch 97, ch 119, ch 115, ch 46, ch 70, ch 110, ch 69, ch 120, ch 97, ch 99, ch 116, ch 87, ch 111, ch 114, ch 108, ch 100, ch 79, ch 107], [ch 108, ch 111, ch 111, ch 112, ch 46, ch 101, ch 120, ch 97, ch 109, ch 112, ch 108, ch 101, ch 47, ch 103, ch 48, ch 48, ch 55, ch 54, ch 57, ch 47, ch 108, ch 97, ch 119, ch 115, ch 46, ch 70, ch 110, ch 69, ch 120, ch 97, ch 99, ch 116, ch 79, ch 110, ch 99, ch 101], [ch 108, ch 111, ch 111, ch 112, ch 46, ch 101, ch 120, ch 97, ch 109, ch 112, ch 108, ch 101, ch 47, ch 103, ch 48, ch 48, ch 55, ch 54, ch 57, ch 47, ch 108, ch 97, ch 119, ch 115, ch 46, ch 70, ch 110, ch 69, ch 120, ch 97, ch 99, ch 116, ch 67, ch 101, ch 110, ch 116, ch 114, ch 101], [ch 108, ch 111, ch 111, ch 112, ch 46, ch 101, ch 120, ch 97, ch 109, ch 112, ch 108, ch 101, ch 47, ch 103, ch 48, ch 48, ch 55, ch 54, ch 57, ch 47, ch 108, ch 97, ch 119, ch 115, ch 46, ch 70, ch 110, ch 67, ch 101, ch 110, ch 116, ch 114, ch 101]] := by
  rw [initT]
  kernel_rfl
theorem mayE : Tryz.prog.mayEnter = true := by
  rw [Program.mayEnter.eq_1, words]
  kernel_rfl
theorem liftsF : Tryz.prog.liftsFinal = Rows.fnExactOnceRow.lifted := by
  rw [Program.liftsFinal.eq_1, Program.headLifts.eq_1, words]
  kernel_rfl
theorem makeE : Tryz.prog.make = some Rows.fnExactOnceRow.make := by
  rw [Program.make.eq_1, Program.headLifts.eq_1, words]
  kernel_rfl
theorem closed : joinedFacts Tryz.prog 6 Tryz.f6 Rows.fnExactOnceSpec Rows.fnExactOnceRow = true := by
  unfold joinedFacts
  rw [mayE, liftsF, makeE]
  kernel_rfl
set_option maxRecDepth 100000 in
theorem lifted (os : Os) (started : os.Started) (H : Type) (enc : TypeId × Value → H) :
    ReturnsInHanded {} Tryz.checked os 6 .any (Rows.fnExactOnceSpec.pre6 enc Tryz.prog Tryz.f6 Rows.fnExactOnceRow.domain false) (Rows.fnExactOnceSpec.post enc Tryz.prog Tryz.f6 false true false false) := by
  refine returnsInHanded_of_change_sized (C := Tryz.checked) own started (by kernel_rfl) Tryz.func6
    (ChangeSpec.witness6 (enc := enc) (C := Tryz.checked) false ⟨#[], #[.agg #[.slice none 0 0, .slice none 0 0, .slice none 0 0, .slice none 0 0, .int .i64 (0), .int .i64 (0), .int .i64 (0), .slice none 0 0, .slice none 0 0, .slice none 0 0, .slice none 0 0, .slice none 0 0, .slice none 0 0, .slice none 0 0, .slice none 0 0, .slice none 0 0]], []⟩ 8 (by kernel_rfl) (by kernel_rfl) (by kernel_rfl) (by kernel_rfl)) ?_
  intro W base args ds gs before hval0 hW hcnd hsz0 _
  refine Go.MG.law_calls (ts := [70]) (tb := 4) (by kernel_rfl) rfl (by kernel_rfl) rfl Tryz.underlying4 rfl hW fun p hA => ?_
  obtain ⟨v0, vs0, d0, ds0, p0, q0, hargs, rfl, rfl, h0, r0⟩ := trodAll_cons hA
  obtain ⟨rfl, rfl, rfl⟩ := trodAll_nil r0
  obtain ⟨a0, x0, w0⟩ := Go.MG.arg_agg open70 Tryz.underlying70 (hval0 0 70 v0 rfl (by rw [← Array.getElem?_toList, hargs]; rfl)) h0
  obtain ⟨k, hk⟩ := M.lawExactOnce a0 w0
  refine ⟨⟨rfl, rfl, rfl⟩, [.agg (eTlaws_World a0)], hargs ▸ (Go.MG.RXVs.cons0 x0 Go.MG.RXVs.nil0), M.Flaws_FnExactOnce_gives k true true true true true true true true true true true true true a0 true hk⟩
theorem over : Rows.fnExactOnceRow.holds Tryz.pinned (OpenSpec.ofChange Rows.fnExactOnceSpec) :=
  OpenClaim.holds_of_wide 6 Tryz.f6 rfl rfl rfl rfl rfl rfl rfl ⟨rfl, rfl, rfl, rfl, rfl⟩ rfl rfl rfl rfl rfl (by kernel_rfl) Tryz.func6 closed
    (of_decide_eq_true (by kernel_rfl)) (by unfold Func.isWrapper; first | (rw [if_pos (by decide +kernel)]; kernel_rfl) | (rw [if_neg (by decide +kernel)]; exact ⟨rfl, rfl⟩))
    (fun os started H enc _ => lifted os started H enc)
theorem proved : Rows.FnExactOnceSaid := over
#print axioms proved
end Go.Proofs.YtgjbgakcfcomdaaGreat.fnExactOnce
namespace Go.Proofs.YtgjbgakcfcomdaaGreat
/-- The row, under a short name, for the claim. -/
theorem fnExactOnce_holds : Rows.FnExactOnceSaid := fnExactOnce.proved
end Go.Proofs.YtgjbgakcfcomdaaGreat
