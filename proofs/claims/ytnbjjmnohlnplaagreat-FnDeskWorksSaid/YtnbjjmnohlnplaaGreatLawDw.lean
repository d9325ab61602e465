/- At the desk user 0 gets to each service that lies on a way; an adversary who has the user's key reaches the keys that it was given; a request that is sent once more is not taken. -/
import Derived.Test.YtnbjjmnohlnplaaGreatRows
import Derived.Test.YtnbjjmnohlnplaaGreatQDw
import Derived.WalkKit
import Derived.ProofKit
import Derived.OpenShut
import Derived.ShutString
import Derived.ChangeOld
import Derived.Below
import Derived.SizedLaws
namespace Go.Proofs.YtnbjjmnohlnplaaGreat.fnDeskWorks
open Go.ChangeShapes Go.WideShapes Go.ChangeAt Go.RowKit
set_option linter.unusedVariables false
open M
theorem own : ownKnob Tryz.prog.godebug = none := by kernel_rfl
def initL : List Char := ([104, 97, 114, 110, 101, 115, 115, 32, 55, 56, 54, 52, 98, 98, 56, 98, 102, 52, 98, 50, 56, 51, 97, 101, 56, 57, 100, 48, 52, 53, 54, 54, 99, 99, 51, 55, 52, 50, 50, 48, 48, 56, 97, 54, 48, 98, 55, 49, 52, 56, 101, 55, 52, 48, 57, 52, 98, 97, 53, 52, 55, 52, 101, 51, 57, 57, 55, 99, 54, 98, 52, 97, 32, 99, 117, 116, 32, 97, 116, 32, 108, 111, 111, 112, 46, 101, 120, 97, 109, 112, 108, 101, 47, 103, 48, 48, 55, 54, 57, 47, 108, 97, 119, 115, 46, 70, 110, 83, 116, 111, 108, 101, 110, 32, 108, 111, 111, 112, 46, 101, 120, 97, 109, 112, 108, 101, 47, 103, 48, 48, 55, 54, 57, 47, 108, 97, 119, 115, 46, 70, 110, 70, 108, 111, 119, 32, 108, 111, 111, 112, 46, 101, 120, 97, 109, 112, 108, 101, 47, 103, 48, 48, 55, 54, 57, 47, 108, 97, 119, 115, 46, 70, 110, 82, 101, 112, 108, 97, 121, 32, 108, 111, 111, 112, 46, 101, 120, 97, 109, 112, 108, 101, 47, 103, 48, 48, 55, 54, 57, 47, 108, 97, 119, 115, 46, 70, 110, 68, 101, 115, 107, 87, 111, 114, 107, 115, 32, 108, 111, 111, 112, 46, 101, 120, 97, 109, 112, 108, 101, 47, 103, 48, 48, 55, 54, 57, 47, 108, 97, 119, 115, 46, 70, 110, 67, 104, 97, 105, 110] : List Nat).map Char.ofNat
theorem initO : Tryz.prog.initOrder = "harness 7864bb8bf4b283ae89d04566cc37422008a60b7148e74094ba5474e3997c6b4a cut at loop.example/g00769/laws.FnStolen loop.example/g00769/laws.FnFlow loop.example/g00769/laws.FnReplay loop.example/g00769/laws.FnDeskWorks loop.example/g00769/laws.FnChain" := by kernel_rfl
theorem initP : "harness 7864bb8bf4b283ae89d04566cc37422008a60b7148e74094ba5474e3997c6b4a cut at loop.example/g00769/laws.FnStolen loop.example/g00769/laws.FnFlow loop.example/g00769/laws.FnReplay loop.example/g00769/laws.FnDeskWorks loop.example/g00769/laws.FnChain" = String.ofList initL := by kernel_rfl
theorem initT : Tryz.prog.initOrder.toList = initL := by rw [initO, initP, String.toList_ofList]
abbrev ch (n : Nat) : Char := Char.ofNat n
theorem words : behindMainWord (wordsSigns Tryz.prog.initOrder.toList) = [[ch 99, ch 117, ch 116], [ch 97, ch 116], [ch 108, ch 111, ch 111, ch 112, ch 46, ch 101, ch 120, ch 97, ch 109, ch 112, ch 108, ch 101, ch 47, ch 103, ch 48, ch 48, ch 55, ch 54, ch 57, ch 47, ch 108, ch 97, ch 119, ch 115, ch 46, ch 70, ch 110, ch 83, ch 116, ch 111, ch 108, ch 101, ch 110], [ch 108, ch 111, ch 111, ch 112, ch 46, ch 101, ch 120, ch 97, ch 109, ch 112, ch 108, ch 101, ch 47, ch 103, ch 48, ch 48, ch 55, ch 54, ch 57, ch 47, ch 108, ch 97, ch 119, ch 115, ch 46, ch 70, ch 110, ch 70, ch 108, ch 111, ch 119], [ch 108, ch 111, ch 111, ch 112, ch 46, ch 101, ch 120, ch 97, ch 109, ch 112, ch 108, ch 101, ch 47, ch 103, ch 48, ch 48, ch 55, ch 54, ch 57, ch 47, ch 108, ch 97, ch 119, ch 115, ch 46, ch 70, ch 110, ch 82, ch 101, ch 112, ch 108, ch 97, ch 121], [ch 108, ch 111, ch 111, ch 112, ch 46, ch 101, ch 120, ch 97, ch 109, ch 112, ch 108, ch 101, ch 47, ch 103, ch 48, ch 48, ch 55, ch 54, ch 57, ch 47, ch 108, ch 97, ch 119, ch 115, ch 46, ch 70, ch 110, ch 68, ch 101, ch 115, ch 107, ch 87, ch 111, ch 114, ch 107, ch 115], [ch 108, ch 111, ch 111, ch 112, ch 46, ch 101, ch 120, ch 97, ch 109, ch 112, ch 108, ch 101, ch 47, ch 103, ch 48, ch 48, ch 55, ch 54, ch 57, ch 47, ch 108, ch 97, ch 119, ch 115, ch 46, ch 70, ch 110, ch 67, ch 104, ch 97, ch 105, ch 110]] := by
  rw [initT]
  kernel_rfl
theorem mayE : Tryz.prog.mayEnter = true := by
  rw [Program.mayEnter.eq_1, words]
  kernel_rfl
theorem liftsF : Tryz.prog.liftsFinal = Rows.fnDeskWorksRow.lifted := by
  rw [Program.liftsFinal.eq_1, Program.headLifts.eq_1, words]
  kernel_rfl
theorem makeE : Tryz.prog.make = some Rows.fnDeskWorksRow.make := by
  rw [Program.make.eq_1, Program.headLifts.eq_1, words]
  kernel_rfl
theorem closed : joinedFacts Tryz.prog 6 Tryz.f6 Rows.fnDeskWorksSpec Rows.fnDeskWorksRow = true := by
  unfold joinedFacts
  rw [mayE, liftsF, makeE]
  kernel_rfl
set_option maxRecDepth 100000 in
theorem lifted (os : Os) (started : os.Started) (H : Type) (enc : TypeId × Value → H) :
    ReturnsInHanded {} Tryz.checked os 6 .any (Rows.fnDeskWorksSpec.pre6 enc Tryz.prog Tryz.f6 Rows.fnDeskWorksRow.domain false) (Rows.fnDeskWorksSpec.post enc Tryz.prog Tryz.f6 false true false false) := by
  refine returnsInHanded_of_change_sized (C := Tryz.checked) own started (by kernel_rfl) Tryz.func6
    (ChangeSpec.witness6 (enc := enc) (C := Tryz.checked) false ⟨#[], #[.slice none 0 0], []⟩ 8 (by kernel_rfl) (by kernel_rfl) (by kernel_rfl) (by kernel_rfl)) ?_
  intro W base args ds gs before hval0 hW hcnd hsz0 _
  refine Go.MG.law_calls (ts := [22]) (tb := 4) (by kernel_rfl) rfl (by kernel_rfl) rfl Tryz.underlying4 rfl hW fun p hA => ?_
  obtain ⟨v0, vs0, d0, ds0, p0, q0, hargs, rfl, rfl, h0, r0⟩ := trodAll_cons hA
  obtain ⟨rfl, rfl, rfl⟩ := trodAll_nil r0
  obtain ⟨a0, x0, w0⟩ := Go.MG.arg_slice Tryz.underlying22 open22 (hval0 0 22 v0 rfl (by rw [← Array.getElem?_toList, hargs]; rfl)) h0
  obtain ⟨k, hk⟩ := M.lawDeskWorks a0 w0
  refine ⟨⟨rfl, rfl, rfl⟩, [.one (.sl true (List.map Go.MG.eB a0))], hargs ▸ (Go.MG.RXVs.cons0 x0 Go.MG.RXVs.nil0), M.g6 k true a0 true hk⟩
theorem over : Rows.fnDeskWorksRow.holds Tryz.pinned (OpenSpec.ofChange Rows.fnDeskWorksSpec) :=
  OpenClaim.holds_of_wide 6 Tryz.f6 rfl rfl rfl rfl rfl rfl rfl ⟨rfl, rfl, rfl, rfl, rfl⟩ rfl rfl rfl rfl rfl (by kernel_rfl) Tryz.func6 closed
    (of_decide_eq_true (by kernel_rfl)) (by unfold Func.isWrapper; first | (rw [if_pos (by decide +kernel)]; kernel_rfl) | (rw [if_neg (by decide +kernel)]; exact ⟨rfl, rfl⟩))
    (fun os started H enc _ => lifted os started H enc)
theorem proved : Rows.FnDeskWorksSaid := over
#print axioms proved
end Go.Proofs.YtnbjjmnohlnplaaGreat.fnDeskWorks
namespace Go.Proofs.YtnbjjmnohlnplaaGreat
/-- The row, under a short name, for the claim. -/
theorem fnDeskWorks_holds : Rows.FnDeskWorksSaid := fnDeskWorks.proved
end Go.Proofs.YtnbjjmnohlnplaaGreat
