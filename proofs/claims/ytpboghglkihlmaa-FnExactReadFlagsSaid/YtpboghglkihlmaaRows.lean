/-
  No cell of these rows narrows 'for every input' (looked for: loops, veiled, ifaces, maps, wideKeys, modest, calm, conditions, laid).
  DERIVED. THE GIVEN ROWS OF THIS SEAT. 12 by the template 'for every input the law returns true; each argument reads behind the call as it read before'; 0 by the template 'total and deterministic' (their statements: YtpboghglkihlmaaTotals.lean).
  GIVEN WITH THE SEED: the statements are not yours to turn. If you find one false, say at which input.
  Laid BY PROGRAM, IN A SANDBOX (cutbox-rows.mjs): the forced cells as the released guide's own fill.sh prints them over the translation 1bd40cccb9b9b632… (all of the seat's roots in one cut). By AI agents, Wed Nov 11 2026. No macro, syntax, notation, axiom, sorry.
-/
import Derived.Test.YtpboghglkihlmaaChecked
import GoSem.Claim
import GoSem.ClaimJoined
import GoSem.ClaimMapViews
import Derived.JoinedTies
import Derived.KernelRfl
namespace Go.Proofs.Ytpboghglkihlmaa
/- THE CELL 'sum', in the pinned program and in every row, IS THE sha256 OF THE DUMP (.gsa) THAT YtpboghglkihlmaaProg.lean LOADS. Nothing in Lean hashes anything: it is a label: what it is worth is what the hold of that sum in a sandbox is worth. -/
noncomputable def Try.pinned : Pinned := { name := "ytpboghglkihlmaa", sum := "1bd40cccb9b9b632e06fd4737f4c268d0c8491fa19d0f2b86780458f84321f96", checked := Try.checked }
namespace Rows
def none {H : Type} : Left H := { results := [], args := [] }

/-- 'laws.FnExactFlagsOk': WHATEVER THE INPUT: true; the input reads as it did. -/
def fnExactFlagsOkSpec : ChangeSpec := { name := "fnExactFlagsOk", fn := fun _ => fun
  | [d] => { results := [.lit (.bool true)], args := [d] }
  | _ => none }
def fnExactFlagsOkRow : OpenClaim := { program := "ytpboghglkihlmaa", sum := "1bd40cccb9b9b632e06fd4737f4c268d0c8491fa19d0f2b86780458f84321f96", func := "loop.example/g00769/laws.FnExactFlagsOk", spec := "fnExactFlagsOk", apart := false }
def FnExactFlagsOkSaid : Prop := fnExactFlagsOkRow.holds Try.pinned (OpenSpec.ofChange fnExactFlagsOkSpec)

/-- ITS FALSE NEIGHBOUR: 'it returns false'. Refute it at one input. -/
def fnExactFlagsOkWrong : ChangeSpec := { name := "fnExactFlagsOk", fn := fun _ => fun
  | [d] => { results := [.lit (.bool false)], args := [d] }
  | _ => none }
def FnExactFlagsOkWrongFalsely : Prop := fnExactFlagsOkRow.holds Try.pinned (OpenSpec.ofChange fnExactFlagsOkWrong)

/-- 'laws.FnExactTimesOk': WHATEVER THE INPUT: true; the input reads as it did. -/
def fnExactTimesOkSpec : ChangeSpec := { name := "fnExactTimesOk", fn := fun _ => fun
  | [d] => { results := [.lit (.bool true)], args := [d] }
  | _ => none }
def fnExactTimesOkRow : OpenClaim := { program := "ytpboghglkihlmaa", sum := "1bd40cccb9b9b632e06fd4737f4c268d0c8491fa19d0f2b86780458f84321f96", func := "loop.example/g00769/laws.FnExactTimesOk", spec := "fnExactTimesOk", apart := false }
def FnExactTimesOkSaid : Prop := fnExactTimesOkRow.holds Try.pinned (OpenSpec.ofChange fnExactTimesOkSpec)

/-- ITS FALSE NEIGHBOUR: 'it returns false'. Refute it at one input. -/
def fnExactTimesOkWrong : ChangeSpec := { name := "fnExactTimesOk", fn := fun _ => fun
  | [d] => { results := [.lit (.bool false)], args := [d] }
  | _ => none }
def FnExactTimesOkWrongFalsely : Prop := fnExactTimesOkRow.holds Try.pinned (OpenSpec.ofChange fnExactTimesOkWrong)

/-- 'laws.FnExactBelow': WHATEVER THE INPUT: true; the input reads as it did. -/
def fnExactBelowSpec : ChangeSpec := { name := "fnExactBelow", fn := fun _ => fun
  | [d1, d2] => { results := [.lit (.bool true)], args := [d1, d2] }
  | _ => none }
def fnExactBelowRow : OpenClaim := { program := "ytpboghglkihlmaa", sum := "1bd40cccb9b9b632e06fd4737f4c268d0c8491fa19d0f2b86780458f84321f96", func := "loop.example/g00769/laws.FnExactBelow", spec := "fnExactBelow", apart := false }
def FnExactBelowSaid : Prop := fnExactBelowRow.holds Try.pinned (OpenSpec.ofChange fnExactBelowSpec)

/-- ITS FALSE NEIGHBOUR: 'it returns false'. Refute it at one input. -/
def fnExactBelowWrong : ChangeSpec := { name := "fnExactBelow", fn := fun _ => fun
  | [d1, d2] => { results := [.lit (.bool false)], args := [d1, d2] }
  | _ => none }
def FnExactBelowWrongFalsely : Prop := fnExactBelowRow.holds Try.pinned (OpenSpec.ofChange fnExactBelowWrong)

/-- 'laws.FnExactLives': WHATEVER THE INPUT: true; the input reads as it did. -/
def fnExactLivesSpec : ChangeSpec := { name := "fnExactLives", fn := fun _ => fun
  | [d1, d2, d3] => { results := [.lit (.bool true)], args := [d1, d2, d3] }
  | _ => none }
def fnExactLivesRow : OpenClaim := { program := "ytpboghglkihlmaa", sum := "1bd40cccb9b9b632e06fd4737f4c268d0c8491fa19d0f2b86780458f84321f96", func := "loop.example/g00769/laws.FnExactLives", spec := "fnExactLives", apart := false }
def FnExactLivesSaid : Prop := fnExactLivesRow.holds Try.pinned (OpenSpec.ofChange fnExactLivesSpec)

/-- ITS FALSE NEIGHBOUR: 'it returns false'. Refute it at one input. -/
def fnExactLivesWrong : ChangeSpec := { name := "fnExactLives", fn := fun _ => fun
  | [d1, d2, d3] => { results := [.lit (.bool false)], args := [d1, d2, d3] }
  | _ => none }
def FnExactLivesWrongFalsely : Prop := fnExactLivesRow.holds Try.pinned (OpenSpec.ofChange fnExactLivesWrong)

/-- 'laws.FnExactShowFlags': WHATEVER THE INPUT: true; the input reads as it did. -/
def fnExactShowFlagsSpec : ChangeSpec := { name := "fnExactShowFlags", fn := fun _ => fun
  | [d] => { results := [.lit (.bool true)], args := [d] }
  | _ => none }
def fnExactShowFlagsRow : OpenClaim := { program := "ytpboghglkihlmaa", sum := "1bd40cccb9b9b632e06fd4737f4c268d0c8491fa19d0f2b86780458f84321f96", func := "loop.example/g00769/laws.FnExactShowFlags", spec := "fnExactShowFlags", apart := false }
def FnExactShowFlagsSaid : Prop := fnExactShowFlagsRow.holds Try.pinned (OpenSpec.ofChange fnExactShowFlagsSpec)

/-- ITS FALSE NEIGHBOUR: 'it returns false'. Refute it at one input. -/
def fnExactShowFlagsWrong : ChangeSpec := { name := "fnExactShowFlags", fn := fun _ => fun
  | [d] => { results := [.lit (.bool false)], args := [d] }
  | _ => none }
def FnExactShowFlagsWrongFalsely : Prop := fnExactShowFlagsRow.holds Try.pinned (OpenSpec.ofChange fnExactShowFlagsWrong)

/-- 'laws.FnExactRenewed': WHATEVER THE INPUT: true; the input reads as it did. -/
def fnExactRenewedSpec : ChangeSpec := { name := "fnExactRenewed", fn := fun _ => fun
  | [d1, d2, d3] => { results := [.lit (.bool true)], args := [d1, d2, d3] }
  | _ => none }
def fnExactRenewedRow : OpenClaim := { program := "ytpboghglkihlmaa", sum := "1bd40cccb9b9b632e06fd4737f4c268d0c8491fa19d0f2b86780458f84321f96", func := "loop.example/g00769/laws.FnExactRenewed", spec := "fnExactRenewed", apart := false }
def FnExactRenewedSaid : Prop := fnExactRenewedRow.holds Try.pinned (OpenSpec.ofChange fnExactRenewedSpec)

/-- ITS FALSE NEIGHBOUR: 'it returns false'. Refute it at one input. -/
def fnExactRenewedWrong : ChangeSpec := { name := "fnExactRenewed", fn := fun _ => fun
  | [d1, d2, d3] => { results := [.lit (.bool false)], args := [d1, d2, d3] }
  | _ => none }
def FnExactRenewedWrongFalsely : Prop := fnExactRenewedRow.holds Try.pinned (OpenSpec.ofChange fnExactRenewedWrong)

/-- 'laws.FnExactReadFlags': WHATEVER THE INPUT: true; the input reads as it did. -/
def fnExactReadFlagsSpec : ChangeSpec := { name := "fnExactReadFlags", fn := fun _ => fun
  | [d] => { results := [.lit (.bool true)], args := [d] }
  | _ => none }
def fnExactReadFlagsRow : OpenClaim := { program := "ytpboghglkihlmaa", sum := "1bd40cccb9b9b632e06fd4737f4c268d0c8491fa19d0f2b86780458f84321f96", func := "loop.example/g00769/laws.FnExactReadFlags", spec := "fnExactReadFlags", apart := false }
def FnExactReadFlagsSaid : Prop := fnExactReadFlagsRow.holds Try.pinned (OpenSpec.ofChange fnExactReadFlagsSpec)

/-- ITS FALSE NEIGHBOUR: 'it returns false'. Refute it at one input. -/
def fnExactReadFlagsWrong : ChangeSpec := { name := "fnExactReadFlags", fn := fun _ => fun
  | [d] => { results := [.lit (.bool false)], args := [d] }
  | _ => none }
def FnExactReadFlagsWrongFalsely : Prop := fnExactReadFlagsRow.holds Try.pinned (OpenSpec.ofChange fnExactReadFlagsWrong)

/-- 'laws.FnExactInside': WHATEVER THE INPUT: true; the input reads as it did. -/
def fnExactInsideSpec : ChangeSpec := { name := "fnExactInside", fn := fun _ => fun
  | [d1, d2] => { results := [.lit (.bool true)], args := [d1, d2] }
  | _ => none }
def fnExactInsideRow : OpenClaim := { program := "ytpboghglkihlmaa", sum := "1bd40cccb9b9b632e06fd4737f4c268d0c8491fa19d0f2b86780458f84321f96", func := "loop.example/g00769/laws.FnExactInside", spec := "fnExactInside", apart := false }
def FnExactInsideSaid : Prop := fnExactInsideRow.holds Try.pinned (OpenSpec.ofChange fnExactInsideSpec)

/-- ITS FALSE NEIGHBOUR: 'it returns false'. Refute it at one input. -/
def fnExactInsideWrong : ChangeSpec := { name := "fnExactInside", fn := fun _ => fun
  | [d1, d2] => { results := [.lit (.bool false)], args := [d1, d2] }
  | _ => none }
def FnExactInsideWrongFalsely : Prop := fnExactInsideRow.holds Try.pinned (OpenSpec.ofChange fnExactInsideWrong)

/-- 'laws.FnExactDerive': WHATEVER THE INPUT: true; the input reads as it did. -/
def fnExactDeriveSpec : ChangeSpec := { name := "fnExactDerive", fn := fun _ => fun
  | [d1, d2, d3] => { results := [.lit (.bool true)], args := [d1, d2, d3] }
  | _ => none }
def fnExactDeriveRow : OpenClaim := { program := "ytpboghglkihlmaa", sum := "1bd40cccb9b9b632e06fd4737f4c268d0c8491fa19d0f2b86780458f84321f96", func := "loop.example/g00769/laws.FnExactDerive", spec := "fnExactDerive", apart := false }
def FnExactDeriveSaid : Prop := fnExactDeriveRow.holds Try.pinned (OpenSpec.ofChange fnExactDeriveSpec)

/-- ITS FALSE NEIGHBOUR: 'it returns false'. Refute it at one input. -/
def fnExactDeriveWrong : ChangeSpec := { name := "fnExactDerive", fn := fun _ => fun
  | [d1, d2, d3] => { results := [.lit (.bool false)], args := [d1, d2, d3] }
  | _ => none }
def FnExactDeriveWrongFalsely : Prop := fnExactDeriveRow.holds Try.pinned (OpenSpec.ofChange fnExactDeriveWrong)

/-- 'laws.FnFlags': WHATEVER THE INPUT: true; the input reads as it did. -/
def fnFlagsSpec : ChangeSpec := { name := "fnFlags", fn := fun _ => fun
  | [d] => { results := [.lit (.bool true)], args := [d] }
  | _ => none }
def fnFlagsRow : OpenClaim := { program := "ytpboghglkihlmaa", sum := "1bd40cccb9b9b632e06fd4737f4c268d0c8491fa19d0f2b86780458f84321f96", func := "loop.example/g00769/laws.FnFlags", spec := "fnFlags", apart := false }
def FnFlagsSaid : Prop := fnFlagsRow.holds Try.pinned (OpenSpec.ofChange fnFlagsSpec)

/-- ITS FALSE NEIGHBOUR: 'it returns false'. Refute it at one input. -/
def fnFlagsWrong : ChangeSpec := { name := "fnFlags", fn := fun _ => fun
  | [d] => { results := [.lit (.bool false)], args := [d] }
  | _ => none }
def FnFlagsWrongFalsely : Prop := fnFlagsRow.holds Try.pinned (OpenSpec.ofChange fnFlagsWrong)

/-- 'laws.FnFlagText': WHATEVER THE INPUT: true; the input reads as it did. -/
def fnFlagTextSpec : ChangeSpec := { name := "fnFlagText", fn := fun _ => fun
  | [d] => { results := [.lit (.bool true)], args := [d] }
  | _ => none }
def fnFlagTextRow : OpenClaim := { program := "ytpboghglkihlmaa", sum := "1bd40cccb9b9b632e06fd4737f4c268d0c8491fa19d0f2b86780458f84321f96", func := "loop.example/g00769/laws.FnFlagText", spec := "fnFlagText", apart := false }
def FnFlagTextSaid : Prop := fnFlagTextRow.holds Try.pinned (OpenSpec.ofChange fnFlagTextSpec)

/-- ITS FALSE NEIGHBOUR: 'it returns false'. Refute it at one input. -/
def fnFlagTextWrong : ChangeSpec := { name := "fnFlagText", fn := fun _ => fun
  | [d] => { results := [.lit (.bool false)], args := [d] }
  | _ => none }
def FnFlagTextWrongFalsely : Prop := fnFlagTextRow.holds Try.pinned (OpenSpec.ofChange fnFlagTextWrong)

/-- 'laws.FnTimes': WHATEVER THE INPUT: true; the input reads as it did. -/
def fnTimesSpec : ChangeSpec := { name := "fnTimes", fn := fun _ => fun
  | [d] => { results := [.lit (.bool true)], args := [d] }
  | _ => none }
def fnTimesRow : OpenClaim := { program := "ytpboghglkihlmaa", sum := "1bd40cccb9b9b632e06fd4737f4c268d0c8491fa19d0f2b86780458f84321f96", func := "loop.example/g00769/laws.FnTimes", spec := "fnTimes", apart := false }
def FnTimesSaid : Prop := fnTimesRow.holds Try.pinned (OpenSpec.ofChange fnTimesSpec)

/-- ITS FALSE NEIGHBOUR: 'it returns false'. Refute it at one input. -/
def fnTimesWrong : ChangeSpec := { name := "fnTimes", fn := fun _ => fun
  | [d] => { results := [.lit (.bool false)], args := [d] }
  | _ => none }
def FnTimesWrongFalsely : Prop := fnTimesRow.holds Try.pinned (OpenSpec.ofChange fnTimesWrong)

/- THE SECOND FORM. 'bulk': how many values and letters a reading holds, each counted each time it is reached (what is shared counts as often as it is met; a slice's spare places count too). A statement '..UptoSaid' is the law's where the arguments, and the package variables that the reading takes, are together of bulk at most 1048576: NARROWER than '..Said'. Prove '..Said' where nothing that the law and all that it calls make is longer than what came in: it says more and counts as full. Else prove '..UptoSaid'. A law counts once. -/
mutual
def uptoBulk {H : Type} : DataW H → Nat
  | .lit (.string bytes) => bytes.length + 1
  | .lit _ => 1
  | .nil => 1
  | .ptr d => uptoBulk d + 1
  | .slice elems spare => uptoBulkAll elems + uptoBulkAll spare + 1
  | .agg parts => uptoBulkAll parts + 1
  | .iface _ d => uptoBulk d + 1
  | .map entries => uptoBulkEntries entries + 1
  | .held _ => 1
def uptoBulkAll {H : Type} : List (DataW H) → Nat
  | [] => 0
  | d :: r => uptoBulk d + uptoBulkAll r
def uptoBulkEntries {H : Type} : List (Lit × DataW H) → Nat
  | [] => 0
  | x :: r => uptoBulkEntry x + uptoBulkEntries r
def uptoBulkEntry {H : Type} : Lit × DataW H → Nat
  | (.string bytes, d) => bytes.length + uptoBulk d + 1
  | (_, d) => uptoBulk d + 1
 end
def uptoSmall : (H : Type) → List (DataW H) → Bool := fun _ ds => decide (uptoBulkAll ds ≤ 1048576)
def OpenSpec.upto (s : _root_.Go.ChangeSpec) : _root_.Go.OpenSpec := { _root_.Go.OpenSpec.ofChange s with cond := some uptoSmall }

/-- 'laws.FnExactFlagsOk', WHERE WHAT IT READS IS OF BULK AT MOST 1048576: true; the input reads as it did. -/
def fnExactFlagsOkUptoRow : OpenClaim := { program := "ytpboghglkihlmaa", sum := "1bd40cccb9b9b632e06fd4737f4c268d0c8491fa19d0f2b86780458f84321f96", func := "loop.example/g00769/laws.FnExactFlagsOk", spec := "fnExactFlagsOk", apart := false, narrowed := true }
def FnExactFlagsOkUptoSaid : Prop := fnExactFlagsOkUptoRow.holds Try.pinned (OpenSpec.upto fnExactFlagsOkSpec)

/-- 'laws.FnExactTimesOk', WHERE WHAT IT READS IS OF BULK AT MOST 1048576: true; the input reads as it did. -/
def fnExactTimesOkUptoRow : OpenClaim := { program := "ytpboghglkihlmaa", sum := "1bd40cccb9b9b632e06fd4737f4c268d0c8491fa19d0f2b86780458f84321f96", func := "loop.example/g00769/laws.FnExactTimesOk", spec := "fnExactTimesOk", apart := false, narrowed := true }
def FnExactTimesOkUptoSaid : Prop := fnExactTimesOkUptoRow.holds Try.pinned (OpenSpec.upto fnExactTimesOkSpec)

/-- 'laws.FnExactBelow', WHERE WHAT IT READS IS OF BULK AT MOST 1048576: true; the input reads as it did. -/
def fnExactBelowUptoRow : OpenClaim := { program := "ytpboghglkihlmaa", sum := "1bd40cccb9b9b632e06fd4737f4c268d0c8491fa19d0f2b86780458f84321f96", func := "loop.example/g00769/laws.FnExactBelow", spec := "fnExactBelow", apart := false, narrowed := true }
def FnExactBelowUptoSaid : Prop := fnExactBelowUptoRow.holds Try.pinned (OpenSpec.upto fnExactBelowSpec)

/-- 'laws.FnExactLives', WHERE WHAT IT READS IS OF BULK AT MOST 1048576: true; the input reads as it did. -/
def fnExactLivesUptoRow : OpenClaim := { program := "ytpboghglkihlmaa", sum := "1bd40cccb9b9b632e06fd4737f4c268d0c8491fa19d0f2b86780458f84321f96", func := "loop.example/g00769/laws.FnExactLives", spec := "fnExactLives", apart := false, narrowed := true }
def FnExactLivesUptoSaid : Prop := fnExactLivesUptoRow.holds Try.pinned (OpenSpec.upto fnExactLivesSpec)

/-- 'laws.FnExactShowFlags', WHERE WHAT IT READS IS OF BULK AT MOST 1048576: true; the input reads as it did. -/
def fnExactShowFlagsUptoRow : OpenClaim := { program := "ytpboghglkihlmaa", sum := "1bd40cccb9b9b632e06fd4737f4c268d0c8491fa19d0f2b86780458f84321f96", func := "loop.example/g00769/laws.FnExactShowFlags", spec := "fnExactShowFlags", apart := false, narrowed := true }
def FnExactShowFlagsUptoSaid : Prop := fnExactShowFlagsUptoRow.holds Try.pinned (OpenSpec.upto fnExactShowFlagsSpec)

/-- 'laws.FnExactRenewed', WHERE WHAT IT READS IS OF BULK AT MOST 1048576: true; the input reads as it did. -/
def fnExactRenewedUptoRow : OpenClaim := { program := "ytpboghglkihlmaa", sum := "1bd40cccb9b9b632e06fd4737f4c268d0c8491fa19d0f2b86780458f84321f96", func := "loop.example/g00769/laws.FnExactRenewed", spec := "fnExactRenewed", apart := false, narrowed := true }
def FnExactRenewedUptoSaid : Prop := fnExactRenewedUptoRow.holds Try.pinned (OpenSpec.upto fnExactRenewedSpec)

/-- 'laws.FnExactReadFlags', WHERE WHAT IT READS IS OF BULK AT MOST 1048576: true; the input reads as it did. -/
def fnExactReadFlagsUptoRow : OpenClaim := { program := "ytpboghglkihlmaa", sum := "1bd40cccb9b9b632e06fd4737f4c268d0c8491fa19d0f2b86780458f84321f96", func := "loop.example/g00769/laws.FnExactReadFlags", spec := "fnExactReadFlags", apart := false, narrowed := true }
def FnExactReadFlagsUptoSaid : Prop := fnExactReadFlagsUptoRow.holds Try.pinned (OpenSpec.upto fnExactReadFlagsSpec)

/-- 'laws.FnExactInside', WHERE WHAT IT READS IS OF BULK AT MOST 1048576: true; the input reads as it did. -/
def fnExactInsideUptoRow : OpenClaim := { program := "ytpboghglkihlmaa", sum := "1bd40cccb9b9b632e06fd4737f4c268d0c8491fa19d0f2b86780458f84321f96", func := "loop.example/g00769/laws.FnExactInside", spec := "fnExactInside", apart := false, narrowed := true }
def FnExactInsideUptoSaid : Prop := fnExactInsideUptoRow.holds Try.pinned (OpenSpec.upto fnExactInsideSpec)

/-- 'laws.FnExactDerive', WHERE WHAT IT READS IS OF BULK AT MOST 1048576: true; the input reads as it did. -/
def fnExactDeriveUptoRow : OpenClaim := { program := "ytpboghglkihlmaa", sum := "1bd40cccb9b9b632e06fd4737f4c268d0c8491fa19d0f2b86780458f84321f96", func := "loop.example/g00769/laws.FnExactDerive", spec := "fnExactDerive", apart := false, narrowed := true }
def FnExactDeriveUptoSaid : Prop := fnExactDeriveUptoRow.holds Try.pinned (OpenSpec.upto fnExactDeriveSpec)

/-- 'laws.FnFlags', WHERE WHAT IT READS IS OF BULK AT MOST 1048576: true; the input reads as it did. -/
def fnFlagsUptoRow : OpenClaim := { program := "ytpboghglkihlmaa", sum := "1bd40cccb9b9b632e06fd4737f4c268d0c8491fa19d0f2b86780458f84321f96", func := "loop.example/g00769/laws.FnFlags", spec := "fnFlags", apart := false, narrowed := true }
def FnFlagsUptoSaid : Prop := fnFlagsUptoRow.holds Try.pinned (OpenSpec.upto fnFlagsSpec)

/-- 'laws.FnFlagText', WHERE WHAT IT READS IS OF BULK AT MOST 1048576: true; the input reads as it did. -/
def fnFlagTextUptoRow : OpenClaim := { program := "ytpboghglkihlmaa", sum := "1bd40cccb9b9b632e06fd4737f4c268d0c8491fa19d0f2b86780458f84321f96", func := "loop.example/g00769/laws.FnFlagText", spec := "fnFlagText", apart := false, narrowed := true }
def FnFlagTextUptoSaid : Prop := fnFlagTextUptoRow.holds Try.pinned (OpenSpec.upto fnFlagTextSpec)

/-- 'laws.FnTimes', WHERE WHAT IT READS IS OF BULK AT MOST 1048576: true; the input reads as it did. -/
def fnTimesUptoRow : OpenClaim := { program := "ytpboghglkihlmaa", sum := "1bd40cccb9b9b632e06fd4737f4c268d0c8491fa19d0f2b86780458f84321f96", func := "loop.example/g00769/laws.FnTimes", spec := "fnTimes", apart := false, narrowed := true }
def FnTimesUptoSaid : Prop := fnTimesUptoRow.holds Try.pinned (OpenSpec.upto fnTimesSpec)

end Rows
end Go.Proofs.Ytpboghglkihlmaa
