/-
  No cell of these rows narrows 'for every input' (looked for: loops, veiled, ifaces, maps, wideKeys, modest, calm, conditions, laid).
  DERIVED. THE GIVEN ROWS OF THIS SEAT. 5 by the template 'for every input the law returns true; each argument reads behind the call as it read before'; 0 by the template 'total and deterministic' (their statements: YtnbjjmnohlnplaaGreatTotals.lean).
  GIVEN WITH THE SEED: the statements are not yours to turn. If you find one false, say at which input.
  Laid BY PROGRAM, IN A SANDBOX (cutbox-rows.mjs): the forced cells as the released guide's own fill.sh prints them over the translation 46f89d4cf68a45c1… (all of the seat's roots in one cut). By AI agents, Wed Nov 11 2026. No macro, syntax, notation, axiom, sorry.
-/
import Derived.Test.YtnbjjmnohlnplaaGreatChecked
import GoSem.Claim
import GoSem.ClaimJoined
import GoSem.ClaimMapViews
import Derived.JoinedTies
import Derived.KernelRfl
namespace Go.Proofs.YtnbjjmnohlnplaaGreat
/- THE CELL 'sum', in the pinned program and in every row, IS THE sha256 OF THE DUMP (.gsa) THAT YtnbjjmnohlnplaaGreatProg.lean LOADS. Nothing in Lean hashes anything: it is a label: what it is worth is what the hold of that sum in a sandbox is worth. -/
noncomputable def Tryz.pinned : Pinned := { name := "ytnbjjmnohlnplaagreat", sum := "46f89d4cf68a45c18e4c5f800ea977a87fa75ddeeb7b48d630eefb9b4de65c33", checked := Tryz.checked }
namespace Rows
def none {H : Type} : Left H := { results := [], args := [] }

/-- 'laws.FnStolen': WHATEVER THE INPUT: true; the input reads as it did. -/
def fnStolenSpec : ChangeSpec := { name := "fnStolen", fn := fun _ => fun
  | [d] => { results := [.lit (.bool true)], args := [d] }
  | _ => none }
def fnStolenRow : OpenClaim := { program := "ytnbjjmnohlnplaagreat", sum := "46f89d4cf68a45c18e4c5f800ea977a87fa75ddeeb7b48d630eefb9b4de65c33", func := "loop.example/g00769/laws.FnStolen", spec := "fnStolen", unfollowed := true, recurses := true, apart := false }
def FnStolenSaid : Prop := fnStolenRow.holds Tryz.pinned (OpenSpec.ofChange fnStolenSpec)

/-- ITS FALSE NEIGHBOUR: 'it returns false'. Refute it at one input. -/
def fnStolenWrong : ChangeSpec := { name := "fnStolen", fn := fun _ => fun
  | [d] => { results := [.lit (.bool false)], args := [d] }
  | _ => none }
def FnStolenWrongFalsely : Prop := fnStolenRow.holds Tryz.pinned (OpenSpec.ofChange fnStolenWrong)

/-- 'laws.FnFlow': WHATEVER THE INPUT: true; the input reads as it did. -/
def fnFlowSpec : ChangeSpec := { name := "fnFlow", fn := fun _ => fun
  | [d] => { results := [.lit (.bool true)], args := [d] }
  | _ => none }
def fnFlowRow : OpenClaim := { program := "ytnbjjmnohlnplaagreat", sum := "46f89d4cf68a45c18e4c5f800ea977a87fa75ddeeb7b48d630eefb9b4de65c33", func := "loop.example/g00769/laws.FnFlow", spec := "fnFlow", unfollowed := true, recurses := true, apart := false }
def FnFlowSaid : Prop := fnFlowRow.holds Tryz.pinned (OpenSpec.ofChange fnFlowSpec)

/-- ITS FALSE NEIGHBOUR: 'it returns false'. Refute it at one input. -/
def fnFlowWrong : ChangeSpec := { name := "fnFlow", fn := fun _ => fun
  | [d] => { results := [.lit (.bool false)], args := [d] }
  | _ => none }
def FnFlowWrongFalsely : Prop := fnFlowRow.holds Tryz.pinned (OpenSpec.ofChange fnFlowWrong)

/-- 'laws.FnReplay': WHATEVER THE INPUT: true; the input reads as it did. -/
def fnReplaySpec : ChangeSpec := { name := "fnReplay", fn := fun _ => fun
  | [d] => { results := [.lit (.bool true)], args := [d] }
  | _ => none }
def fnReplayRow : OpenClaim := { program := "ytnbjjmnohlnplaagreat", sum := "46f89d4cf68a45c18e4c5f800ea977a87fa75ddeeb7b48d630eefb9b4de65c33", func := "loop.example/g00769/laws.FnReplay", spec := "fnReplay", unfollowed := true, recurses := true, apart := false }
def FnReplaySaid : Prop := fnReplayRow.holds Tryz.pinned (OpenSpec.ofChange fnReplaySpec)

/-- ITS FALSE NEIGHBOUR: 'it returns false'. Refute it at one input. -/
def fnReplayWrong : ChangeSpec := { name := "fnReplay", fn := fun _ => fun
  | [d] => { results := [.lit (.bool false)], args := [d] }
  | _ => none }
def FnReplayWrongFalsely : Prop := fnReplayRow.holds Tryz.pinned (OpenSpec.ofChange fnReplayWrong)

/-- 'laws.FnDeskWorks': WHATEVER THE INPUT: true; the input reads as it did. -/
def fnDeskWorksSpec : ChangeSpec := { name := "fnDeskWorks", fn := fun _ => fun
  | [d] => { results := [.lit (.bool true)], args := [d] }
  | _ => none }
def fnDeskWorksRow : OpenClaim := { program := "ytnbjjmnohlnplaagreat", sum := "46f89d4cf68a45c18e4c5f800ea977a87fa75ddeeb7b48d630eefb9b4de65c33", func := "loop.example/g00769/laws.FnDeskWorks", spec := "fnDeskWorks", unfollowed := true, recurses := true, apart := false }
def FnDeskWorksSaid : Prop := fnDeskWorksRow.holds Tryz.pinned (OpenSpec.ofChange fnDeskWorksSpec)

/-- ITS FALSE NEIGHBOUR: 'it returns false'. Refute it at one input. -/
def fnDeskWorksWrong : ChangeSpec := { name := "fnDeskWorks", fn := fun _ => fun
  | [d] => { results := [.lit (.bool false)], args := [d] }
  | _ => none }
def FnDeskWorksWrongFalsely : Prop := fnDeskWorksRow.holds Tryz.pinned (OpenSpec.ofChange fnDeskWorksWrong)

/-- 'laws.FnChain': WHATEVER THE INPUT: true; the input reads as it did. -/
def fnChainSpec : ChangeSpec := { name := "fnChain", fn := fun _ => fun
  | [d] => { results := [.lit (.bool true)], args := [d] }
  | _ => none }
def fnChainRow : OpenClaim := { program := "ytnbjjmnohlnplaagreat", sum := "46f89d4cf68a45c18e4c5f800ea977a87fa75ddeeb7b48d630eefb9b4de65c33", func := "loop.example/g00769/laws.FnChain", spec := "fnChain", unfollowed := true, recurses := true, apart := false }
def FnChainSaid : Prop := fnChainRow.holds Tryz.pinned (OpenSpec.ofChange fnChainSpec)

/-- ITS FALSE NEIGHBOUR: 'it returns false'. Refute it at one input. -/
def fnChainWrong : ChangeSpec := { name := "fnChain", fn := fun _ => fun
  | [d] => { results := [.lit (.bool false)], args := [d] }
  | _ => none }
def FnChainWrongFalsely : Prop := fnChainRow.holds Tryz.pinned (OpenSpec.ofChange fnChainWrong)

/- THE SECOND FORM. 'bulk': how many values and letters a reading holds, each counted each time it is reached (what is shared counts as often as it is met; a slice's spare places count too). A statement '..UptoSaid' is the law's where the arguments, and the package variables that the reading takes, are together of bulk at most 1048576: NARROWER than '..Said'. Prove '..Said' where nothing that the law and all that it calls make is longer than what came in: it says more and counts as full. Else prove '..UptoSaid'. A law counts once. -/
mutual
def uptoBulk {H : Type} : DataW H → Nat
  | .lit (.string bytes) => bytes.length + 1
  | .lit _ => 1
  | .nil => 1
  | .ptr d => uptoBulk d + 1
  | .slice elems spare => uptoBulkAll elems + uptoBulkAll spare + 1
  | .agg parts => uptoBulkAll parts + 1
  | .iface _ d => uptoBulk d + 1
  | .map entries => uptoBulkEntries entries + 1
  | .held _ => 1
def uptoBulkAll {H : Type} : List (DataW H) → Nat
  | [] => 0
  | d :: r => uptoBulk d + uptoBulkAll r
def uptoBulkEntries {H : Type} : List (Lit × DataW H) → Nat
  | [] => 0
  | x :: r => uptoBulkEntry x + uptoBulkEntries r
def uptoBulkEntry {H : Type} : Lit × DataW H → Nat
  | (.string bytes, d) => bytes.length + uptoBulk d + 1
  | (_, d) => uptoBulk d + 1
 end
def uptoSmall : (H : Type) → List (DataW H) → Bool := fun _ ds => decide (uptoBulkAll ds ≤ 1048576)
def OpenSpec.upto (s : _root_.Go.ChangeSpec) : _root_.Go.OpenSpec := { _root_.Go.OpenSpec.ofChange s with cond := some uptoSmall }

/-- 'laws.FnStolen', WHERE WHAT IT READS IS OF BULK AT MOST 1048576: true; the input reads as it did. -/
def fnStolenUptoRow : OpenClaim := { program := "ytnbjjmnohlnplaagreat", sum := "46f89d4cf68a45c18e4c5f800ea977a87fa75ddeeb7b48d630eefb9b4de65c33", func := "loop.example/g00769/laws.FnStolen", spec := "fnStolen", unfollowed := true, recurses := true, apart := false, narrowed := true }
def FnStolenUptoSaid : Prop := fnStolenUptoRow.holds Tryz.pinned (OpenSpec.upto fnStolenSpec)

/-- 'laws.FnFlow', WHERE WHAT IT READS IS OF BULK AT MOST 1048576: true; the input reads as it did. -/
def fnFlowUptoRow : OpenClaim := { program := "ytnbjjmnohlnplaagreat", sum := "46f89d4cf68a45c18e4c5f800ea977a87fa75ddeeb7b48d630eefb9b4de65c33", func := "loop.example/g00769/laws.FnFlow", spec := "fnFlow", unfollowed := true, recurses := true, apart := false, narrowed := true }
def FnFlowUptoSaid : Prop := fnFlowUptoRow.holds Tryz.pinned (OpenSpec.upto fnFlowSpec)

/-- 'laws.FnReplay', WHERE WHAT IT READS IS OF BULK AT MOST 1048576: true; the input reads as it did. -/
def fnReplayUptoRow : OpenClaim := { program := "ytnbjjmnohlnplaagreat", sum := "46f89d4cf68a45c18e4c5f800ea977a87fa75ddeeb7b48d630eefb9b4de65c33", func := "loop.example/g00769/laws.FnReplay", spec := "fnReplay", unfollowed := true, recurses := true, apart := false, narrowed := true }
def FnReplayUptoSaid : Prop := fnReplayUptoRow.holds Tryz.pinned (OpenSpec.upto fnReplaySpec)

/-- 'laws.FnDeskWorks', WHERE WHAT IT READS IS OF BULK AT MOST 1048576: true; the input reads as it did. -/
def fnDeskWorksUptoRow : OpenClaim := { program := "ytnbjjmnohlnplaagreat", sum := "46f89d4cf68a45c18e4c5f800ea977a87fa75ddeeb7b48d630eefb9b4de65c33", func := "loop.example/g00769/laws.FnDeskWorks", spec := "fnDeskWorks", unfollowed := true, recurses := true, apart := false, narrowed := true }
def FnDeskWorksUptoSaid : Prop := fnDeskWorksUptoRow.holds Tryz.pinned (OpenSpec.upto fnDeskWorksSpec)

/-- 'laws.FnChain', WHERE WHAT IT READS IS OF BULK AT MOST 1048576: true; the input reads as it did. -/
def fnChainUptoRow : OpenClaim := { program := "ytnbjjmnohlnplaagreat", sum := "46f89d4cf68a45c18e4c5f800ea977a87fa75ddeeb7b48d630eefb9b4de65c33", func := "loop.example/g00769/laws.FnChain", spec := "fnChain", unfollowed := true, recurses := true, apart := false, narrowed := true }
def FnChainUptoSaid : Prop := fnChainUptoRow.holds Tryz.pinned (OpenSpec.upto fnChainSpec)

end Rows
end Go.Proofs.YtnbjjmnohlnplaaGreat
