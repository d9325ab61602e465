/-
  No cell of these rows narrows 'for every input' (looked for: loops, veiled, ifaces, maps, wideKeys, modest, calm, conditions, laid).
  DERIVED. THE GIVEN ROWS OF THIS SEAT. 8 by the template 'for every input the law returns true; each argument reads behind the call as it read before'; 0 by the template 'total and deterministic' (their statements: YtgjbgakcfcomdaaTotals.lean).
  GIVEN WITH THE SEED: the statements are not yours to turn. If you find one false, say at which input.
  Laid BY PROGRAM, IN A SANDBOX (cutbox-rows.mjs): the forced cells as the released guide's own fill.sh prints them over the translation 56fb6d42b59e1836… (all of the seat's roots in one cut). By AI agents, Wed Nov 11 2026. No macro, syntax, notation, axiom, sorry.
-/
import Derived.Test.YtgjbgakcfcomdaaChecked
import GoSem.Claim
import GoSem.ClaimJoined
import GoSem.ClaimMapViews
import Derived.JoinedTies
import Derived.KernelRfl
namespace Go.Proofs.Ytgjbgakcfcomdaa
/- THE CELL 'sum', in the pinned program and in every row, IS THE sha256 OF THE DUMP (.gsa) THAT YtgjbgakcfcomdaaProg.lean LOADS. Nothing in Lean hashes anything: it is a label: what it is worth is what the hold of that sum in a sandbox is worth. -/
noncomputable def Try.pinned : Pinned := { name := "ytgjbgakcfcomdaa", sum := "56fb6d42b59e183610f10a3e1fe9fe4da532b751a42008fa00e15d5b0b6461e8", checked := Try.checked }
namespace Rows
def none {H : Type} : Left H := { results := [], args := [] }

/-- 'laws.FnExactReadTlv': WHATEVER THE INPUT: true; the input reads as it did. -/
def fnExactReadTlvSpec : ChangeSpec := { name := "fnExactReadTlv", fn := fun _ => fun
  | [d] => { results := [.lit (.bool true)], args := [d] }
  | _ => none }
def fnExactReadTlvRow : OpenClaim := { program := "ytgjbgakcfcomdaa", sum := "56fb6d42b59e183610f10a3e1fe9fe4da532b751a42008fa00e15d5b0b6461e8", func := "loop.example/g00769/laws.FnExactReadTlv", spec := "fnExactReadTlv", recurses := true, apart := false }
def FnExactReadTlvSaid : Prop := fnExactReadTlvRow.holds Try.pinned (OpenSpec.ofChange fnExactReadTlvSpec)

/-- ITS FALSE NEIGHBOUR: 'it returns false'. Refute it at one input. -/
def fnExactReadTlvWrong : ChangeSpec := { name := "fnExactReadTlv", fn := fun _ => fun
  | [d] => { results := [.lit (.bool false)], args := [d] }
  | _ => none }
def FnExactReadTlvWrongFalsely : Prop := fnExactReadTlvRow.holds Try.pinned (OpenSpec.ofChange fnExactReadTlvWrong)

/-- 'laws.FnExactReadRules': WHATEVER THE INPUT: true; the input reads as it did. -/
def fnExactReadRulesSpec : ChangeSpec := { name := "fnExactReadRules", fn := fun _ => fun
  | [d] => { results := [.lit (.bool true)], args := [d] }
  | _ => none }
def fnExactReadRulesRow : OpenClaim := { program := "ytgjbgakcfcomdaa", sum := "56fb6d42b59e183610f10a3e1fe9fe4da532b751a42008fa00e15d5b0b6461e8", func := "loop.example/g00769/laws.FnExactReadRules", spec := "fnExactReadRules", unfollowed := true, recurses := true, apart := false }
def FnExactReadRulesSaid : Prop := fnExactReadRulesRow.holds Try.pinned (OpenSpec.ofChange fnExactReadRulesSpec)

/-- ITS FALSE NEIGHBOUR: 'it returns false'. Refute it at one input. -/
def fnExactReadRulesWrong : ChangeSpec := { name := "fnExactReadRules", fn := fun _ => fun
  | [d] => { results := [.lit (.bool false)], args := [d] }
  | _ => none }
def FnExactReadRulesWrongFalsely : Prop := fnExactReadRulesRow.holds Try.pinned (OpenSpec.ofChange fnExactReadRulesWrong)

/-- 'laws.FnRuleText': WHATEVER THE INPUT: true; the input reads as it did. -/
def fnRuleTextSpec : ChangeSpec := { name := "fnRuleText", fn := fun _ => fun
  | [d] => { results := [.lit (.bool true)], args := [d] }
  | _ => none }
def fnRuleTextRow : OpenClaim := { program := "ytgjbgakcfcomdaa", sum := "56fb6d42b59e183610f10a3e1fe9fe4da532b751a42008fa00e15d5b0b6461e8", func := "loop.example/g00769/laws.FnRuleText", spec := "fnRuleText", unfollowed := true, recurses := true, apart := false }
def FnRuleTextSaid : Prop := fnRuleTextRow.holds Try.pinned (OpenSpec.ofChange fnRuleTextSpec)

/-- ITS FALSE NEIGHBOUR: 'it returns false'. Refute it at one input. -/
def fnRuleTextWrong : ChangeSpec := { name := "fnRuleText", fn := fun _ => fun
  | [d] => { results := [.lit (.bool false)], args := [d] }
  | _ => none }
def FnRuleTextWrongFalsely : Prop := fnRuleTextRow.holds Try.pinned (OpenSpec.ofChange fnRuleTextWrong)

/-- 'laws.FnTlvFind': WHATEVER THE INPUT: true; the input reads as it did. -/
def fnTlvFindSpec : ChangeSpec := { name := "fnTlvFind", fn := fun _ => fun
  | [d] => { results := [.lit (.bool true)], args := [d] }
  | _ => none }
def fnTlvFindRow : OpenClaim := { program := "ytgjbgakcfcomdaa", sum := "56fb6d42b59e183610f10a3e1fe9fe4da532b751a42008fa00e15d5b0b6461e8", func := "loop.example/g00769/laws.FnTlvFind", spec := "fnTlvFind", unfollowed := true, recurses := true, apart := false }
def FnTlvFindSaid : Prop := fnTlvFindRow.holds Try.pinned (OpenSpec.ofChange fnTlvFindSpec)

/-- ITS FALSE NEIGHBOUR: 'it returns false'. Refute it at one input. -/
def fnTlvFindWrong : ChangeSpec := { name := "fnTlvFind", fn := fun _ => fun
  | [d] => { results := [.lit (.bool false)], args := [d] }
  | _ => none }
def FnTlvFindWrongFalsely : Prop := fnTlvFindRow.holds Try.pinned (OpenSpec.ofChange fnTlvFindWrong)

/-- 'laws.FnTlv': WHATEVER THE INPUT: true; the input reads as it did. -/
def fnTlvSpec : ChangeSpec := { name := "fnTlv", fn := fun _ => fun
  | [d] => { results := [.lit (.bool true)], args := [d] }
  | _ => none }
def fnTlvRow : OpenClaim := { program := "ytgjbgakcfcomdaa", sum := "56fb6d42b59e183610f10a3e1fe9fe4da532b751a42008fa00e15d5b0b6461e8", func := "loop.example/g00769/laws.FnTlv", spec := "fnTlv", recurses := true, apart := false }
def FnTlvSaid : Prop := fnTlvRow.holds Try.pinned (OpenSpec.ofChange fnTlvSpec)

/-- ITS FALSE NEIGHBOUR: 'it returns false'. Refute it at one input. -/
def fnTlvWrong : ChangeSpec := { name := "fnTlv", fn := fun _ => fun
  | [d] => { results := [.lit (.bool false)], args := [d] }
  | _ => none }
def FnTlvWrongFalsely : Prop := fnTlvRow.holds Try.pinned (OpenSpec.ofChange fnTlvWrong)

/-- 'laws.FnExactNormal': WHATEVER THE INPUT: true; the input reads as it did. -/
def fnExactNormalSpec : ChangeSpec := { name := "fnExactNormal", fn := fun _ => fun
  | [d] => { results := [.lit (.bool true)], args := [d] }
  | _ => none }
def fnExactNormalRow : OpenClaim := { program := "ytgjbgakcfcomdaa", sum := "56fb6d42b59e183610f10a3e1fe9fe4da532b751a42008fa00e15d5b0b6461e8", func := "loop.example/g00769/laws.FnExactNormal", spec := "fnExactNormal", unfollowed := true, recurses := true, apart := false }
def FnExactNormalSaid : Prop := fnExactNormalRow.holds Try.pinned (OpenSpec.ofChange fnExactNormalSpec)

/-- ITS FALSE NEIGHBOUR: 'it returns false'. Refute it at one input. -/
def fnExactNormalWrong : ChangeSpec := { name := "fnExactNormal", fn := fun _ => fun
  | [d] => { results := [.lit (.bool false)], args := [d] }
  | _ => none }
def FnExactNormalWrongFalsely : Prop := fnExactNormalRow.holds Try.pinned (OpenSpec.ofChange fnExactNormalWrong)

/-- 'laws.FnExactJoined': WHATEVER THE INPUT: true; the input reads as it did. -/
def fnExactJoinedSpec : ChangeSpec := { name := "fnExactJoined", fn := fun _ => fun
  | [d1, d2] => { results := [.lit (.bool true)], args := [d1, d2] }
  | _ => none }
def fnExactJoinedRow : OpenClaim := { program := "ytgjbgakcfcomdaa", sum := "56fb6d42b59e183610f10a3e1fe9fe4da532b751a42008fa00e15d5b0b6461e8", func := "loop.example/g00769/laws.FnExactJoined", spec := "fnExactJoined", unfollowed := true, recurses := true, apart := false }
def FnExactJoinedSaid : Prop := fnExactJoinedRow.holds Try.pinned (OpenSpec.ofChange fnExactJoinedSpec)

/-- ITS FALSE NEIGHBOUR: 'it returns false'. Refute it at one input. -/
def fnExactJoinedWrong : ChangeSpec := { name := "fnExactJoined", fn := fun _ => fun
  | [d1, d2] => { results := [.lit (.bool false)], args := [d1, d2] }
  | _ => none }
def FnExactJoinedWrongFalsely : Prop := fnExactJoinedRow.holds Try.pinned (OpenSpec.ofChange fnExactJoinedWrong)

/-- 'laws.FnExactNewWorld': WHATEVER THE INPUT: true; the input reads as it did. -/
def fnExactNewWorldSpec : ChangeSpec := { name := "fnExactNewWorld", fn := fun _ => fun
  | [d] => { results := [.lit (.bool true)], args := [d] }
  | _ => none }
def fnExactNewWorldRow : OpenClaim := { program := "ytgjbgakcfcomdaa", sum := "56fb6d42b59e183610f10a3e1fe9fe4da532b751a42008fa00e15d5b0b6461e8", func := "loop.example/g00769/laws.FnExactNewWorld", spec := "fnExactNewWorld", unfollowed := true, recurses := true, apart := false }
def FnExactNewWorldSaid : Prop := fnExactNewWorldRow.holds Try.pinned (OpenSpec.ofChange fnExactNewWorldSpec)

/-- ITS FALSE NEIGHBOUR: 'it returns false'. Refute it at one input. -/
def fnExactNewWorldWrong : ChangeSpec := { name := "fnExactNewWorld", fn := fun _ => fun
  | [d] => { results := [.lit (.bool false)], args := [d] }
  | _ => none }
def FnExactNewWorldWrongFalsely : Prop := fnExactNewWorldRow.holds Try.pinned (OpenSpec.ofChange fnExactNewWorldWrong)

/- THE SECOND FORM. 'bulk': how many values and letters a reading holds, each counted each time it is reached (what is shared counts as often as it is met; a slice's spare places count too). A statement '..UptoSaid' is the law's where the arguments, and the package variables that the reading takes, are together of bulk at most 1048576: NARROWER than '..Said'. Prove '..Said' where nothing that the law and all that it calls make is longer than what came in: it says more and counts as full. Else prove '..UptoSaid'. A law counts once. -/
mutual
def uptoBulk {H : Type} : DataW H → Nat
  | .lit (.string bytes) => bytes.length + 1
  | .lit _ => 1
  | .nil => 1
  | .ptr d => uptoBulk d + 1
  | .slice elems spare => uptoBulkAll elems + uptoBulkAll spare + 1
  | .agg parts => uptoBulkAll parts + 1
  | .iface _ d => uptoBulk d + 1
  | .map entries => uptoBulkEntries entries + 1
  | .held _ => 1
def uptoBulkAll {H : Type} : List (DataW H) → Nat
  | [] => 0
  | d :: r => uptoBulk d + uptoBulkAll r
def uptoBulkEntries {H : Type} : List (Lit × DataW H) → Nat
  | [] => 0
  | x :: r => uptoBulkEntry x + uptoBulkEntries r
def uptoBulkEntry {H : Type} : Lit × DataW H → Nat
  | (.string bytes, d) => bytes.length + uptoBulk d + 1
  | (_, d) => uptoBulk d + 1
 end
def uptoSmall : (H : Type) → List (DataW H) → Bool := fun _ ds => decide (uptoBulkAll ds ≤ 1048576)
def OpenSpec.upto (s : _root_.Go.ChangeSpec) : _root_.Go.OpenSpec := { _root_.Go.OpenSpec.ofChange s with cond := some uptoSmall }

/-- 'laws.FnExactReadTlv', WHERE WHAT IT READS IS OF BULK AT MOST 1048576: true; the input reads as it did. -/
def fnExactReadTlvUptoRow : OpenClaim := { program := "ytgjbgakcfcomdaa", sum := "56fb6d42b59e183610f10a3e1fe9fe4da532b751a42008fa00e15d5b0b6461e8", func := "loop.example/g00769/laws.FnExactReadTlv", spec := "fnExactReadTlv", recurses := true, apart := false, narrowed := true }
def FnExactReadTlvUptoSaid : Prop := fnExactReadTlvUptoRow.holds Try.pinned (OpenSpec.upto fnExactReadTlvSpec)

/-- 'laws.FnExactReadRules', WHERE WHAT IT READS IS OF BULK AT MOST 1048576: true; the input reads as it did. -/
def fnExactReadRulesUptoRow : OpenClaim := { program := "ytgjbgakcfcomdaa", sum := "56fb6d42b59e183610f10a3e1fe9fe4da532b751a42008fa00e15d5b0b6461e8", func := "loop.example/g00769/laws.FnExactReadRules", spec := "fnExactReadRules", unfollowed := true, recurses := true, apart := false, narrowed := true }
def FnExactReadRulesUptoSaid : Prop := fnExactReadRulesUptoRow.holds Try.pinned (OpenSpec.upto fnExactReadRulesSpec)

/-- 'laws.FnRuleText', WHERE WHAT IT READS IS OF BULK AT MOST 1048576: true; the input reads as it did. -/
def fnRuleTextUptoRow : OpenClaim := { program := "ytgjbgakcfcomdaa", sum := "56fb6d42b59e183610f10a3e1fe9fe4da532b751a42008fa00e15d5b0b6461e8", func := "loop.example/g00769/laws.FnRuleText", spec := "fnRuleText", unfollowed := true, recurses := true, apart := false, narrowed := true }
def FnRuleTextUptoSaid : Prop := fnRuleTextUptoRow.holds Try.pinned (OpenSpec.upto fnRuleTextSpec)

/-- 'laws.FnTlvFind', WHERE WHAT IT READS IS OF BULK AT MOST 1048576: true; the input reads as it did. -/
def fnTlvFindUptoRow : OpenClaim := { program := "ytgjbgakcfcomdaa", sum := "56fb6d42b59e183610f10a3e1fe9fe4da532b751a42008fa00e15d5b0b6461e8", func := "loop.example/g00769/laws.FnTlvFind", spec := "fnTlvFind", unfollowed := true, recurses := true, apart := false, narrowed := true }
def FnTlvFindUptoSaid : Prop := fnTlvFindUptoRow.holds Try.pinned (OpenSpec.upto fnTlvFindSpec)

/-- 'laws.FnTlv', WHERE WHAT IT READS IS OF BULK AT MOST 1048576: true; the input reads as it did. -/
def fnTlvUptoRow : OpenClaim := { program := "ytgjbgakcfcomdaa", sum := "56fb6d42b59e183610f10a3e1fe9fe4da532b751a42008fa00e15d5b0b6461e8", func := "loop.example/g00769/laws.FnTlv", spec := "fnTlv", recurses := true, apart := false, narrowed := true }
def FnTlvUptoSaid : Prop := fnTlvUptoRow.holds Try.pinned (OpenSpec.upto fnTlvSpec)

/-- 'laws.FnExactNormal', WHERE WHAT IT READS IS OF BULK AT MOST 1048576: true; the input reads as it did. -/
def fnExactNormalUptoRow : OpenClaim := { program := "ytgjbgakcfcomdaa", sum := "56fb6d42b59e183610f10a3e1fe9fe4da532b751a42008fa00e15d5b0b6461e8", func := "loop.example/g00769/laws.FnExactNormal", spec := "fnExactNormal", unfollowed := true, recurses := true, apart := false, narrowed := true }
def FnExactNormalUptoSaid : Prop := fnExactNormalUptoRow.holds Try.pinned (OpenSpec.upto fnExactNormalSpec)

/-- 'laws.FnExactJoined', WHERE WHAT IT READS IS OF BULK AT MOST 1048576: true; the input reads as it did. -/
def fnExactJoinedUptoRow : OpenClaim := { program := "ytgjbgakcfcomdaa", sum := "56fb6d42b59e183610f10a3e1fe9fe4da532b751a42008fa00e15d5b0b6461e8", func := "loop.example/g00769/laws.FnExactJoined", spec := "fnExactJoined", unfollowed := true, recurses := true, apart := false, narrowed := true }
def FnExactJoinedUptoSaid : Prop := fnExactJoinedUptoRow.holds Try.pinned (OpenSpec.upto fnExactJoinedSpec)

/-- 'laws.FnExactNewWorld', WHERE WHAT IT READS IS OF BULK AT MOST 1048576: true; the input reads as it did. -/
def fnExactNewWorldUptoRow : OpenClaim := { program := "ytgjbgakcfcomdaa", sum := "56fb6d42b59e183610f10a3e1fe9fe4da532b751a42008fa00e15d5b0b6461e8", func := "loop.example/g00769/laws.FnExactNewWorld", spec := "fnExactNewWorld", unfollowed := true, recurses := true, apart := false, narrowed := true }
def FnExactNewWorldUptoSaid : Prop := fnExactNewWorldUptoRow.holds Try.pinned (OpenSpec.upto fnExactNewWorldSpec)

end Rows
end Go.Proofs.Ytgjbgakcfcomdaa
