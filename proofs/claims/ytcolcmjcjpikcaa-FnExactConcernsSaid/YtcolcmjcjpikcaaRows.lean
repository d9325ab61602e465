/-
  No cell of these rows narrows 'for every input' (looked for: loops, veiled, ifaces, maps, wideKeys, modest, calm, conditions, laid).
  DERIVED. THE GIVEN ROWS OF THIS SEAT. 19 by the template 'for every input the law returns true; each argument reads behind the call as it read before'; 0 by the template 'total and deterministic' (their statements: YtcolcmjcjpikcaaTotals.lean).
  GIVEN WITH THE SEED: the statements are not yours to turn. If you find one false, say at which input.
  Laid BY PROGRAM, IN A SANDBOX (cutbox-rows.mjs): the forced cells as the released guide's own fill.sh prints them over the translation 2c1b2d18984c6f78… (all of the seat's roots in one cut). By AI agents, Wed Nov 11 2026. No macro, syntax, notation, axiom, sorry.
-/
import Derived.Test.YtcolcmjcjpikcaaChecked
import GoSem.Claim
import GoSem.ClaimJoined
import GoSem.ClaimMapViews
import Derived.JoinedTies
import Derived.KernelRfl
namespace Go.Proofs.Ytcolcmjcjpikcaa
/- THE CELL 'sum', in the pinned program and in every row, IS THE sha256 OF THE DUMP (.gsa) THAT YtcolcmjcjpikcaaProg.lean LOADS. Nothing in Lean hashes anything: it is a label: what it is worth is what the hold of that sum in a sandbox is worth. -/
noncomputable def Try.pinned : Pinned := { name := "ytcolcmjcjpikcaa", sum := "2c1b2d18984c6f78891a6f2f1883498cd027c780509585d8f51b548a72d83be4", checked := Try.checked }
namespace Rows
def none {H : Type} : Left H := { results := [], args := [] }

/-- 'laws.FnExactChain': WHATEVER THE INPUT: true; the input reads as it did. -/
def fnExactChainSpec : ChangeSpec := { name := "fnExactChain", fn := fun _ => fun
  | [d1, d2] => { results := [.lit (.bool true)], args := [d1, d2] }
  | _ => none }
def fnExactChainRow : OpenClaim := { program := "ytcolcmjcjpikcaa", sum := "2c1b2d18984c6f78891a6f2f1883498cd027c780509585d8f51b548a72d83be4", func := "loop.example/g00769/laws.FnExactChain", spec := "fnExactChain", unfollowed := true, recurses := true, apart := false }
def FnExactChainSaid : Prop := fnExactChainRow.holds Try.pinned (OpenSpec.ofChange fnExactChainSpec)

/-- ITS FALSE NEIGHBOUR: 'it returns false'. Refute it at one input. -/
def fnExactChainWrong : ChangeSpec := { name := "fnExactChain", fn := fun _ => fun
  | [d1, d2] => { results := [.lit (.bool false)], args := [d1, d2] }
  | _ => none }
def FnExactChainWrongFalsely : Prop := fnExactChainRow.holds Try.pinned (OpenSpec.ofChange fnExactChainWrong)

/-- 'laws.FnExactReadTlv': WHATEVER THE INPUT: true; the input reads as it did. -/
def fnExactReadTlvSpec : ChangeSpec := { name := "fnExactReadTlv", fn := fun _ => fun
  | [d] => { results := [.lit (.bool true)], args := [d] }
  | _ => none }
def fnExactReadTlvRow : OpenClaim := { program := "ytcolcmjcjpikcaa", sum := "2c1b2d18984c6f78891a6f2f1883498cd027c780509585d8f51b548a72d83be4", func := "loop.example/g00769/laws.FnExactReadTlv", spec := "fnExactReadTlv", recurses := true, apart := false }
def FnExactReadTlvSaid : Prop := fnExactReadTlvRow.holds Try.pinned (OpenSpec.ofChange fnExactReadTlvSpec)

/-- ITS FALSE NEIGHBOUR: 'it returns false'. Refute it at one input. -/
def fnExactReadTlvWrong : ChangeSpec := { name := "fnExactReadTlv", fn := fun _ => fun
  | [d] => { results := [.lit (.bool false)], args := [d] }
  | _ => none }
def FnExactReadTlvWrongFalsely : Prop := fnExactReadTlvRow.holds Try.pinned (OpenSpec.ofChange fnExactReadTlvWrong)

/-- 'laws.FnExactTlvOk': WHATEVER THE INPUT: true; the input reads as it did. -/
def fnExactTlvOkSpec : ChangeSpec := { name := "fnExactTlvOk", fn := fun _ => fun
  | [d] => { results := [.lit (.bool true)], args := [d] }
  | _ => none }
def fnExactTlvOkRow : OpenClaim := { program := "ytcolcmjcjpikcaa", sum := "2c1b2d18984c6f78891a6f2f1883498cd027c780509585d8f51b548a72d83be4", func := "loop.example/g00769/laws.FnExactTlvOk", spec := "fnExactTlvOk", recurses := true, apart := false }
def FnExactTlvOkSaid : Prop := fnExactTlvOkRow.holds Try.pinned (OpenSpec.ofChange fnExactTlvOkSpec)

/-- ITS FALSE NEIGHBOUR: 'it returns false'. Refute it at one input. -/
def fnExactTlvOkWrong : ChangeSpec := { name := "fnExactTlvOk", fn := fun _ => fun
  | [d] => { results := [.lit (.bool false)], args := [d] }
  | _ => none }
def FnExactTlvOkWrongFalsely : Prop := fnExactTlvOkRow.holds Try.pinned (OpenSpec.ofChange fnExactTlvOkWrong)

/-- 'laws.FnExactReadRules': WHATEVER THE INPUT: true; the input reads as it did. -/
def fnExactReadRulesSpec : ChangeSpec := { name := "fnExactReadRules", fn := fun _ => fun
  | [d] => { results := [.lit (.bool true)], args := [d] }
  | _ => none }
def fnExactReadRulesRow : OpenClaim := { program := "ytcolcmjcjpikcaa", sum := "2c1b2d18984c6f78891a6f2f1883498cd027c780509585d8f51b548a72d83be4", func := "loop.example/g00769/laws.FnExactReadRules", spec := "fnExactReadRules", unfollowed := true, recurses := true, apart := false }
def FnExactReadRulesSaid : Prop := fnExactReadRulesRow.holds Try.pinned (OpenSpec.ofChange fnExactReadRulesSpec)

/-- ITS FALSE NEIGHBOUR: 'it returns false'. Refute it at one input. -/
def fnExactReadRulesWrong : ChangeSpec := { name := "fnExactReadRules", fn := fun _ => fun
  | [d] => { results := [.lit (.bool false)], args := [d] }
  | _ => none }
def FnExactReadRulesWrongFalsely : Prop := fnExactReadRulesRow.holds Try.pinned (OpenSpec.ofChange fnExactReadRulesWrong)

/-- 'laws.FnExactShowTlv': WHATEVER THE INPUT: true; the input reads as it did. -/
def fnExactShowTlvSpec : ChangeSpec := { name := "fnExactShowTlv", fn := fun _ => fun
  | [d] => { results := [.lit (.bool true)], args := [d] }
  | _ => none }
def fnExactShowTlvRow : OpenClaim := { program := "ytcolcmjcjpikcaa", sum := "2c1b2d18984c6f78891a6f2f1883498cd027c780509585d8f51b548a72d83be4", func := "loop.example/g00769/laws.FnExactShowTlv", spec := "fnExactShowTlv", recurses := true, apart := false }
def FnExactShowTlvSaid : Prop := fnExactShowTlvRow.holds Try.pinned (OpenSpec.ofChange fnExactShowTlvSpec)

/-- ITS FALSE NEIGHBOUR: 'it returns false'. Refute it at one input. -/
def fnExactShowTlvWrong : ChangeSpec := { name := "fnExactShowTlv", fn := fun _ => fun
  | [d] => { results := [.lit (.bool false)], args := [d] }
  | _ => none }
def FnExactShowTlvWrongFalsely : Prop := fnExactShowTlvRow.holds Try.pinned (OpenSpec.ofChange fnExactShowTlvWrong)

/-- 'laws.FnRuleText': WHATEVER THE INPUT: true; the input reads as it did. -/
def fnRuleTextSpec : ChangeSpec := { name := "fnRuleText", fn := fun _ => fun
  | [d] => { results := [.lit (.bool true)], args := [d] }
  | _ => none }
def fnRuleTextRow : OpenClaim := { program := "ytcolcmjcjpikcaa", sum := "2c1b2d18984c6f78891a6f2f1883498cd027c780509585d8f51b548a72d83be4", func := "loop.example/g00769/laws.FnRuleText", spec := "fnRuleText", unfollowed := true, recurses := true, apart := false }
def FnRuleTextSaid : Prop := fnRuleTextRow.holds Try.pinned (OpenSpec.ofChange fnRuleTextSpec)

/-- ITS FALSE NEIGHBOUR: 'it returns false'. Refute it at one input. -/
def fnRuleTextWrong : ChangeSpec := { name := "fnRuleText", fn := fun _ => fun
  | [d] => { results := [.lit (.bool false)], args := [d] }
  | _ => none }
def FnRuleTextWrongFalsely : Prop := fnRuleTextRow.holds Try.pinned (OpenSpec.ofChange fnRuleTextWrong)

/-- 'laws.FnExactTlvFind': WHATEVER THE INPUT: true; the input reads as it did. -/
def fnExactTlvFindSpec : ChangeSpec := { name := "fnExactTlvFind", fn := fun _ => fun
  | [d1, d2] => { results := [.lit (.bool true)], args := [d1, d2] }
  | _ => none }
def fnExactTlvFindRow : OpenClaim := { program := "ytcolcmjcjpikcaa", sum := "2c1b2d18984c6f78891a6f2f1883498cd027c780509585d8f51b548a72d83be4", func := "loop.example/g00769/laws.FnExactTlvFind", spec := "fnExactTlvFind", unfollowed := true, recurses := true, apart := false }
def FnExactTlvFindSaid : Prop := fnExactTlvFindRow.holds Try.pinned (OpenSpec.ofChange fnExactTlvFindSpec)

/-- ITS FALSE NEIGHBOUR: 'it returns false'. Refute it at one input. -/
def fnExactTlvFindWrong : ChangeSpec := { name := "fnExactTlvFind", fn := fun _ => fun
  | [d1, d2] => { results := [.lit (.bool false)], args := [d1, d2] }
  | _ => none }
def FnExactTlvFindWrongFalsely : Prop := fnExactTlvFindRow.holds Try.pinned (OpenSpec.ofChange fnExactTlvFindWrong)

/-- 'laws.FnTlvFind': WHATEVER THE INPUT: true; the input reads as it did. -/
def fnTlvFindSpec : ChangeSpec := { name := "fnTlvFind", fn := fun _ => fun
  | [d] => { results := [.lit (.bool true)], args := [d] }
  | _ => none }
def fnTlvFindRow : OpenClaim := { program := "ytcolcmjcjpikcaa", sum := "2c1b2d18984c6f78891a6f2f1883498cd027c780509585d8f51b548a72d83be4", func := "loop.example/g00769/laws.FnTlvFind", spec := "fnTlvFind", unfollowed := true, recurses := true, apart := false }
def FnTlvFindSaid : Prop := fnTlvFindRow.holds Try.pinned (OpenSpec.ofChange fnTlvFindSpec)

/-- ITS FALSE NEIGHBOUR: 'it returns false'. Refute it at one input. -/
def fnTlvFindWrong : ChangeSpec := { name := "fnTlvFind", fn := fun _ => fun
  | [d] => { results := [.lit (.bool false)], args := [d] }
  | _ => none }
def FnTlvFindWrongFalsely : Prop := fnTlvFindRow.holds Try.pinned (OpenSpec.ofChange fnTlvFindWrong)

/-- 'laws.FnExactReadTimes': WHATEVER THE INPUT: true; the input reads as it did. -/
def fnExactReadTimesSpec : ChangeSpec := { name := "fnExactReadTimes", fn := fun _ => fun
  | [d] => { results := [.lit (.bool true)], args := [d] }
  | _ => none }
def fnExactReadTimesRow : OpenClaim := { program := "ytcolcmjcjpikcaa", sum := "2c1b2d18984c6f78891a6f2f1883498cd027c780509585d8f51b548a72d83be4", func := "loop.example/g00769/laws.FnExactReadTimes", spec := "fnExactReadTimes", recurses := true, apart := false }
def FnExactReadTimesSaid : Prop := fnExactReadTimesRow.holds Try.pinned (OpenSpec.ofChange fnExactReadTimesSpec)

/-- ITS FALSE NEIGHBOUR: 'it returns false'. Refute it at one input. -/
def fnExactReadTimesWrong : ChangeSpec := { name := "fnExactReadTimes", fn := fun _ => fun
  | [d] => { results := [.lit (.bool false)], args := [d] }
  | _ => none }
def FnExactReadTimesWrongFalsely : Prop := fnExactReadTimesRow.holds Try.pinned (OpenSpec.ofChange fnExactReadTimesWrong)

/-- 'laws.FnTlv': WHATEVER THE INPUT: true; the input reads as it did. -/
def fnTlvSpec : ChangeSpec := { name := "fnTlv", fn := fun _ => fun
  | [d] => { results := [.lit (.bool true)], args := [d] }
  | _ => none }
def fnTlvRow : OpenClaim := { program := "ytcolcmjcjpikcaa", sum := "2c1b2d18984c6f78891a6f2f1883498cd027c780509585d8f51b548a72d83be4", func := "loop.example/g00769/laws.FnTlv", spec := "fnTlv", recurses := true, apart := false }
def FnTlvSaid : Prop := fnTlvRow.holds Try.pinned (OpenSpec.ofChange fnTlvSpec)

/-- ITS FALSE NEIGHBOUR: 'it returns false'. Refute it at one input. -/
def fnTlvWrong : ChangeSpec := { name := "fnTlv", fn := fun _ => fun
  | [d] => { results := [.lit (.bool false)], args := [d] }
  | _ => none }
def FnTlvWrongFalsely : Prop := fnTlvRow.holds Try.pinned (OpenSpec.ofChange fnTlvWrong)

/-- 'laws.FnTimeText': WHATEVER THE INPUT: true; the input reads as it did. -/
def fnTimeTextSpec : ChangeSpec := { name := "fnTimeText", fn := fun _ => fun
  | [d] => { results := [.lit (.bool true)], args := [d] }
  | _ => none }
def fnTimeTextRow : OpenClaim := { program := "ytcolcmjcjpikcaa", sum := "2c1b2d18984c6f78891a6f2f1883498cd027c780509585d8f51b548a72d83be4", func := "loop.example/g00769/laws.FnTimeText", spec := "fnTimeText", recurses := true, apart := false }
def FnTimeTextSaid : Prop := fnTimeTextRow.holds Try.pinned (OpenSpec.ofChange fnTimeTextSpec)

/-- ITS FALSE NEIGHBOUR: 'it returns false'. Refute it at one input. -/
def fnTimeTextWrong : ChangeSpec := { name := "fnTimeText", fn := fun _ => fun
  | [d] => { results := [.lit (.bool false)], args := [d] }
  | _ => none }
def FnTimeTextWrongFalsely : Prop := fnTimeTextRow.holds Try.pinned (OpenSpec.ofChange fnTimeTextWrong)

/-- 'laws.FnExactTakeReply': WHATEVER THE INPUT: true; the input reads as it did. -/
def fnExactTakeReplySpec : ChangeSpec := { name := "fnExactTakeReply", fn := fun _ => fun
  | [d1, d2, d3, d4, d5] => { results := [.lit (.bool true)], args := [d1, d2, d3, d4, d5] }
  | _ => none }
def fnExactTakeReplyRow : OpenClaim := { program := "ytcolcmjcjpikcaa", sum := "2c1b2d18984c6f78891a6f2f1883498cd027c780509585d8f51b548a72d83be4", func := "loop.example/g00769/laws.FnExactTakeReply", spec := "fnExactTakeReply", recurses := true, apart := false }
def FnExactTakeReplySaid : Prop := fnExactTakeReplyRow.holds Try.pinned (OpenSpec.ofChange fnExactTakeReplySpec)

/-- ITS FALSE NEIGHBOUR: 'it returns false'. Refute it at one input. -/
def fnExactTakeReplyWrong : ChangeSpec := { name := "fnExactTakeReply", fn := fun _ => fun
  | [d1, d2, d3, d4, d5] => { results := [.lit (.bool false)], args := [d1, d2, d3, d4, d5] }
  | _ => none }
def FnExactTakeReplyWrongFalsely : Prop := fnExactTakeReplyRow.holds Try.pinned (OpenSpec.ofChange fnExactTakeReplyWrong)

/-- 'laws.FnExactFlow': WHATEVER THE INPUT: true; the input reads as it did. -/
def fnExactFlowSpec : ChangeSpec := { name := "fnExactFlow", fn := fun _ => fun
  | [d1, d2, d3, d4, d5] => { results := [.lit (.bool true)], args := [d1, d2, d3, d4, d5] }
  | _ => none }
def fnExactFlowRow : OpenClaim := { program := "ytcolcmjcjpikcaa", sum := "2c1b2d18984c6f78891a6f2f1883498cd027c780509585d8f51b548a72d83be4", func := "loop.example/g00769/laws.FnExactFlow", spec := "fnExactFlow", unfollowed := true, recurses := true, apart := false }
def FnExactFlowSaid : Prop := fnExactFlowRow.holds Try.pinned (OpenSpec.ofChange fnExactFlowSpec)

/-- ITS FALSE NEIGHBOUR: 'it returns false'. Refute it at one input. -/
def fnExactFlowWrong : ChangeSpec := { name := "fnExactFlow", fn := fun _ => fun
  | [d1, d2, d3, d4, d5] => { results := [.lit (.bool false)], args := [d1, d2, d3, d4, d5] }
  | _ => none }
def FnExactFlowWrongFalsely : Prop := fnExactFlowRow.holds Try.pinned (OpenSpec.ofChange fnExactFlowWrong)

/-- 'laws.FnExactNormal': WHATEVER THE INPUT: true; the input reads as it did. -/
def fnExactNormalSpec : ChangeSpec := { name := "fnExactNormal", fn := fun _ => fun
  | [d] => { results := [.lit (.bool true)], args := [d] }
  | _ => none }
def fnExactNormalRow : OpenClaim := { program := "ytcolcmjcjpikcaa", sum := "2c1b2d18984c6f78891a6f2f1883498cd027c780509585d8f51b548a72d83be4", func := "loop.example/g00769/laws.FnExactNormal", spec := "fnExactNormal", unfollowed := true, recurses := true, apart := false }
def FnExactNormalSaid : Prop := fnExactNormalRow.holds Try.pinned (OpenSpec.ofChange fnExactNormalSpec)

/-- ITS FALSE NEIGHBOUR: 'it returns false'. Refute it at one input. -/
def fnExactNormalWrong : ChangeSpec := { name := "fnExactNormal", fn := fun _ => fun
  | [d] => { results := [.lit (.bool false)], args := [d] }
  | _ => none }
def FnExactNormalWrongFalsely : Prop := fnExactNormalRow.holds Try.pinned (OpenSpec.ofChange fnExactNormalWrong)

/-- 'laws.FnExactJoined': WHATEVER THE INPUT: true; the input reads as it did. -/
def fnExactJoinedSpec : ChangeSpec := { name := "fnExactJoined", fn := fun _ => fun
  | [d1, d2] => { results := [.lit (.bool true)], args := [d1, d2] }
  | _ => none }
def fnExactJoinedRow : OpenClaim := { program := "ytcolcmjcjpikcaa", sum := "2c1b2d18984c6f78891a6f2f1883498cd027c780509585d8f51b548a72d83be4", func := "loop.example/g00769/laws.FnExactJoined", spec := "fnExactJoined", unfollowed := true, recurses := true, apart := false }
def FnExactJoinedSaid : Prop := fnExactJoinedRow.holds Try.pinned (OpenSpec.ofChange fnExactJoinedSpec)

/-- ITS FALSE NEIGHBOUR: 'it returns false'. Refute it at one input. -/
def fnExactJoinedWrong : ChangeSpec := { name := "fnExactJoined", fn := fun _ => fun
  | [d1, d2] => { results := [.lit (.bool false)], args := [d1, d2] }
  | _ => none }
def FnExactJoinedWrongFalsely : Prop := fnExactJoinedRow.holds Try.pinned (OpenSpec.ofChange fnExactJoinedWrong)

/-- 'laws.FnExactStricter': WHATEVER THE INPUT: true; the input reads as it did. -/
def fnExactStricterSpec : ChangeSpec := { name := "fnExactStricter", fn := fun _ => fun
  | [d1, d2] => { results := [.lit (.bool true)], args := [d1, d2] }
  | _ => none }
def fnExactStricterRow : OpenClaim := { program := "ytcolcmjcjpikcaa", sum := "2c1b2d18984c6f78891a6f2f1883498cd027c780509585d8f51b548a72d83be4", func := "loop.example/g00769/laws.FnExactStricter", spec := "fnExactStricter", unfollowed := true, recurses := true, apart := false }
def FnExactStricterSaid : Prop := fnExactStricterRow.holds Try.pinned (OpenSpec.ofChange fnExactStricterSpec)

/-- ITS FALSE NEIGHBOUR: 'it returns false'. Refute it at one input. -/
def fnExactStricterWrong : ChangeSpec := { name := "fnExactStricter", fn := fun _ => fun
  | [d1, d2] => { results := [.lit (.bool false)], args := [d1, d2] }
  | _ => none }
def FnExactStricterWrongFalsely : Prop := fnExactStricterRow.holds Try.pinned (OpenSpec.ofChange fnExactStricterWrong)

/-- 'laws.FnExactConcerns': WHATEVER THE INPUT: true; the input reads as it did. -/
def fnExactConcernsSpec : ChangeSpec := { name := "fnExactConcerns", fn := fun _ => fun
  | [d1, d2] => { results := [.lit (.bool true)], args := [d1, d2] }
  | _ => none }
def fnExactConcernsRow : OpenClaim := { program := "ytcolcmjcjpikcaa", sum := "2c1b2d18984c6f78891a6f2f1883498cd027c780509585d8f51b548a72d83be4", func := "loop.example/g00769/laws.FnExactConcerns", spec := "fnExactConcerns", unfollowed := true, recurses := true, apart := false }
def FnExactConcernsSaid : Prop := fnExactConcernsRow.holds Try.pinned (OpenSpec.ofChange fnExactConcernsSpec)

/-- ITS FALSE NEIGHBOUR: 'it returns false'. Refute it at one input. -/
def fnExactConcernsWrong : ChangeSpec := { name := "fnExactConcerns", fn := fun _ => fun
  | [d1, d2] => { results := [.lit (.bool false)], args := [d1, d2] }
  | _ => none }
def FnExactConcernsWrongFalsely : Prop := fnExactConcernsRow.holds Try.pinned (OpenSpec.ofChange fnExactConcernsWrong)

/-- 'laws.FnExactRoots': WHATEVER THE INPUT: true; the input reads as it did. -/
def fnExactRootsSpec : ChangeSpec := { name := "fnExactRoots", fn := fun _ => fun
  | [d1, d2, d3] => { results := [.lit (.bool true)], args := [d1, d2, d3] }
  | _ => none }
def fnExactRootsRow : OpenClaim := { program := "ytcolcmjcjpikcaa", sum := "2c1b2d18984c6f78891a6f2f1883498cd027c780509585d8f51b548a72d83be4", func := "loop.example/g00769/laws.FnExactRoots", spec := "fnExactRoots", unfollowed := true, recurses := true, apart := false }
def FnExactRootsSaid : Prop := fnExactRootsRow.holds Try.pinned (OpenSpec.ofChange fnExactRootsSpec)

/-- ITS FALSE NEIGHBOUR: 'it returns false'. Refute it at one input. -/
def fnExactRootsWrong : ChangeSpec := { name := "fnExactRoots", fn := fun _ => fun
  | [d1, d2, d3] => { results := [.lit (.bool false)], args := [d1, d2, d3] }
  | _ => none }
def FnExactRootsWrongFalsely : Prop := fnExactRootsRow.holds Try.pinned (OpenSpec.ofChange fnExactRootsWrong)

/-- 'laws.FnExactNewWorld': WHATEVER THE INPUT: true; the input reads as it did. -/
def fnExactNewWorldSpec : ChangeSpec := { name := "fnExactNewWorld", fn := fun _ => fun
  | [d] => { results := [.lit (.bool true)], args := [d] }
  | _ => none }
def fnExactNewWorldRow : OpenClaim := { program := "ytcolcmjcjpikcaa", sum := "2c1b2d18984c6f78891a6f2f1883498cd027c780509585d8f51b548a72d83be4", func := "loop.example/g00769/laws.FnExactNewWorld", spec := "fnExactNewWorld", unfollowed := true, recurses := true, apart := false }
def FnExactNewWorldSaid : Prop := fnExactNewWorldRow.holds Try.pinned (OpenSpec.ofChange fnExactNewWorldSpec)

/-- ITS FALSE NEIGHBOUR: 'it returns false'. Refute it at one input. -/
def fnExactNewWorldWrong : ChangeSpec := { name := "fnExactNewWorld", fn := fun _ => fun
  | [d] => { results := [.lit (.bool false)], args := [d] }
  | _ => none }
def FnExactNewWorldWrongFalsely : Prop := fnExactNewWorldRow.holds Try.pinned (OpenSpec.ofChange fnExactNewWorldWrong)

/- THE SECOND FORM. 'bulk': how many values and letters a reading holds, each counted each time it is reached (what is shared counts as often as it is met; a slice's spare places count too). A statement '..UptoSaid' is the law's where the arguments, and the package variables that the reading takes, are together of bulk at most 1048576: NARROWER than '..Said'. Prove '..Said' where nothing that the law and all that it calls make is longer than what came in: it says more and counts as full. Else prove '..UptoSaid'. A law counts once. -/
mutual
def uptoBulk {H : Type} : DataW H → Nat
  | .lit (.string bytes) => bytes.length + 1
  | .lit _ => 1
  | .nil => 1
  | .ptr d => uptoBulk d + 1
  | .slice elems spare => uptoBulkAll elems + uptoBulkAll spare + 1
  | .agg parts => uptoBulkAll parts + 1
  | .iface _ d => uptoBulk d + 1
  | .map entries => uptoBulkEntries entries + 1
  | .held _ => 1
def uptoBulkAll {H : Type} : List (DataW H) → Nat
  | [] => 0
  | d :: r => uptoBulk d + uptoBulkAll r
def uptoBulkEntries {H : Type} : List (Lit × DataW H) → Nat
  | [] => 0
  | x :: r => uptoBulkEntry x + uptoBulkEntries r
def uptoBulkEntry {H : Type} : Lit × DataW H → Nat
  | (.string bytes, d) => bytes.length + uptoBulk d + 1
  | (_, d) => uptoBulk d + 1
 end
def uptoSmall : (H : Type) → List (DataW H) → Bool := fun _ ds => decide (uptoBulkAll ds ≤ 1048576)
def OpenSpec.upto (s : _root_.Go.ChangeSpec) : _root_.Go.OpenSpec := { _root_.Go.OpenSpec.ofChange s with cond := some uptoSmall }

/-- 'laws.FnExactChain', WHERE WHAT IT READS IS OF BULK AT MOST 1048576: true; the input reads as it did. -/
def fnExactChainUptoRow : OpenClaim := { program := "ytcolcmjcjpikcaa", sum := "2c1b2d18984c6f78891a6f2f1883498cd027c780509585d8f51b548a72d83be4", func := "loop.example/g00769/laws.FnExactChain", spec := "fnExactChain", unfollowed := true, recurses := true, apart := false, narrowed := true }
def FnExactChainUptoSaid : Prop := fnExactChainUptoRow.holds Try.pinned (OpenSpec.upto fnExactChainSpec)

/-- 'laws.FnExactReadTlv', WHERE WHAT IT READS IS OF BULK AT MOST 1048576: true; the input reads as it did. -/
def fnExactReadTlvUptoRow : OpenClaim := { program := "ytcolcmjcjpikcaa", sum := "2c1b2d18984c6f78891a6f2f1883498cd027c780509585d8f51b548a72d83be4", func := "loop.example/g00769/laws.FnExactReadTlv", spec := "fnExactReadTlv", recurses := true, apart := false, narrowed := true }
def FnExactReadTlvUptoSaid : Prop := fnExactReadTlvUptoRow.holds Try.pinned (OpenSpec.upto fnExactReadTlvSpec)

/-- 'laws.FnExactTlvOk', WHERE WHAT IT READS IS OF BULK AT MOST 1048576: true; the input reads as it did. -/
def fnExactTlvOkUptoRow : OpenClaim := { program := "ytcolcmjcjpikcaa", sum := "2c1b2d18984c6f78891a6f2f1883498cd027c780509585d8f51b548a72d83be4", func := "loop.example/g00769/laws.FnExactTlvOk", spec := "fnExactTlvOk", recurses := true, apart := false, narrowed := true }
def FnExactTlvOkUptoSaid : Prop := fnExactTlvOkUptoRow.holds Try.pinned (OpenSpec.upto fnExactTlvOkSpec)

/-- 'laws.FnExactReadRules', WHERE WHAT IT READS IS OF BULK AT MOST 1048576: true; the input reads as it did. -/
def fnExactReadRulesUptoRow : OpenClaim := { program := "ytcolcmjcjpikcaa", sum := "2c1b2d18984c6f78891a6f2f1883498cd027c780509585d8f51b548a72d83be4", func := "loop.example/g00769/laws.FnExactReadRules", spec := "fnExactReadRules", unfollowed := true, recurses := true, apart := false, narrowed := true }
def FnExactReadRulesUptoSaid : Prop := fnExactReadRulesUptoRow.holds Try.pinned (OpenSpec.upto fnExactReadRulesSpec)

/-- 'laws.FnExactShowTlv', WHERE WHAT IT READS IS OF BULK AT MOST 1048576: true; the input reads as it did. -/
def fnExactShowTlvUptoRow : OpenClaim := { program := "ytcolcmjcjpikcaa", sum := "2c1b2d18984c6f78891a6f2f1883498cd027c780509585d8f51b548a72d83be4", func := "loop.example/g00769/laws.FnExactShowTlv", spec := "fnExactShowTlv", recurses := true, apart := false, narrowed := true }
def FnExactShowTlvUptoSaid : Prop := fnExactShowTlvUptoRow.holds Try.pinned (OpenSpec.upto fnExactShowTlvSpec)

/-- 'laws.FnRuleText', WHERE WHAT IT READS IS OF BULK AT MOST 1048576: true; the input reads as it did. -/
def fnRuleTextUptoRow : OpenClaim := { program := "ytcolcmjcjpikcaa", sum := "2c1b2d18984c6f78891a6f2f1883498cd027c780509585d8f51b548a72d83be4", func := "loop.example/g00769/laws.FnRuleText", spec := "fnRuleText", unfollowed := true, recurses := true, apart := false, narrowed := true }
def FnRuleTextUptoSaid : Prop := fnRuleTextUptoRow.holds Try.pinned (OpenSpec.upto fnRuleTextSpec)

/-- 'laws.FnExactTlvFind', WHERE WHAT IT READS IS OF BULK AT MOST 1048576: true; the input reads as it did. -/
def fnExactTlvFindUptoRow : OpenClaim := { program := "ytcolcmjcjpikcaa", sum := "2c1b2d18984c6f78891a6f2f1883498cd027c780509585d8f51b548a72d83be4", func := "loop.example/g00769/laws.FnExactTlvFind", spec := "fnExactTlvFind", unfollowed := true, recurses := true, apart := false, narrowed := true }
def FnExactTlvFindUptoSaid : Prop := fnExactTlvFindUptoRow.holds Try.pinned (OpenSpec.upto fnExactTlvFindSpec)

/-- 'laws.FnTlvFind', WHERE WHAT IT READS IS OF BULK AT MOST 1048576: true; the input reads as it did. -/
def fnTlvFindUptoRow : OpenClaim := { program := "ytcolcmjcjpikcaa", sum := "2c1b2d18984c6f78891a6f2f1883498cd027c780509585d8f51b548a72d83be4", func := "loop.example/g00769/laws.FnTlvFind", spec := "fnTlvFind", unfollowed := true, recurses := true, apart := false, narrowed := true }
def FnTlvFindUptoSaid : Prop := fnTlvFindUptoRow.holds Try.pinned (OpenSpec.upto fnTlvFindSpec)

/-- 'laws.FnExactReadTimes', WHERE WHAT IT READS IS OF BULK AT MOST 1048576: true; the input reads as it did. -/
def fnExactReadTimesUptoRow : OpenClaim := { program := "ytcolcmjcjpikcaa", sum := "2c1b2d18984c6f78891a6f2f1883498cd027c780509585d8f51b548a72d83be4", func := "loop.example/g00769/laws.FnExactReadTimes", spec := "fnExactReadTimes", recurses := true, apart := false, narrowed := true }
def FnExactReadTimesUptoSaid : Prop := fnExactReadTimesUptoRow.holds Try.pinned (OpenSpec.upto fnExactReadTimesSpec)

/-- 'laws.FnTlv', WHERE WHAT IT READS IS OF BULK AT MOST 1048576: true; the input reads as it did. -/
def fnTlvUptoRow : OpenClaim := { program := "ytcolcmjcjpikcaa", sum := "2c1b2d18984c6f78891a6f2f1883498cd027c780509585d8f51b548a72d83be4", func := "loop.example/g00769/laws.FnTlv", spec := "fnTlv", recurses := true, apart := false, narrowed := true }
def FnTlvUptoSaid : Prop := fnTlvUptoRow.holds Try.pinned (OpenSpec.upto fnTlvSpec)

/-- 'laws.FnTimeText', WHERE WHAT IT READS IS OF BULK AT MOST 1048576: true; the input reads as it did. -/
def fnTimeTextUptoRow : OpenClaim := { program := "ytcolcmjcjpikcaa", sum := "2c1b2d18984c6f78891a6f2f1883498cd027c780509585d8f51b548a72d83be4", func := "loop.example/g00769/laws.FnTimeText", spec := "fnTimeText", recurses := true, apart := false, narrowed := true }
def FnTimeTextUptoSaid : Prop := fnTimeTextUptoRow.holds Try.pinned (OpenSpec.upto fnTimeTextSpec)

/-- 'laws.FnExactTakeReply', WHERE WHAT IT READS IS OF BULK AT MOST 1048576: true; the input reads as it did. -/
def fnExactTakeReplyUptoRow : OpenClaim := { program := "ytcolcmjcjpikcaa", sum := "2c1b2d18984c6f78891a6f2f1883498cd027c780509585d8f51b548a72d83be4", func := "loop.example/g00769/laws.FnExactTakeReply", spec := "fnExactTakeReply", recurses := true, apart := false, narrowed := true }
def FnExactTakeReplyUptoSaid : Prop := fnExactTakeReplyUptoRow.holds Try.pinned (OpenSpec.upto fnExactTakeReplySpec)

/-- 'laws.FnExactFlow', WHERE WHAT IT READS IS OF BULK AT MOST 1048576: true; the input reads as it did. -/
def fnExactFlowUptoRow : OpenClaim := { program := "ytcolcmjcjpikcaa", sum := "2c1b2d18984c6f78891a6f2f1883498cd027c780509585d8f51b548a72d83be4", func := "loop.example/g00769/laws.FnExactFlow", spec := "fnExactFlow", unfollowed := true, recurses := true, apart := false, narrowed := true }
def FnExactFlowUptoSaid : Prop := fnExactFlowUptoRow.holds Try.pinned (OpenSpec.upto fnExactFlowSpec)

/-- 'laws.FnExactNormal', WHERE WHAT IT READS IS OF BULK AT MOST 1048576: true; the input reads as it did. -/
def fnExactNormalUptoRow : OpenClaim := { program := "ytcolcmjcjpikcaa", sum := "2c1b2d18984c6f78891a6f2f1883498cd027c780509585d8f51b548a72d83be4", func := "loop.example/g00769/laws.FnExactNormal", spec := "fnExactNormal", unfollowed := true, recurses := true, apart := false, narrowed := true }
def FnExactNormalUptoSaid : Prop := fnExactNormalUptoRow.holds Try.pinned (OpenSpec.upto fnExactNormalSpec)

/-- 'laws.FnExactJoined', WHERE WHAT IT READS IS OF BULK AT MOST 1048576: true; the input reads as it did. -/
def fnExactJoinedUptoRow : OpenClaim := { program := "ytcolcmjcjpikcaa", sum := "2c1b2d18984c6f78891a6f2f1883498cd027c780509585d8f51b548a72d83be4", func := "loop.example/g00769/laws.FnExactJoined", spec := "fnExactJoined", unfollowed := true, recurses := true, apart := false, narrowed := true }
def FnExactJoinedUptoSaid : Prop := fnExactJoinedUptoRow.holds Try.pinned (OpenSpec.upto fnExactJoinedSpec)

/-- 'laws.FnExactStricter', WHERE WHAT IT READS IS OF BULK AT MOST 1048576: true; the input reads as it did. -/
def fnExactStricterUptoRow : OpenClaim := { program := "ytcolcmjcjpikcaa", sum := "2c1b2d18984c6f78891a6f2f1883498cd027c780509585d8f51b548a72d83be4", func := "loop.example/g00769/laws.FnExactStricter", spec := "fnExactStricter", unfollowed := true, recurses := true, apart := false, narrowed := true }
def FnExactStricterUptoSaid : Prop := fnExactStricterUptoRow.holds Try.pinned (OpenSpec.upto fnExactStricterSpec)

/-- 'laws.FnExactConcerns', WHERE WHAT IT READS IS OF BULK AT MOST 1048576: true; the input reads as it did. -/
def fnExactConcernsUptoRow : OpenClaim := { program := "ytcolcmjcjpikcaa", sum := "2c1b2d18984c6f78891a6f2f1883498cd027c780509585d8f51b548a72d83be4", func := "loop.example/g00769/laws.FnExactConcerns", spec := "fnExactConcerns", unfollowed := true, recurses := true, apart := false, narrowed := true }
def FnExactConcernsUptoSaid : Prop := fnExactConcernsUptoRow.holds Try.pinned (OpenSpec.upto fnExactConcernsSpec)

/-- 'laws.FnExactRoots', WHERE WHAT IT READS IS OF BULK AT MOST 1048576: true; the input reads as it did. -/
def fnExactRootsUptoRow : OpenClaim := { program := "ytcolcmjcjpikcaa", sum := "2c1b2d18984c6f78891a6f2f1883498cd027c780509585d8f51b548a72d83be4", func := "loop.example/g00769/laws.FnExactRoots", spec := "fnExactRoots", unfollowed := true, recurses := true, apart := false, narrowed := true }
def FnExactRootsUptoSaid : Prop := fnExactRootsUptoRow.holds Try.pinned (OpenSpec.upto fnExactRootsSpec)

/-- 'laws.FnExactNewWorld', WHERE WHAT IT READS IS OF BULK AT MOST 1048576: true; the input reads as it did. -/
def fnExactNewWorldUptoRow : OpenClaim := { program := "ytcolcmjcjpikcaa", sum := "2c1b2d18984c6f78891a6f2f1883498cd027c780509585d8f51b548a72d83be4", func := "loop.example/g00769/laws.FnExactNewWorld", spec := "fnExactNewWorld", unfollowed := true, recurses := true, apart := false, narrowed := true }
def FnExactNewWorldUptoSaid : Prop := fnExactNewWorldUptoRow.holds Try.pinned (OpenSpec.upto fnExactNewWorldSpec)

end Rows
end Go.Proofs.Ytcolcmjcjpikcaa
