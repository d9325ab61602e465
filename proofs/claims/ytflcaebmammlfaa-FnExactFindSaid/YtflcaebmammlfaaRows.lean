/-
  No cell of these rows narrows 'for every input' (looked for: loops, veiled, ifaces, maps, wideKeys, modest, calm, conditions, laid).
  DERIVED. THE GIVEN ROWS OF THIS SEAT. 19 by the template 'for every input the law returns true; each argument reads behind the call as it read before'; 0 by the template 'total and deterministic' (their statements: YtflcaebmammlfaaTotals.lean).
  GIVEN WITH THE SEED: the statements are not yours to turn. If you find one false, say at which input.
  Laid BY PROGRAM, IN A SANDBOX (cutbox-rows.mjs): the forced cells as the released guide's own fill.sh prints them over the translation 22d57fa1d88d4eee… (all of the seat's roots in one cut). By AI agents, Wed Nov 11 2026. No macro, syntax, notation, axiom, sorry.
-/
import Derived.Test.YtflcaebmammlfaaChecked
import GoSem.Claim
import GoSem.ClaimJoined
import GoSem.ClaimMapViews
import Derived.JoinedTies
import Derived.KernelRfl
namespace Go.Proofs.Ytflcaebmammlfaa
/- THE CELL 'sum', in the pinned program and in every row, IS THE sha256 OF THE DUMP (.gsa) THAT YtflcaebmammlfaaProg.lean LOADS. Nothing in Lean hashes anything: it is a label: what it is worth is what the hold of that sum in a sandbox is worth. -/
noncomputable def Try.pinned : Pinned := { name := "ytflcaebmammlfaa", sum := "22d57fa1d88d4eeec7154dc2a1be5e5b9465d981f0581ac5be7709f824f2a1a4", checked := Try.checked }
namespace Rows
def none {H : Type} : Left H := { results := [], args := [] }

/-- 'laws.FnExactTimesOk': WHATEVER THE INPUT: true; the input reads as it did. -/
def fnExactTimesOkSpec : ChangeSpec := { name := "fnExactTimesOk", fn := fun _ => fun
  | [d] => { results := [.lit (.bool true)], args := [d] }
  | _ => none }
def fnExactTimesOkRow : OpenClaim := { program := "ytflcaebmammlfaa", sum := "22d57fa1d88d4eeec7154dc2a1be5e5b9465d981f0581ac5be7709f824f2a1a4", func := "loop.example/g00769/laws.FnExactTimesOk", spec := "fnExactTimesOk", apart := false }
def FnExactTimesOkSaid : Prop := fnExactTimesOkRow.holds Try.pinned (OpenSpec.ofChange fnExactTimesOkSpec)

/-- ITS FALSE NEIGHBOUR: 'it returns false'. Refute it at one input. -/
def fnExactTimesOkWrong : ChangeSpec := { name := "fnExactTimesOk", fn := fun _ => fun
  | [d] => { results := [.lit (.bool false)], args := [d] }
  | _ => none }
def FnExactTimesOkWrongFalsely : Prop := fnExactTimesOkRow.holds Try.pinned (OpenSpec.ofChange fnExactTimesOkWrong)

/-- 'laws.FnExactLives': WHATEVER THE INPUT: true; the input reads as it did. -/
def fnExactLivesSpec : ChangeSpec := { name := "fnExactLives", fn := fun _ => fun
  | [d1, d2, d3] => { results := [.lit (.bool true)], args := [d1, d2, d3] }
  | _ => none }
def fnExactLivesRow : OpenClaim := { program := "ytflcaebmammlfaa", sum := "22d57fa1d88d4eeec7154dc2a1be5e5b9465d981f0581ac5be7709f824f2a1a4", func := "loop.example/g00769/laws.FnExactLives", spec := "fnExactLives", apart := false }
def FnExactLivesSaid : Prop := fnExactLivesRow.holds Try.pinned (OpenSpec.ofChange fnExactLivesSpec)

/-- ITS FALSE NEIGHBOUR: 'it returns false'. Refute it at one input. -/
def fnExactLivesWrong : ChangeSpec := { name := "fnExactLives", fn := fun _ => fun
  | [d1, d2, d3] => { results := [.lit (.bool false)], args := [d1, d2, d3] }
  | _ => none }
def FnExactLivesWrongFalsely : Prop := fnExactLivesRow.holds Try.pinned (OpenSpec.ofChange fnExactLivesWrong)

/-- 'laws.FnExactRenewed': WHATEVER THE INPUT: true; the input reads as it did. -/
def fnExactRenewedSpec : ChangeSpec := { name := "fnExactRenewed", fn := fun _ => fun
  | [d1, d2, d3] => { results := [.lit (.bool true)], args := [d1, d2, d3] }
  | _ => none }
def fnExactRenewedRow : OpenClaim := { program := "ytflcaebmammlfaa", sum := "22d57fa1d88d4eeec7154dc2a1be5e5b9465d981f0581ac5be7709f824f2a1a4", func := "loop.example/g00769/laws.FnExactRenewed", spec := "fnExactRenewed", apart := false }
def FnExactRenewedSaid : Prop := fnExactRenewedRow.holds Try.pinned (OpenSpec.ofChange fnExactRenewedSpec)

/-- ITS FALSE NEIGHBOUR: 'it returns false'. Refute it at one input. -/
def fnExactRenewedWrong : ChangeSpec := { name := "fnExactRenewed", fn := fun _ => fun
  | [d1, d2, d3] => { results := [.lit (.bool false)], args := [d1, d2, d3] }
  | _ => none }
def FnExactRenewedWrongFalsely : Prop := fnExactRenewedRow.holds Try.pinned (OpenSpec.ofChange fnExactRenewedWrong)

/-- 'laws.FnExactInside': WHATEVER THE INPUT: true; the input reads as it did. -/
def fnExactInsideSpec : ChangeSpec := { name := "fnExactInside", fn := fun _ => fun
  | [d1, d2] => { results := [.lit (.bool true)], args := [d1, d2] }
  | _ => none }
def fnExactInsideRow : OpenClaim := { program := "ytflcaebmammlfaa", sum := "22d57fa1d88d4eeec7154dc2a1be5e5b9465d981f0581ac5be7709f824f2a1a4", func := "loop.example/g00769/laws.FnExactInside", spec := "fnExactInside", apart := false }
def FnExactInsideSaid : Prop := fnExactInsideRow.holds Try.pinned (OpenSpec.ofChange fnExactInsideSpec)

/-- ITS FALSE NEIGHBOUR: 'it returns false'. Refute it at one input. -/
def fnExactInsideWrong : ChangeSpec := { name := "fnExactInside", fn := fun _ => fun
  | [d1, d2] => { results := [.lit (.bool false)], args := [d1, d2] }
  | _ => none }
def FnExactInsideWrongFalsely : Prop := fnExactInsideRow.holds Try.pinned (OpenSpec.ofChange fnExactInsideWrong)

/-- 'laws.FnFlags': WHATEVER THE INPUT: true; the input reads as it did. -/
def fnFlagsSpec : ChangeSpec := { name := "fnFlags", fn := fun _ => fun
  | [d] => { results := [.lit (.bool true)], args := [d] }
  | _ => none }
def fnFlagsRow : OpenClaim := { program := "ytflcaebmammlfaa", sum := "22d57fa1d88d4eeec7154dc2a1be5e5b9465d981f0581ac5be7709f824f2a1a4", func := "loop.example/g00769/laws.FnFlags", spec := "fnFlags", apart := false }
def FnFlagsSaid : Prop := fnFlagsRow.holds Try.pinned (OpenSpec.ofChange fnFlagsSpec)

/-- ITS FALSE NEIGHBOUR: 'it returns false'. Refute it at one input. -/
def fnFlagsWrong : ChangeSpec := { name := "fnFlags", fn := fun _ => fun
  | [d] => { results := [.lit (.bool false)], args := [d] }
  | _ => none }
def FnFlagsWrongFalsely : Prop := fnFlagsRow.holds Try.pinned (OpenSpec.ofChange fnFlagsWrong)

/-- 'laws.FnFlagText': WHATEVER THE INPUT: true; the input reads as it did. -/
def fnFlagTextSpec : ChangeSpec := { name := "fnFlagText", fn := fun _ => fun
  | [d] => { results := [.lit (.bool true)], args := [d] }
  | _ => none }
def fnFlagTextRow : OpenClaim := { program := "ytflcaebmammlfaa", sum := "22d57fa1d88d4eeec7154dc2a1be5e5b9465d981f0581ac5be7709f824f2a1a4", func := "loop.example/g00769/laws.FnFlagText", spec := "fnFlagText", apart := false }
def FnFlagTextSaid : Prop := fnFlagTextRow.holds Try.pinned (OpenSpec.ofChange fnFlagTextSpec)

/-- ITS FALSE NEIGHBOUR: 'it returns false'. Refute it at one input. -/
def fnFlagTextWrong : ChangeSpec := { name := "fnFlagText", fn := fun _ => fun
  | [d] => { results := [.lit (.bool false)], args := [d] }
  | _ => none }
def FnFlagTextWrongFalsely : Prop := fnFlagTextRow.holds Try.pinned (OpenSpec.ofChange fnFlagTextWrong)

/-- 'laws.FnTimes': WHATEVER THE INPUT: true; the input reads as it did. -/
def fnTimesSpec : ChangeSpec := { name := "fnTimes", fn := fun _ => fun
  | [d] => { results := [.lit (.bool true)], args := [d] }
  | _ => none }
def fnTimesRow : OpenClaim := { program := "ytflcaebmammlfaa", sum := "22d57fa1d88d4eeec7154dc2a1be5e5b9465d981f0581ac5be7709f824f2a1a4", func := "loop.example/g00769/laws.FnTimes", spec := "fnTimes", apart := false }
def FnTimesSaid : Prop := fnTimesRow.holds Try.pinned (OpenSpec.ofChange fnTimesSpec)

/-- ITS FALSE NEIGHBOUR: 'it returns false'. Refute it at one input. -/
def fnTimesWrong : ChangeSpec := { name := "fnTimes", fn := fun _ => fun
  | [d] => { results := [.lit (.bool false)], args := [d] }
  | _ => none }
def FnTimesWrongFalsely : Prop := fnTimesRow.holds Try.pinned (OpenSpec.ofChange fnTimesWrong)

/-- 'laws.FnExactNameOk': WHATEVER THE INPUT: true; the input reads as it did. -/
def fnExactNameOkSpec : ChangeSpec := { name := "fnExactNameOk", fn := fun _ => fun
  | [d] => { results := [.lit (.bool true)], args := [d] }
  | _ => none }
def fnExactNameOkRow : OpenClaim := { program := "ytflcaebmammlfaa", sum := "22d57fa1d88d4eeec7154dc2a1be5e5b9465d981f0581ac5be7709f824f2a1a4", func := "loop.example/g00769/laws.FnExactNameOk", spec := "fnExactNameOk", unfollowed := true, recurses := true, apart := false }
def FnExactNameOkSaid : Prop := fnExactNameOkRow.holds Try.pinned (OpenSpec.ofChange fnExactNameOkSpec)

/-- ITS FALSE NEIGHBOUR: 'it returns false'. Refute it at one input. -/
def fnExactNameOkWrong : ChangeSpec := { name := "fnExactNameOk", fn := fun _ => fun
  | [d] => { results := [.lit (.bool false)], args := [d] }
  | _ => none }
def FnExactNameOkWrongFalsely : Prop := fnExactNameOkRow.holds Try.pinned (OpenSpec.ofChange fnExactNameOkWrong)

/-- 'laws.FnExactFind': WHATEVER THE INPUT: true; the input reads as it did. -/
def fnExactFindSpec : ChangeSpec := { name := "fnExactFind", fn := fun _ => fun
  | [d1, d2] => { results := [.lit (.bool true)], args := [d1, d2] }
  | _ => none }
def fnExactFindRow : OpenClaim := { program := "ytflcaebmammlfaa", sum := "22d57fa1d88d4eeec7154dc2a1be5e5b9465d981f0581ac5be7709f824f2a1a4", func := "loop.example/g00769/laws.FnExactFind", spec := "fnExactFind", unfollowed := true, recurses := true, apart := false }
def FnExactFindSaid : Prop := fnExactFindRow.holds Try.pinned (OpenSpec.ofChange fnExactFindSpec)

/-- ITS FALSE NEIGHBOUR: 'it returns false'. Refute it at one input. -/
def fnExactFindWrong : ChangeSpec := { name := "fnExactFind", fn := fun _ => fun
  | [d1, d2] => { results := [.lit (.bool false)], args := [d1, d2] }
  | _ => none }
def FnExactFindWrongFalsely : Prop := fnExactFindRow.holds Try.pinned (OpenSpec.ofChange fnExactFindWrong)

/-- 'laws.FnExactNameLess': WHATEVER THE INPUT: true; the input reads as it did. -/
def fnExactNameLessSpec : ChangeSpec := { name := "fnExactNameLess", fn := fun _ => fun
  | [d1, d2] => { results := [.lit (.bool true)], args := [d1, d2] }
  | _ => none }
def fnExactNameLessRow : OpenClaim := { program := "ytflcaebmammlfaa", sum := "22d57fa1d88d4eeec7154dc2a1be5e5b9465d981f0581ac5be7709f824f2a1a4", func := "loop.example/g00769/laws.FnExactNameLess", spec := "fnExactNameLess", apart := false }
def FnExactNameLessSaid : Prop := fnExactNameLessRow.holds Try.pinned (OpenSpec.ofChange fnExactNameLessSpec)

/-- ITS FALSE NEIGHBOUR: 'it returns false'. Refute it at one input. -/
def fnExactNameLessWrong : ChangeSpec := { name := "fnExactNameLess", fn := fun _ => fun
  | [d1, d2] => { results := [.lit (.bool false)], args := [d1, d2] }
  | _ => none }
def FnExactNameLessWrongFalsely : Prop := fnExactNameLessRow.holds Try.pinned (OpenSpec.ofChange fnExactNameLessWrong)

/-- 'laws.FnExactNameFits': WHATEVER THE INPUT: true; the input reads as it did. -/
def fnExactNameFitsSpec : ChangeSpec := { name := "fnExactNameFits", fn := fun _ => fun
  | [d1, d2] => { results := [.lit (.bool true)], args := [d1, d2] }
  | _ => none }
def fnExactNameFitsRow : OpenClaim := { program := "ytflcaebmammlfaa", sum := "22d57fa1d88d4eeec7154dc2a1be5e5b9465d981f0581ac5be7709f824f2a1a4", func := "loop.example/g00769/laws.FnExactNameFits", spec := "fnExactNameFits", unfollowed := true, recurses := true, apart := false }
def FnExactNameFitsSaid : Prop := fnExactNameFitsRow.holds Try.pinned (OpenSpec.ofChange fnExactNameFitsSpec)

/-- ITS FALSE NEIGHBOUR: 'it returns false'. Refute it at one input. -/
def fnExactNameFitsWrong : ChangeSpec := { name := "fnExactNameFits", fn := fun _ => fun
  | [d1, d2] => { results := [.lit (.bool false)], args := [d1, d2] }
  | _ => none }
def FnExactNameFitsWrongFalsely : Prop := fnExactNameFitsRow.holds Try.pinned (OpenSpec.ofChange fnExactNameFitsWrong)

/-- 'laws.FnExactRulesOk': WHATEVER THE INPUT: true; the input reads as it did. -/
def fnExactRulesOkSpec : ChangeSpec := { name := "fnExactRulesOk", fn := fun _ => fun
  | [d] => { results := [.lit (.bool true)], args := [d] }
  | _ => none }
def fnExactRulesOkRow : OpenClaim := { program := "ytflcaebmammlfaa", sum := "22d57fa1d88d4eeec7154dc2a1be5e5b9465d981f0581ac5be7709f824f2a1a4", func := "loop.example/g00769/laws.FnExactRulesOk", spec := "fnExactRulesOk", unfollowed := true, recurses := true, apart := false }
def FnExactRulesOkSaid : Prop := fnExactRulesOkRow.holds Try.pinned (OpenSpec.ofChange fnExactRulesOkSpec)

/-- ITS FALSE NEIGHBOUR: 'it returns false'. Refute it at one input. -/
def fnExactRulesOkWrong : ChangeSpec := { name := "fnExactRulesOk", fn := fun _ => fun
  | [d] => { results := [.lit (.bool false)], args := [d] }
  | _ => none }
def FnExactRulesOkWrongFalsely : Prop := fnExactRulesOkRow.holds Try.pinned (OpenSpec.ofChange fnExactRulesOkWrong)

/-- 'laws.FnExactShowName': WHATEVER THE INPUT: true; the input reads as it did. -/
def fnExactShowNameSpec : ChangeSpec := { name := "fnExactShowName", fn := fun _ => fun
  | [d] => { results := [.lit (.bool true)], args := [d] }
  | _ => none }
def fnExactShowNameRow : OpenClaim := { program := "ytflcaebmammlfaa", sum := "22d57fa1d88d4eeec7154dc2a1be5e5b9465d981f0581ac5be7709f824f2a1a4", func := "loop.example/g00769/laws.FnExactShowName", spec := "fnExactShowName", unfollowed := true, recurses := true, apart := false }
def FnExactShowNameSaid : Prop := fnExactShowNameRow.holds Try.pinned (OpenSpec.ofChange fnExactShowNameSpec)

/-- ITS FALSE NEIGHBOUR: 'it returns false'. Refute it at one input. -/
def fnExactShowNameWrong : ChangeSpec := { name := "fnExactShowName", fn := fun _ => fun
  | [d] => { results := [.lit (.bool false)], args := [d] }
  | _ => none }
def FnExactShowNameWrongFalsely : Prop := fnExactShowNameRow.holds Try.pinned (OpenSpec.ofChange fnExactShowNameWrong)

/-- 'laws.FnExactShowRules': WHATEVER THE INPUT: true; the input reads as it did. -/
def fnExactShowRulesSpec : ChangeSpec := { name := "fnExactShowRules", fn := fun _ => fun
  | [d] => { results := [.lit (.bool true)], args := [d] }
  | _ => none }
def fnExactShowRulesRow : OpenClaim := { program := "ytflcaebmammlfaa", sum := "22d57fa1d88d4eeec7154dc2a1be5e5b9465d981f0581ac5be7709f824f2a1a4", func := "loop.example/g00769/laws.FnExactShowRules", spec := "fnExactShowRules", unfollowed := true, recurses := true, apart := false }
def FnExactShowRulesSaid : Prop := fnExactShowRulesRow.holds Try.pinned (OpenSpec.ofChange fnExactShowRulesSpec)

/-- ITS FALSE NEIGHBOUR: 'it returns false'. Refute it at one input. -/
def fnExactShowRulesWrong : ChangeSpec := { name := "fnExactShowRules", fn := fun _ => fun
  | [d] => { results := [.lit (.bool false)], args := [d] }
  | _ => none }
def FnExactShowRulesWrongFalsely : Prop := fnExactShowRulesRow.holds Try.pinned (OpenSpec.ofChange fnExactShowRulesWrong)

/-- 'laws.FnExactChain': WHATEVER THE INPUT: true; the input reads as it did. -/
def fnExactChainSpec : ChangeSpec := { name := "fnExactChain", fn := fun _ => fun
  | [d1, d2] => { results := [.lit (.bool true)], args := [d1, d2] }
  | _ => none }
def fnExactChainRow : OpenClaim := { program := "ytflcaebmammlfaa", sum := "22d57fa1d88d4eeec7154dc2a1be5e5b9465d981f0581ac5be7709f824f2a1a4", func := "loop.example/g00769/laws.FnExactChain", spec := "fnExactChain", unfollowed := true, recurses := true, apart := false }
def FnExactChainSaid : Prop := fnExactChainRow.holds Try.pinned (OpenSpec.ofChange fnExactChainSpec)

/-- ITS FALSE NEIGHBOUR: 'it returns false'. Refute it at one input. -/
def fnExactChainWrong : ChangeSpec := { name := "fnExactChain", fn := fun _ => fun
  | [d1, d2] => { results := [.lit (.bool false)], args := [d1, d2] }
  | _ => none }
def FnExactChainWrongFalsely : Prop := fnExactChainRow.holds Try.pinned (OpenSpec.ofChange fnExactChainWrong)

/-- 'laws.FnExactShowTimes': WHATEVER THE INPUT: true; the input reads as it did. -/
def fnExactShowTimesSpec : ChangeSpec := { name := "fnExactShowTimes", fn := fun _ => fun
  | [d] => { results := [.lit (.bool true)], args := [d] }
  | _ => none }
def fnExactShowTimesRow : OpenClaim := { program := "ytflcaebmammlfaa", sum := "22d57fa1d88d4eeec7154dc2a1be5e5b9465d981f0581ac5be7709f824f2a1a4", func := "loop.example/g00769/laws.FnExactShowTimes", spec := "fnExactShowTimes", recurses := true, apart := false }
def FnExactShowTimesSaid : Prop := fnExactShowTimesRow.holds Try.pinned (OpenSpec.ofChange fnExactShowTimesSpec)

/-- ITS FALSE NEIGHBOUR: 'it returns false'. Refute it at one input. -/
def fnExactShowTimesWrong : ChangeSpec := { name := "fnExactShowTimes", fn := fun _ => fun
  | [d] => { results := [.lit (.bool false)], args := [d] }
  | _ => none }
def FnExactShowTimesWrongFalsely : Prop := fnExactShowTimesRow.holds Try.pinned (OpenSpec.ofChange fnExactShowTimesWrong)

/-- 'laws.FnExactReadTlv': WHATEVER THE INPUT: true; the input reads as it did. -/
def fnExactReadTlvSpec : ChangeSpec := { name := "fnExactReadTlv", fn := fun _ => fun
  | [d] => { results := [.lit (.bool true)], args := [d] }
  | _ => none }
def fnExactReadTlvRow : OpenClaim := { program := "ytflcaebmammlfaa", sum := "22d57fa1d88d4eeec7154dc2a1be5e5b9465d981f0581ac5be7709f824f2a1a4", func := "loop.example/g00769/laws.FnExactReadTlv", spec := "fnExactReadTlv", recurses := true, apart := false }
def FnExactReadTlvSaid : Prop := fnExactReadTlvRow.holds Try.pinned (OpenSpec.ofChange fnExactReadTlvSpec)

/-- ITS FALSE NEIGHBOUR: 'it returns false'. Refute it at one input. -/
def fnExactReadTlvWrong : ChangeSpec := { name := "fnExactReadTlv", fn := fun _ => fun
  | [d] => { results := [.lit (.bool false)], args := [d] }
  | _ => none }
def FnExactReadTlvWrongFalsely : Prop := fnExactReadTlvRow.holds Try.pinned (OpenSpec.ofChange fnExactReadTlvWrong)

/-- 'laws.FnExactAllows': WHATEVER THE INPUT: true; the input reads as it did. -/
def fnExactAllowsSpec : ChangeSpec := { name := "fnExactAllows", fn := fun _ => fun
  | [d1, d2] => { results := [.lit (.bool true)], args := [d1, d2] }
  | _ => none }
def fnExactAllowsRow : OpenClaim := { program := "ytflcaebmammlfaa", sum := "22d57fa1d88d4eeec7154dc2a1be5e5b9465d981f0581ac5be7709f824f2a1a4", func := "loop.example/g00769/laws.FnExactAllows", spec := "fnExactAllows", unfollowed := true, recurses := true, apart := false }
def FnExactAllowsSaid : Prop := fnExactAllowsRow.holds Try.pinned (OpenSpec.ofChange fnExactAllowsSpec)

/-- ITS FALSE NEIGHBOUR: 'it returns false'. Refute it at one input. -/
def fnExactAllowsWrong : ChangeSpec := { name := "fnExactAllows", fn := fun _ => fun
  | [d1, d2] => { results := [.lit (.bool false)], args := [d1, d2] }
  | _ => none }
def FnExactAllowsWrongFalsely : Prop := fnExactAllowsRow.holds Try.pinned (OpenSpec.ofChange fnExactAllowsWrong)

/-- 'laws.FnExactTlvOk': WHATEVER THE INPUT: true; the input reads as it did. -/
def fnExactTlvOkSpec : ChangeSpec := { name := "fnExactTlvOk", fn := fun _ => fun
  | [d] => { results := [.lit (.bool true)], args := [d] }
  | _ => none }
def fnExactTlvOkRow : OpenClaim := { program := "ytflcaebmammlfaa", sum := "22d57fa1d88d4eeec7154dc2a1be5e5b9465d981f0581ac5be7709f824f2a1a4", func := "loop.example/g00769/laws.FnExactTlvOk", spec := "fnExactTlvOk", recurses := true, apart := false }
def FnExactTlvOkSaid : Prop := fnExactTlvOkRow.holds Try.pinned (OpenSpec.ofChange fnExactTlvOkSpec)

/-- ITS FALSE NEIGHBOUR: 'it returns false'. Refute it at one input. -/
def fnExactTlvOkWrong : ChangeSpec := { name := "fnExactTlvOk", fn := fun _ => fun
  | [d] => { results := [.lit (.bool false)], args := [d] }
  | _ => none }
def FnExactTlvOkWrongFalsely : Prop := fnExactTlvOkRow.holds Try.pinned (OpenSpec.ofChange fnExactTlvOkWrong)

/- THE SECOND FORM. 'bulk': how many values and letters a reading holds, each counted each time it is reached (what is shared counts as often as it is met; a slice's spare places count too). A statement '..UptoSaid' is the law's where the arguments, and the package variables that the reading takes, are together of bulk at most 1048576: NARROWER than '..Said'. Prove '..Said' where nothing that the law and all that it calls make is longer than what came in: it says more and counts as full. Else prove '..UptoSaid'. A law counts once. -/
mutual
def uptoBulk {H : Type} : DataW H → Nat
  | .lit (.string bytes) => bytes.length + 1
  | .lit _ => 1
  | .nil => 1
  | .ptr d => uptoBulk d + 1
  | .slice elems spare => uptoBulkAll elems + uptoBulkAll spare + 1
  | .agg parts => uptoBulkAll parts + 1
  | .iface _ d => uptoBulk d + 1
  | .map entries => uptoBulkEntries entries + 1
  | .held _ => 1
def uptoBulkAll {H : Type} : List (DataW H) → Nat
  | [] => 0
  | d :: r => uptoBulk d + uptoBulkAll r
def uptoBulkEntries {H : Type} : List (Lit × DataW H) → Nat
  | [] => 0
  | x :: r => uptoBulkEntry x + uptoBulkEntries r
def uptoBulkEntry {H : Type} : Lit × DataW H → Nat
  | (.string bytes, d) => bytes.length + uptoBulk d + 1
  | (_, d) => uptoBulk d + 1
 end
def uptoSmall : (H : Type) → List (DataW H) → Bool := fun _ ds => decide (uptoBulkAll ds ≤ 1048576)
def OpenSpec.upto (s : _root_.Go.ChangeSpec) : _root_.Go.OpenSpec := { _root_.Go.OpenSpec.ofChange s with cond := some uptoSmall }

/-- 'laws.FnExactTimesOk', WHERE WHAT IT READS IS OF BULK AT MOST 1048576: true; the input reads as it did. -/
def fnExactTimesOkUptoRow : OpenClaim := { program := "ytflcaebmammlfaa", sum := "22d57fa1d88d4eeec7154dc2a1be5e5b9465d981f0581ac5be7709f824f2a1a4", func := "loop.example/g00769/laws.FnExactTimesOk", spec := "fnExactTimesOk", apart := false, narrowed := true }
def FnExactTimesOkUptoSaid : Prop := fnExactTimesOkUptoRow.holds Try.pinned (OpenSpec.upto fnExactTimesOkSpec)

/-- 'laws.FnExactLives', WHERE WHAT IT READS IS OF BULK AT MOST 1048576: true; the input reads as it did. -/
def fnExactLivesUptoRow : OpenClaim := { program := "ytflcaebmammlfaa", sum := "22d57fa1d88d4eeec7154dc2a1be5e5b9465d981f0581ac5be7709f824f2a1a4", func := "loop.example/g00769/laws.FnExactLives", spec := "fnExactLives", apart := false, narrowed := true }
def FnExactLivesUptoSaid : Prop := fnExactLivesUptoRow.holds Try.pinned (OpenSpec.upto fnExactLivesSpec)

/-- 'laws.FnExactRenewed', WHERE WHAT IT READS IS OF BULK AT MOST 1048576: true; the input reads as it did. -/
def fnExactRenewedUptoRow : OpenClaim := { program := "ytflcaebmammlfaa", sum := "22d57fa1d88d4eeec7154dc2a1be5e5b9465d981f0581ac5be7709f824f2a1a4", func := "loop.example/g00769/laws.FnExactRenewed", spec := "fnExactRenewed", apart := false, narrowed := true }
def FnExactRenewedUptoSaid : Prop := fnExactRenewedUptoRow.holds Try.pinned (OpenSpec.upto fnExactRenewedSpec)

/-- 'laws.FnExactInside', WHERE WHAT IT READS IS OF BULK AT MOST 1048576: true; the input reads as it did. -/
def fnExactInsideUptoRow : OpenClaim := { program := "ytflcaebmammlfaa", sum := "22d57fa1d88d4eeec7154dc2a1be5e5b9465d981f0581ac5be7709f824f2a1a4", func := "loop.example/g00769/laws.FnExactInside", spec := "fnExactInside", apart := false, narrowed := true }
def FnExactInsideUptoSaid : Prop := fnExactInsideUptoRow.holds Try.pinned (OpenSpec.upto fnExactInsideSpec)

/-- 'laws.FnFlags', WHERE WHAT IT READS IS OF BULK AT MOST 1048576: true; the input reads as it did. -/
def fnFlagsUptoRow : OpenClaim := { program := "ytflcaebmammlfaa", sum := "22d57fa1d88d4eeec7154dc2a1be5e5b9465d981f0581ac5be7709f824f2a1a4", func := "loop.example/g00769/laws.FnFlags", spec := "fnFlags", apart := false, narrowed := true }
def FnFlagsUptoSaid : Prop := fnFlagsUptoRow.holds Try.pinned (OpenSpec.upto fnFlagsSpec)

/-- 'laws.FnFlagText', WHERE WHAT IT READS IS OF BULK AT MOST 1048576: true; the input reads as it did. -/
def fnFlagTextUptoRow : OpenClaim := { program := "ytflcaebmammlfaa", sum := "22d57fa1d88d4eeec7154dc2a1be5e5b9465d981f0581ac5be7709f824f2a1a4", func := "loop.example/g00769/laws.FnFlagText", spec := "fnFlagText", apart := false, narrowed := true }
def FnFlagTextUptoSaid : Prop := fnFlagTextUptoRow.holds Try.pinned (OpenSpec.upto fnFlagTextSpec)

/-- 'laws.FnTimes', WHERE WHAT IT READS IS OF BULK AT MOST 1048576: true; the input reads as it did. -/
def fnTimesUptoRow : OpenClaim := { program := "ytflcaebmammlfaa", sum := "22d57fa1d88d4eeec7154dc2a1be5e5b9465d981f0581ac5be7709f824f2a1a4", func := "loop.example/g00769/laws.FnTimes", spec := "fnTimes", apart := false, narrowed := true }
def FnTimesUptoSaid : Prop := fnTimesUptoRow.holds Try.pinned (OpenSpec.upto fnTimesSpec)

/-- 'laws.FnExactNameOk', WHERE WHAT IT READS IS OF BULK AT MOST 1048576: true; the input reads as it did. -/
def fnExactNameOkUptoRow : OpenClaim := { program := "ytflcaebmammlfaa", sum := "22d57fa1d88d4eeec7154dc2a1be5e5b9465d981f0581ac5be7709f824f2a1a4", func := "loop.example/g00769/laws.FnExactNameOk", spec := "fnExactNameOk", unfollowed := true, recurses := true, apart := false, narrowed := true }
def FnExactNameOkUptoSaid : Prop := fnExactNameOkUptoRow.holds Try.pinned (OpenSpec.upto fnExactNameOkSpec)

/-- 'laws.FnExactFind', WHERE WHAT IT READS IS OF BULK AT MOST 1048576: true; the input reads as it did. -/
def fnExactFindUptoRow : OpenClaim := { program := "ytflcaebmammlfaa", sum := "22d57fa1d88d4eeec7154dc2a1be5e5b9465d981f0581ac5be7709f824f2a1a4", func := "loop.example/g00769/laws.FnExactFind", spec := "fnExactFind", unfollowed := true, recurses := true, apart := false, narrowed := true }
def FnExactFindUptoSaid : Prop := fnExactFindUptoRow.holds Try.pinned (OpenSpec.upto fnExactFindSpec)

/-- 'laws.FnExactNameLess', WHERE WHAT IT READS IS OF BULK AT MOST 1048576: true; the input reads as it did. -/
def fnExactNameLessUptoRow : OpenClaim := { program := "ytflcaebmammlfaa", sum := "22d57fa1d88d4eeec7154dc2a1be5e5b9465d981f0581ac5be7709f824f2a1a4", func := "loop.example/g00769/laws.FnExactNameLess", spec := "fnExactNameLess", apart := false, narrowed := true }
def FnExactNameLessUptoSaid : Prop := fnExactNameLessUptoRow.holds Try.pinned (OpenSpec.upto fnExactNameLessSpec)

/-- 'laws.FnExactNameFits', WHERE WHAT IT READS IS OF BULK AT MOST 1048576: true; the input reads as it did. -/
def fnExactNameFitsUptoRow : OpenClaim := { program := "ytflcaebmammlfaa", sum := "22d57fa1d88d4eeec7154dc2a1be5e5b9465d981f0581ac5be7709f824f2a1a4", func := "loop.example/g00769/laws.FnExactNameFits", spec := "fnExactNameFits", unfollowed := true, recurses := true, apart := false, narrowed := true }
def FnExactNameFitsUptoSaid : Prop := fnExactNameFitsUptoRow.holds Try.pinned (OpenSpec.upto fnExactNameFitsSpec)

/-- 'laws.FnExactRulesOk', WHERE WHAT IT READS IS OF BULK AT MOST 1048576: true; the input reads as it did. -/
def fnExactRulesOkUptoRow : OpenClaim := { program := "ytflcaebmammlfaa", sum := "22d57fa1d88d4eeec7154dc2a1be5e5b9465d981f0581ac5be7709f824f2a1a4", func := "loop.example/g00769/laws.FnExactRulesOk", spec := "fnExactRulesOk", unfollowed := true, recurses := true, apart := false, narrowed := true }
def FnExactRulesOkUptoSaid : Prop := fnExactRulesOkUptoRow.holds Try.pinned (OpenSpec.upto fnExactRulesOkSpec)

/-- 'laws.FnExactShowName', WHERE WHAT IT READS IS OF BULK AT MOST 1048576: true; the input reads as it did. -/
def fnExactShowNameUptoRow : OpenClaim := { program := "ytflcaebmammlfaa", sum := "22d57fa1d88d4eeec7154dc2a1be5e5b9465d981f0581ac5be7709f824f2a1a4", func := "loop.example/g00769/laws.FnExactShowName", spec := "fnExactShowName", unfollowed := true, recurses := true, apart := false, narrowed := true }
def FnExactShowNameUptoSaid : Prop := fnExactShowNameUptoRow.holds Try.pinned (OpenSpec.upto fnExactShowNameSpec)

/-- 'laws.FnExactShowRules', WHERE WHAT IT READS IS OF BULK AT MOST 1048576: true; the input reads as it did. -/
def fnExactShowRulesUptoRow : OpenClaim := { program := "ytflcaebmammlfaa", sum := "22d57fa1d88d4eeec7154dc2a1be5e5b9465d981f0581ac5be7709f824f2a1a4", func := "loop.example/g00769/laws.FnExactShowRules", spec := "fnExactShowRules", unfollowed := true, recurses := true, apart := false, narrowed := true }
def FnExactShowRulesUptoSaid : Prop := fnExactShowRulesUptoRow.holds Try.pinned (OpenSpec.upto fnExactShowRulesSpec)

/-- 'laws.FnExactChain', WHERE WHAT IT READS IS OF BULK AT MOST 1048576: true; the input reads as it did. -/
def fnExactChainUptoRow : OpenClaim := { program := "ytflcaebmammlfaa", sum := "22d57fa1d88d4eeec7154dc2a1be5e5b9465d981f0581ac5be7709f824f2a1a4", func := "loop.example/g00769/laws.FnExactChain", spec := "fnExactChain", unfollowed := true, recurses := true, apart := false, narrowed := true }
def FnExactChainUptoSaid : Prop := fnExactChainUptoRow.holds Try.pinned (OpenSpec.upto fnExactChainSpec)

/-- 'laws.FnExactShowTimes', WHERE WHAT IT READS IS OF BULK AT MOST 1048576: true; the input reads as it did. -/
def fnExactShowTimesUptoRow : OpenClaim := { program := "ytflcaebmammlfaa", sum := "22d57fa1d88d4eeec7154dc2a1be5e5b9465d981f0581ac5be7709f824f2a1a4", func := "loop.example/g00769/laws.FnExactShowTimes", spec := "fnExactShowTimes", recurses := true, apart := false, narrowed := true }
def FnExactShowTimesUptoSaid : Prop := fnExactShowTimesUptoRow.holds Try.pinned (OpenSpec.upto fnExactShowTimesSpec)

/-- 'laws.FnExactReadTlv', WHERE WHAT IT READS IS OF BULK AT MOST 1048576: true; the input reads as it did. -/
def fnExactReadTlvUptoRow : OpenClaim := { program := "ytflcaebmammlfaa", sum := "22d57fa1d88d4eeec7154dc2a1be5e5b9465d981f0581ac5be7709f824f2a1a4", func := "loop.example/g00769/laws.FnExactReadTlv", spec := "fnExactReadTlv", recurses := true, apart := false, narrowed := true }
def FnExactReadTlvUptoSaid : Prop := fnExactReadTlvUptoRow.holds Try.pinned (OpenSpec.upto fnExactReadTlvSpec)

/-- 'laws.FnExactAllows', WHERE WHAT IT READS IS OF BULK AT MOST 1048576: true; the input reads as it did. -/
def fnExactAllowsUptoRow : OpenClaim := { program := "ytflcaebmammlfaa", sum := "22d57fa1d88d4eeec7154dc2a1be5e5b9465d981f0581ac5be7709f824f2a1a4", func := "loop.example/g00769/laws.FnExactAllows", spec := "fnExactAllows", unfollowed := true, recurses := true, apart := false, narrowed := true }
def FnExactAllowsUptoSaid : Prop := fnExactAllowsUptoRow.holds Try.pinned (OpenSpec.upto fnExactAllowsSpec)

/-- 'laws.FnExactTlvOk', WHERE WHAT IT READS IS OF BULK AT MOST 1048576: true; the input reads as it did. -/
def fnExactTlvOkUptoRow : OpenClaim := { program := "ytflcaebmammlfaa", sum := "22d57fa1d88d4eeec7154dc2a1be5e5b9465d981f0581ac5be7709f824f2a1a4", func := "loop.example/g00769/laws.FnExactTlvOk", spec := "fnExactTlvOk", recurses := true, apart := false, narrowed := true }
def FnExactTlvOkUptoSaid : Prop := fnExactTlvOkUptoRow.holds Try.pinned (OpenSpec.upto fnExactTlvOkSpec)

end Rows
end Go.Proofs.Ytflcaebmammlfaa
