/-
  NARROWER THAN 'FOR EVERY INPUT', by the rows' own cells (each row's printed sentence says how): FnBurdens: laid · FnExactDecisionOrder: laid · FnDecisive: laid · FnProofRules: laid · FnExactWeightsOf: laid · FnExactFrameworkOf: laid · FnExactStatusOf: laid · FnExactNeededWeight: laid · FnExactAcceptedTheses: laid · FnExactApplicableRules: laid · FnExactDecisiveFacts: laid.
  DERIVED. THE GIVEN ROWS OF THIS SEAT. 11 by the template 'for every input the law returns true; each argument reads behind the call as it read before'; 0 by the template 'total and deterministic' (their statements: YtkgjplamdmakpaaGreatDoorTotals.lean).
  GIVEN WITH THE SEED: the statements are not yours to turn. If you find one false, say at which input.
  Laid BY PROGRAM, IN A SANDBOX (cutbox-rows.mjs): the forced cells as the released guide's own fill.sh prints them over the translation caf51d8d8c21f8ec… (all of the seat's roots in one cut). By AI agents, Wed Nov 11 2026. No macro, syntax, notation, axiom, sorry.
-/
import Derived.Test.YtkgjplamdmakpaaGreatDoorChecked
import GoSem.PinnedTables
import GoSem.Claim
import GoSem.ClaimJoined
import GoSem.ClaimMapViews
import Derived.JoinedTies
import Derived.KernelRfl
namespace Go.Proofs.YtkgjplamdmakpaaGreatDoor
/- THE CELL 'sum', in the pinned program and in every row, IS THE sha256 OF THE DUMP (.gsa) THAT YtkgjplamdmakpaaGreatDoorProg.lean LOADS. Nothing in Lean hashes anything: it is a label: what it is worth is what the hold of that sum in a sandbox is worth. -/
noncomputable def Tryz.pinned : Pinned := { name := "ytkgjplamdmakpaagreatdoor", sum := "caf51d8d8c21f8ecfb56a073809e089339f9c1d158e9c11ec8a41ef64ae7346c", checked := Tryz.checked }
namespace Rows
def none {H : Type} : Left H := { results := [], args := [] }

/- WHAT THE LISTED PACKAGE-LEVEL VARIABLES READ AS WHEN THE CALL BEGINS. Each datum BY PROGRAM (the guide's laid-datum.mjs) off the statement by which the dump's own 'gosem.cut.vars' lays the variable. In a bare row this is a premise. The card (YtkgjplamdmakpaaGreatDoorCards.lean) ties it to the program's text. -/
def laid_unicode_utf8_acceptRanges {H : Type} : DataW H := .agg [.agg [.lit (.int .u8 128), .lit (.int .u8 191)], .agg [.lit (.int .u8 160), .lit (.int .u8 191)], .agg [.lit (.int .u8 128), .lit (.int .u8 159)], .agg [.lit (.int .u8 144), .lit (.int .u8 191)], .agg [.lit (.int .u8 128), .lit (.int .u8 143)], .agg [.lit (.int .u8 0), .lit (.int .u8 0)], .agg [.lit (.int .u8 0), .lit (.int .u8 0)], .agg [.lit (.int .u8 0), .lit (.int .u8 0)], .agg [.lit (.int .u8 0), .lit (.int .u8 0)], .agg [.lit (.int .u8 0), .lit (.int .u8 0)], .agg [.lit (.int .u8 0), .lit (.int .u8 0)], .agg [.lit (.int .u8 0), .lit (.int .u8 0)], .agg [.lit (.int .u8 0), .lit (.int .u8 0)], .agg [.lit (.int .u8 0), .lit (.int .u8 0)], .agg [.lit (.int .u8 0), .lit (.int .u8 0)], .agg [.lit (.int .u8 0), .lit (.int .u8 0)]]
/-- One of Go's own tables, pinned by name: the form's constant. -/
def laid_unicode_utf8_first : DataW Unit := Go.Pinned.utf8First

/-- 'laws.FnBurdens': WHATEVER THE INPUT: true; the input reads as it did. -/
def fnBurdensSpec : ChangeSpec := { name := "fnBurdens", fn := fun _ => fun
  | [d] => { results := [.lit (.bool true)], args := [d] }
  | _ => none }
def fnBurdensRow : OpenClaim := { program := "ytkgjplamdmakpaagreatdoor", sum := "caf51d8d8c21f8ecfb56a073809e089339f9c1d158e9c11ec8a41ef64ae7346c", func := "loop.example/g00902/laws.FnBurdens", spec := "fnBurdens", inPlace := ["internal/bytealg.CountString", "internal/bytealg.IndexByteString", "internal/bytealg.IndexString"], unfollowed := true, recurses := true, named := ["unicode/utf8.first", "unicode/utf8.acceptRanges", "internal/bytealg.MaxLen"], apart := false, laid := [("unicode/utf8.acceptRanges", laid_unicode_utf8_acceptRanges), ("unicode/utf8.first", laid_unicode_utf8_first)] }
def FnBurdensSaid : Prop := fnBurdensRow.holds Tryz.pinned (OpenSpec.ofChange fnBurdensSpec)

/-- ITS FALSE NEIGHBOUR: 'it returns false'. Refute it at one input. -/
def fnBurdensWrong : ChangeSpec := { name := "fnBurdens", fn := fun _ => fun
  | [d] => { results := [.lit (.bool false)], args := [d] }
  | _ => none }
def FnBurdensWrongFalsely : Prop := fnBurdensRow.holds Tryz.pinned (OpenSpec.ofChange fnBurdensWrong)

/-- 'laws.FnExactDecisionOrder': WHATEVER THE INPUT: true; the input reads as it did. -/
def fnExactDecisionOrderSpec : ChangeSpec := { name := "fnExactDecisionOrder", fn := fun _ => fun
  | [d] => { results := [.lit (.bool true)], args := [d] }
  | _ => none }
def fnExactDecisionOrderRow : OpenClaim := { program := "ytkgjplamdmakpaagreatdoor", sum := "caf51d8d8c21f8ecfb56a073809e089339f9c1d158e9c11ec8a41ef64ae7346c", func := "loop.example/g00902/laws.FnExactDecisionOrder", spec := "fnExactDecisionOrder", inPlace := ["internal/bytealg.CountString", "internal/bytealg.IndexByteString", "internal/bytealg.IndexString"], unfollowed := true, recurses := true, named := ["unicode/utf8.first", "unicode/utf8.acceptRanges", "internal/bytealg.MaxLen"], apart := false, laid := [("unicode/utf8.acceptRanges", laid_unicode_utf8_acceptRanges), ("unicode/utf8.first", laid_unicode_utf8_first)] }
def FnExactDecisionOrderSaid : Prop := fnExactDecisionOrderRow.holds Tryz.pinned (OpenSpec.ofChange fnExactDecisionOrderSpec)

/-- ITS FALSE NEIGHBOUR: 'it returns false'. Refute it at one input. -/
def fnExactDecisionOrderWrong : ChangeSpec := { name := "fnExactDecisionOrder", fn := fun _ => fun
  | [d] => { results := [.lit (.bool false)], args := [d] }
  | _ => none }
def FnExactDecisionOrderWrongFalsely : Prop := fnExactDecisionOrderRow.holds Tryz.pinned (OpenSpec.ofChange fnExactDecisionOrderWrong)

/-- 'laws.FnDecisive': WHATEVER THE INPUT: true; the input reads as it did. -/
def fnDecisiveSpec : ChangeSpec := { name := "fnDecisive", fn := fun _ => fun
  | [d] => { results := [.lit (.bool true)], args := [d] }
  | _ => none }
def fnDecisiveRow : OpenClaim := { program := "ytkgjplamdmakpaagreatdoor", sum := "caf51d8d8c21f8ecfb56a073809e089339f9c1d158e9c11ec8a41ef64ae7346c", func := "loop.example/g00902/laws.FnDecisive", spec := "fnDecisive", inPlace := ["internal/bytealg.CountString", "internal/bytealg.IndexByteString", "internal/bytealg.IndexString"], unfollowed := true, recurses := true, named := ["unicode/utf8.first", "unicode/utf8.acceptRanges", "internal/bytealg.MaxLen"], apart := false, laid := [("unicode/utf8.acceptRanges", laid_unicode_utf8_acceptRanges), ("unicode/utf8.first", laid_unicode_utf8_first)] }
def FnDecisiveSaid : Prop := fnDecisiveRow.holds Tryz.pinned (OpenSpec.ofChange fnDecisiveSpec)

/-- ITS FALSE NEIGHBOUR: 'it returns false'. Refute it at one input. -/
def fnDecisiveWrong : ChangeSpec := { name := "fnDecisive", fn := fun _ => fun
  | [d] => { results := [.lit (.bool false)], args := [d] }
  | _ => none }
def FnDecisiveWrongFalsely : Prop := fnDecisiveRow.holds Tryz.pinned (OpenSpec.ofChange fnDecisiveWrong)

/-- 'laws.FnProofRules': WHATEVER THE INPUT: true; the input reads as it did. -/
def fnProofRulesSpec : ChangeSpec := { name := "fnProofRules", fn := fun _ => fun
  | [d] => { results := [.lit (.bool true)], args := [d] }
  | _ => none }
def fnProofRulesRow : OpenClaim := { program := "ytkgjplamdmakpaagreatdoor", sum := "caf51d8d8c21f8ecfb56a073809e089339f9c1d158e9c11ec8a41ef64ae7346c", func := "loop.example/g00902/laws.FnProofRules", spec := "fnProofRules", inPlace := ["internal/bytealg.CountString", "internal/bytealg.IndexByteString", "internal/bytealg.IndexString"], unfollowed := true, recurses := true, named := ["unicode/utf8.first", "unicode/utf8.acceptRanges", "internal/bytealg.MaxLen"], apart := false, laid := [("unicode/utf8.acceptRanges", laid_unicode_utf8_acceptRanges), ("unicode/utf8.first", laid_unicode_utf8_first)] }
def FnProofRulesSaid : Prop := fnProofRulesRow.holds Tryz.pinned (OpenSpec.ofChange fnProofRulesSpec)

/-- ITS FALSE NEIGHBOUR: 'it returns false'. Refute it at one input. -/
def fnProofRulesWrong : ChangeSpec := { name := "fnProofRules", fn := fun _ => fun
  | [d] => { results := [.lit (.bool false)], args := [d] }
  | _ => none }
def FnProofRulesWrongFalsely : Prop := fnProofRulesRow.holds Tryz.pinned (OpenSpec.ofChange fnProofRulesWrong)

/-- 'laws.FnExactWeightsOf': WHATEVER THE INPUT: true; the input reads as it did. -/
def fnExactWeightsOfSpec : ChangeSpec := { name := "fnExactWeightsOf", fn := fun _ => fun
  | [d1, d2] => { results := [.lit (.bool true)], args := [d1, d2] }
  | _ => none }
def fnExactWeightsOfRow : OpenClaim := { program := "ytkgjplamdmakpaagreatdoor", sum := "caf51d8d8c21f8ecfb56a073809e089339f9c1d158e9c11ec8a41ef64ae7346c", func := "loop.example/g00902/laws.FnExactWeightsOf", spec := "fnExactWeightsOf", inPlace := ["internal/bytealg.CountString", "internal/bytealg.IndexByteString", "internal/bytealg.IndexString"], unfollowed := true, recurses := true, named := ["unicode/utf8.first", "unicode/utf8.acceptRanges", "internal/bytealg.MaxLen"], apart := false, laid := [("unicode/utf8.acceptRanges", laid_unicode_utf8_acceptRanges), ("unicode/utf8.first", laid_unicode_utf8_first)] }
def FnExactWeightsOfSaid : Prop := fnExactWeightsOfRow.holds Tryz.pinned (OpenSpec.ofChange fnExactWeightsOfSpec)

/-- ITS FALSE NEIGHBOUR: 'it returns false'. Refute it at one input. -/
def fnExactWeightsOfWrong : ChangeSpec := { name := "fnExactWeightsOf", fn := fun _ => fun
  | [d1, d2] => { results := [.lit (.bool false)], args := [d1, d2] }
  | _ => none }
def FnExactWeightsOfWrongFalsely : Prop := fnExactWeightsOfRow.holds Tryz.pinned (OpenSpec.ofChange fnExactWeightsOfWrong)

/-- 'laws.FnExactFrameworkOf': WHATEVER THE INPUT: true; the input reads as it did. -/
def fnExactFrameworkOfSpec : ChangeSpec := { name := "fnExactFrameworkOf", fn := fun _ => fun
  | [d] => { results := [.lit (.bool true)], args := [d] }
  | _ => none }
def fnExactFrameworkOfRow : OpenClaim := { program := "ytkgjplamdmakpaagreatdoor", sum := "caf51d8d8c21f8ecfb56a073809e089339f9c1d158e9c11ec8a41ef64ae7346c", func := "loop.example/g00902/laws.FnExactFrameworkOf", spec := "fnExactFrameworkOf", inPlace := ["internal/bytealg.CountString", "internal/bytealg.IndexByteString", "internal/bytealg.IndexString"], unfollowed := true, recurses := true, named := ["unicode/utf8.first", "unicode/utf8.acceptRanges", "internal/bytealg.MaxLen"], apart := false, laid := [("unicode/utf8.acceptRanges", laid_unicode_utf8_acceptRanges), ("unicode/utf8.first", laid_unicode_utf8_first)] }
def FnExactFrameworkOfSaid : Prop := fnExactFrameworkOfRow.holds Tryz.pinned (OpenSpec.ofChange fnExactFrameworkOfSpec)

/-- ITS FALSE NEIGHBOUR: 'it returns false'. Refute it at one input. -/
def fnExactFrameworkOfWrong : ChangeSpec := { name := "fnExactFrameworkOf", fn := fun _ => fun
  | [d] => { results := [.lit (.bool false)], args := [d] }
  | _ => none }
def FnExactFrameworkOfWrongFalsely : Prop := fnExactFrameworkOfRow.holds Tryz.pinned (OpenSpec.ofChange fnExactFrameworkOfWrong)

/-- 'laws.FnExactStatusOf': WHATEVER THE INPUT: true; the input reads as it did. -/
def fnExactStatusOfSpec : ChangeSpec := { name := "fnExactStatusOf", fn := fun _ => fun
  | [d1, d2] => { results := [.lit (.bool true)], args := [d1, d2] }
  | _ => none }
def fnExactStatusOfRow : OpenClaim := { program := "ytkgjplamdmakpaagreatdoor", sum := "caf51d8d8c21f8ecfb56a073809e089339f9c1d158e9c11ec8a41ef64ae7346c", func := "loop.example/g00902/laws.FnExactStatusOf", spec := "fnExactStatusOf", inPlace := ["internal/bytealg.CountString", "internal/bytealg.IndexByteString", "internal/bytealg.IndexString"], unfollowed := true, recurses := true, named := ["unicode/utf8.first", "unicode/utf8.acceptRanges", "internal/bytealg.MaxLen"], apart := false, laid := [("unicode/utf8.acceptRanges", laid_unicode_utf8_acceptRanges), ("unicode/utf8.first", laid_unicode_utf8_first)] }
def FnExactStatusOfSaid : Prop := fnExactStatusOfRow.holds Tryz.pinned (OpenSpec.ofChange fnExactStatusOfSpec)

/-- ITS FALSE NEIGHBOUR: 'it returns false'. Refute it at one input. -/
def fnExactStatusOfWrong : ChangeSpec := { name := "fnExactStatusOf", fn := fun _ => fun
  | [d1, d2] => { results := [.lit (.bool false)], args := [d1, d2] }
  | _ => none }
def FnExactStatusOfWrongFalsely : Prop := fnExactStatusOfRow.holds Tryz.pinned (OpenSpec.ofChange fnExactStatusOfWrong)

/-- 'laws.FnExactNeededWeight': WHATEVER THE INPUT: true; the input reads as it did. -/
def fnExactNeededWeightSpec : ChangeSpec := { name := "fnExactNeededWeight", fn := fun _ => fun
  | [d1, d2] => { results := [.lit (.bool true)], args := [d1, d2] }
  | _ => none }
def fnExactNeededWeightRow : OpenClaim := { program := "ytkgjplamdmakpaagreatdoor", sum := "caf51d8d8c21f8ecfb56a073809e089339f9c1d158e9c11ec8a41ef64ae7346c", func := "loop.example/g00902/laws.FnExactNeededWeight", spec := "fnExactNeededWeight", inPlace := ["internal/bytealg.CountString", "internal/bytealg.IndexByteString", "internal/bytealg.IndexString"], unfollowed := true, recurses := true, named := ["unicode/utf8.first", "unicode/utf8.acceptRanges", "internal/bytealg.MaxLen"], apart := false, laid := [("unicode/utf8.acceptRanges", laid_unicode_utf8_acceptRanges), ("unicode/utf8.first", laid_unicode_utf8_first)] }
def FnExactNeededWeightSaid : Prop := fnExactNeededWeightRow.holds Tryz.pinned (OpenSpec.ofChange fnExactNeededWeightSpec)

/-- ITS FALSE NEIGHBOUR: 'it returns false'. Refute it at one input. -/
def fnExactNeededWeightWrong : ChangeSpec := { name := "fnExactNeededWeight", fn := fun _ => fun
  | [d1, d2] => { results := [.lit (.bool false)], args := [d1, d2] }
  | _ => none }
def FnExactNeededWeightWrongFalsely : Prop := fnExactNeededWeightRow.holds Tryz.pinned (OpenSpec.ofChange fnExactNeededWeightWrong)

/-- 'laws.FnExactAcceptedTheses': WHATEVER THE INPUT: true; the input reads as it did. -/
def fnExactAcceptedThesesSpec : ChangeSpec := { name := "fnExactAcceptedTheses", fn := fun _ => fun
  | [d] => { results := [.lit (.bool true)], args := [d] }
  | _ => none }
def fnExactAcceptedThesesRow : OpenClaim := { program := "ytkgjplamdmakpaagreatdoor", sum := "caf51d8d8c21f8ecfb56a073809e089339f9c1d158e9c11ec8a41ef64ae7346c", func := "loop.example/g00902/laws.FnExactAcceptedTheses", spec := "fnExactAcceptedTheses", inPlace := ["internal/bytealg.CountString", "internal/bytealg.IndexByteString", "internal/bytealg.IndexString"], unfollowed := true, recurses := true, named := ["unicode/utf8.first", "unicode/utf8.acceptRanges", "internal/bytealg.MaxLen"], apart := false, laid := [("unicode/utf8.acceptRanges", laid_unicode_utf8_acceptRanges), ("unicode/utf8.first", laid_unicode_utf8_first)] }
def FnExactAcceptedThesesSaid : Prop := fnExactAcceptedThesesRow.holds Tryz.pinned (OpenSpec.ofChange fnExactAcceptedThesesSpec)

/-- ITS FALSE NEIGHBOUR: 'it returns false'. Refute it at one input. -/
def fnExactAcceptedThesesWrong : ChangeSpec := { name := "fnExactAcceptedTheses", fn := fun _ => fun
  | [d] => { results := [.lit (.bool false)], args := [d] }
  | _ => none }
def FnExactAcceptedThesesWrongFalsely : Prop := fnExactAcceptedThesesRow.holds Tryz.pinned (OpenSpec.ofChange fnExactAcceptedThesesWrong)

/-- 'laws.FnExactApplicableRules': WHATEVER THE INPUT: true; the input reads as it did. -/
def fnExactApplicableRulesSpec : ChangeSpec := { name := "fnExactApplicableRules", fn := fun _ => fun
  | [d] => { results := [.lit (.bool true)], args := [d] }
  | _ => none }
def fnExactApplicableRulesRow : OpenClaim := { program := "ytkgjplamdmakpaagreatdoor", sum := "caf51d8d8c21f8ecfb56a073809e089339f9c1d158e9c11ec8a41ef64ae7346c", func := "loop.example/g00902/laws.FnExactApplicableRules", spec := "fnExactApplicableRules", inPlace := ["internal/bytealg.CountString", "internal/bytealg.IndexByteString", "internal/bytealg.IndexString"], unfollowed := true, recurses := true, named := ["unicode/utf8.first", "unicode/utf8.acceptRanges", "internal/bytealg.MaxLen"], apart := false, laid := [("unicode/utf8.acceptRanges", laid_unicode_utf8_acceptRanges), ("unicode/utf8.first", laid_unicode_utf8_first)] }
def FnExactApplicableRulesSaid : Prop := fnExactApplicableRulesRow.holds Tryz.pinned (OpenSpec.ofChange fnExactApplicableRulesSpec)

/-- ITS FALSE NEIGHBOUR: 'it returns false'. Refute it at one input. -/
def fnExactApplicableRulesWrong : ChangeSpec := { name := "fnExactApplicableRules", fn := fun _ => fun
  | [d] => { results := [.lit (.bool false)], args := [d] }
  | _ => none }
def FnExactApplicableRulesWrongFalsely : Prop := fnExactApplicableRulesRow.holds Tryz.pinned (OpenSpec.ofChange fnExactApplicableRulesWrong)

/-- 'laws.FnExactDecisiveFacts': WHATEVER THE INPUT: true; the input reads as it did. -/
def fnExactDecisiveFactsSpec : ChangeSpec := { name := "fnExactDecisiveFacts", fn := fun _ => fun
  | [d1, d2] => { results := [.lit (.bool true)], args := [d1, d2] }
  | _ => none }
def fnExactDecisiveFactsRow : OpenClaim := { program := "ytkgjplamdmakpaagreatdoor", sum := "caf51d8d8c21f8ecfb56a073809e089339f9c1d158e9c11ec8a41ef64ae7346c", func := "loop.example/g00902/laws.FnExactDecisiveFacts", spec := "fnExactDecisiveFacts", inPlace := ["internal/bytealg.CountString", "internal/bytealg.IndexByteString", "internal/bytealg.IndexString"], unfollowed := true, recurses := true, named := ["unicode/utf8.first", "unicode/utf8.acceptRanges", "internal/bytealg.MaxLen"], apart := false, laid := [("unicode/utf8.acceptRanges", laid_unicode_utf8_acceptRanges), ("unicode/utf8.first", laid_unicode_utf8_first)] }
def FnExactDecisiveFactsSaid : Prop := fnExactDecisiveFactsRow.holds Tryz.pinned (OpenSpec.ofChange fnExactDecisiveFactsSpec)

/-- ITS FALSE NEIGHBOUR: 'it returns false'. Refute it at one input. -/
def fnExactDecisiveFactsWrong : ChangeSpec := { name := "fnExactDecisiveFacts", fn := fun _ => fun
  | [d1, d2] => { results := [.lit (.bool false)], args := [d1, d2] }
  | _ => none }
def FnExactDecisiveFactsWrongFalsely : Prop := fnExactDecisiveFactsRow.holds Tryz.pinned (OpenSpec.ofChange fnExactDecisiveFactsWrong)

/- THE SECOND FORM. 'bulk': how many values and letters a reading holds, each counted each time it is reached (what is shared counts as often as it is met; a slice's spare places count too). A statement '..UptoSaid' is the law's where the arguments, and the package variables that the reading takes, are together of bulk at most 1048576: NARROWER than '..Said'. Prove '..Said' where nothing that the law and all that it calls make is longer than what came in: it says more and counts as full. Else prove '..UptoSaid'. A law counts once. -/
mutual
def uptoBulk {H : Type} : DataW H → Nat
  | .lit (.string bytes) => bytes.length + 1
  | .lit _ => 1
  | .nil => 1
  | .ptr d => uptoBulk d + 1
  | .slice elems spare => uptoBulkAll elems + uptoBulkAll spare + 1
  | .agg parts => uptoBulkAll parts + 1
  | .iface _ d => uptoBulk d + 1
  | .map entries => uptoBulkEntries entries + 1
  | .held _ => 1
def uptoBulkAll {H : Type} : List (DataW H) → Nat
  | [] => 0
  | d :: r => uptoBulk d + uptoBulkAll r
def uptoBulkEntries {H : Type} : List (Lit × DataW H) → Nat
  | [] => 0
  | x :: r => uptoBulkEntry x + uptoBulkEntries r
def uptoBulkEntry {H : Type} : Lit × DataW H → Nat
  | (.string bytes, d) => bytes.length + uptoBulk d + 1
  | (_, d) => uptoBulk d + 1
 end
def uptoSmall : (H : Type) → List (DataW H) → Bool := fun _ ds => decide (uptoBulkAll ds ≤ 1048576)
def OpenSpec.upto (s : _root_.Go.ChangeSpec) : _root_.Go.OpenSpec := { _root_.Go.OpenSpec.ofChange s with cond := some uptoSmall }

/-- 'laws.FnBurdens', WHERE WHAT IT READS IS OF BULK AT MOST 1048576: true; the input reads as it did. -/
def fnBurdensUptoRow : OpenClaim := { program := "ytkgjplamdmakpaagreatdoor", sum := "caf51d8d8c21f8ecfb56a073809e089339f9c1d158e9c11ec8a41ef64ae7346c", func := "loop.example/g00902/laws.FnBurdens", spec := "fnBurdens", inPlace := ["internal/bytealg.CountString", "internal/bytealg.IndexByteString", "internal/bytealg.IndexString"], unfollowed := true, recurses := true, named := ["unicode/utf8.first", "unicode/utf8.acceptRanges", "internal/bytealg.MaxLen"], apart := false, laid := [("unicode/utf8.acceptRanges", laid_unicode_utf8_acceptRanges), ("unicode/utf8.first", laid_unicode_utf8_first)], narrowed := true }
def FnBurdensUptoSaid : Prop := fnBurdensUptoRow.holds Tryz.pinned (OpenSpec.upto fnBurdensSpec)

/-- 'laws.FnExactDecisionOrder', WHERE WHAT IT READS IS OF BULK AT MOST 1048576: true; the input reads as it did. -/
def fnExactDecisionOrderUptoRow : OpenClaim := { program := "ytkgjplamdmakpaagreatdoor", sum := "caf51d8d8c21f8ecfb56a073809e089339f9c1d158e9c11ec8a41ef64ae7346c", func := "loop.example/g00902/laws.FnExactDecisionOrder", spec := "fnExactDecisionOrder", inPlace := ["internal/bytealg.CountString", "internal/bytealg.IndexByteString", "internal/bytealg.IndexString"], unfollowed := true, recurses := true, named := ["unicode/utf8.first", "unicode/utf8.acceptRanges", "internal/bytealg.MaxLen"], apart := false, laid := [("unicode/utf8.acceptRanges", laid_unicode_utf8_acceptRanges), ("unicode/utf8.first", laid_unicode_utf8_first)], narrowed := true }
def FnExactDecisionOrderUptoSaid : Prop := fnExactDecisionOrderUptoRow.holds Tryz.pinned (OpenSpec.upto fnExactDecisionOrderSpec)

/-- 'laws.FnDecisive', WHERE WHAT IT READS IS OF BULK AT MOST 1048576: true; the input reads as it did. -/
def fnDecisiveUptoRow : OpenClaim := { program := "ytkgjplamdmakpaagreatdoor", sum := "caf51d8d8c21f8ecfb56a073809e089339f9c1d158e9c11ec8a41ef64ae7346c", func := "loop.example/g00902/laws.FnDecisive", spec := "fnDecisive", inPlace := ["internal/bytealg.CountString", "internal/bytealg.IndexByteString", "internal/bytealg.IndexString"], unfollowed := true, recurses := true, named := ["unicode/utf8.first", "unicode/utf8.acceptRanges", "internal/bytealg.MaxLen"], apart := false, laid := [("unicode/utf8.acceptRanges", laid_unicode_utf8_acceptRanges), ("unicode/utf8.first", laid_unicode_utf8_first)], narrowed := true }
def FnDecisiveUptoSaid : Prop := fnDecisiveUptoRow.holds Tryz.pinned (OpenSpec.upto fnDecisiveSpec)

/-- 'laws.FnProofRules', WHERE WHAT IT READS IS OF BULK AT MOST 1048576: true; the input reads as it did. -/
def fnProofRulesUptoRow : OpenClaim := { program := "ytkgjplamdmakpaagreatdoor", sum := "caf51d8d8c21f8ecfb56a073809e089339f9c1d158e9c11ec8a41ef64ae7346c", func := "loop.example/g00902/laws.FnProofRules", spec := "fnProofRules", inPlace := ["internal/bytealg.CountString", "internal/bytealg.IndexByteString", "internal/bytealg.IndexString"], unfollowed := true, recurses := true, named := ["unicode/utf8.first", "unicode/utf8.acceptRanges", "internal/bytealg.MaxLen"], apart := false, laid := [("unicode/utf8.acceptRanges", laid_unicode_utf8_acceptRanges), ("unicode/utf8.first", laid_unicode_utf8_first)], narrowed := true }
def FnProofRulesUptoSaid : Prop := fnProofRulesUptoRow.holds Tryz.pinned (OpenSpec.upto fnProofRulesSpec)

/-- 'laws.FnExactWeightsOf', WHERE WHAT IT READS IS OF BULK AT MOST 1048576: true; the input reads as it did. -/
def fnExactWeightsOfUptoRow : OpenClaim := { program := "ytkgjplamdmakpaagreatdoor", sum := "caf51d8d8c21f8ecfb56a073809e089339f9c1d158e9c11ec8a41ef64ae7346c", func := "loop.example/g00902/laws.FnExactWeightsOf", spec := "fnExactWeightsOf", inPlace := ["internal/bytealg.CountString", "internal/bytealg.IndexByteString", "internal/bytealg.IndexString"], unfollowed := true, recurses := true, named := ["unicode/utf8.first", "unicode/utf8.acceptRanges", "internal/bytealg.MaxLen"], apart := false, laid := [("unicode/utf8.acceptRanges", laid_unicode_utf8_acceptRanges), ("unicode/utf8.first", laid_unicode_utf8_first)], narrowed := true }
def FnExactWeightsOfUptoSaid : Prop := fnExactWeightsOfUptoRow.holds Tryz.pinned (OpenSpec.upto fnExactWeightsOfSpec)

/-- 'laws.FnExactFrameworkOf', WHERE WHAT IT READS IS OF BULK AT MOST 1048576: true; the input reads as it did. -/
def fnExactFrameworkOfUptoRow : OpenClaim := { program := "ytkgjplamdmakpaagreatdoor", sum := "caf51d8d8c21f8ecfb56a073809e089339f9c1d158e9c11ec8a41ef64ae7346c", func := "loop.example/g00902/laws.FnExactFrameworkOf", spec := "fnExactFrameworkOf", inPlace := ["internal/bytealg.CountString", "internal/bytealg.IndexByteString", "internal/bytealg.IndexString"], unfollowed := true, recurses := true, named := ["unicode/utf8.first", "unicode/utf8.acceptRanges", "internal/bytealg.MaxLen"], apart := false, laid := [("unicode/utf8.acceptRanges", laid_unicode_utf8_acceptRanges), ("unicode/utf8.first", laid_unicode_utf8_first)], narrowed := true }
def FnExactFrameworkOfUptoSaid : Prop := fnExactFrameworkOfUptoRow.holds Tryz.pinned (OpenSpec.upto fnExactFrameworkOfSpec)

/-- 'laws.FnExactStatusOf', WHERE WHAT IT READS IS OF BULK AT MOST 1048576: true; the input reads as it did. -/
def fnExactStatusOfUptoRow : OpenClaim := { program := "ytkgjplamdmakpaagreatdoor", sum := "caf51d8d8c21f8ecfb56a073809e089339f9c1d158e9c11ec8a41ef64ae7346c", func := "loop.example/g00902/laws.FnExactStatusOf", spec := "fnExactStatusOf", inPlace := ["internal/bytealg.CountString", "internal/bytealg.IndexByteString", "internal/bytealg.IndexString"], unfollowed := true, recurses := true, named := ["unicode/utf8.first", "unicode/utf8.acceptRanges", "internal/bytealg.MaxLen"], apart := false, laid := [("unicode/utf8.acceptRanges", laid_unicode_utf8_acceptRanges), ("unicode/utf8.first", laid_unicode_utf8_first)], narrowed := true }
def FnExactStatusOfUptoSaid : Prop := fnExactStatusOfUptoRow.holds Tryz.pinned (OpenSpec.upto fnExactStatusOfSpec)

/-- 'laws.FnExactNeededWeight', WHERE WHAT IT READS IS OF BULK AT MOST 1048576: true; the input reads as it did. -/
def fnExactNeededWeightUptoRow : OpenClaim := { program := "ytkgjplamdmakpaagreatdoor", sum := "caf51d8d8c21f8ecfb56a073809e089339f9c1d158e9c11ec8a41ef64ae7346c", func := "loop.example/g00902/laws.FnExactNeededWeight", spec := "fnExactNeededWeight", inPlace := ["internal/bytealg.CountString", "internal/bytealg.IndexByteString", "internal/bytealg.IndexString"], unfollowed := true, recurses := true, named := ["unicode/utf8.first", "unicode/utf8.acceptRanges", "internal/bytealg.MaxLen"], apart := false, laid := [("unicode/utf8.acceptRanges", laid_unicode_utf8_acceptRanges), ("unicode/utf8.first", laid_unicode_utf8_first)], narrowed := true }
def FnExactNeededWeightUptoSaid : Prop := fnExactNeededWeightUptoRow.holds Tryz.pinned (OpenSpec.upto fnExactNeededWeightSpec)

/-- 'laws.FnExactAcceptedTheses', WHERE WHAT IT READS IS OF BULK AT MOST 1048576: true; the input reads as it did. -/
def fnExactAcceptedThesesUptoRow : OpenClaim := { program := "ytkgjplamdmakpaagreatdoor", sum := "caf51d8d8c21f8ecfb56a073809e089339f9c1d158e9c11ec8a41ef64ae7346c", func := "loop.example/g00902/laws.FnExactAcceptedTheses", spec := "fnExactAcceptedTheses", inPlace := ["internal/bytealg.CountString", "internal/bytealg.IndexByteString", "internal/bytealg.IndexString"], unfollowed := true, recurses := true, named := ["unicode/utf8.first", "unicode/utf8.acceptRanges", "internal/bytealg.MaxLen"], apart := false, laid := [("unicode/utf8.acceptRanges", laid_unicode_utf8_acceptRanges), ("unicode/utf8.first", laid_unicode_utf8_first)], narrowed := true }
def FnExactAcceptedThesesUptoSaid : Prop := fnExactAcceptedThesesUptoRow.holds Tryz.pinned (OpenSpec.upto fnExactAcceptedThesesSpec)

/-- 'laws.FnExactApplicableRules', WHERE WHAT IT READS IS OF BULK AT MOST 1048576: true; the input reads as it did. -/
def fnExactApplicableRulesUptoRow : OpenClaim := { program := "ytkgjplamdmakpaagreatdoor", sum := "caf51d8d8c21f8ecfb56a073809e089339f9c1d158e9c11ec8a41ef64ae7346c", func := "loop.example/g00902/laws.FnExactApplicableRules", spec := "fnExactApplicableRules", inPlace := ["internal/bytealg.CountString", "internal/bytealg.IndexByteString", "internal/bytealg.IndexString"], unfollowed := true, recurses := true, named := ["unicode/utf8.first", "unicode/utf8.acceptRanges", "internal/bytealg.MaxLen"], apart := false, laid := [("unicode/utf8.acceptRanges", laid_unicode_utf8_acceptRanges), ("unicode/utf8.first", laid_unicode_utf8_first)], narrowed := true }
def FnExactApplicableRulesUptoSaid : Prop := fnExactApplicableRulesUptoRow.holds Tryz.pinned (OpenSpec.upto fnExactApplicableRulesSpec)

/-- 'laws.FnExactDecisiveFacts', WHERE WHAT IT READS IS OF BULK AT MOST 1048576: true; the input reads as it did. -/
def fnExactDecisiveFactsUptoRow : OpenClaim := { program := "ytkgjplamdmakpaagreatdoor", sum := "caf51d8d8c21f8ecfb56a073809e089339f9c1d158e9c11ec8a41ef64ae7346c", func := "loop.example/g00902/laws.FnExactDecisiveFacts", spec := "fnExactDecisiveFacts", inPlace := ["internal/bytealg.CountString", "internal/bytealg.IndexByteString", "internal/bytealg.IndexString"], unfollowed := true, recurses := true, named := ["unicode/utf8.first", "unicode/utf8.acceptRanges", "internal/bytealg.MaxLen"], apart := false, laid := [("unicode/utf8.acceptRanges", laid_unicode_utf8_acceptRanges), ("unicode/utf8.first", laid_unicode_utf8_first)], narrowed := true }
def FnExactDecisiveFactsUptoSaid : Prop := fnExactDecisiveFactsUptoRow.holds Tryz.pinned (OpenSpec.upto fnExactDecisiveFactsSpec)

end Rows
end Go.Proofs.YtkgjplamdmakpaaGreatDoor
