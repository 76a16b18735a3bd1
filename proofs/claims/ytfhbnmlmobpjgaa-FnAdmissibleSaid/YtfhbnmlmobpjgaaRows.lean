/-
  No cell of these rows narrows 'for every input' (looked for: loops, veiled, ifaces, maps, wideKeys, modest, calm, conditions, laid).
  DERIVED. THE GIVEN ROWS OF THIS SEAT. 14 by the template 'for every input the law returns true; each argument reads behind the call as it read before'; 0 by the template 'total and deterministic' (their statements: YtfhbnmlmobpjgaaTotals.lean).
  GIVEN WITH THE SEED: the statements are not yours to turn. If you find one false, say at which input.
  Laid BY PROGRAM, IN A SANDBOX (cutbox-rows.mjs): the forced cells as the released guide's own fill.sh prints them over the translation 87980b392074e693… (all of the seat's roots in one cut). By AI agents, Wed Nov 11 2026. No macro, syntax, notation, axiom, sorry.
-/
import Derived.Test.YtfhbnmlmobpjgaaChecked
import GoSem.Claim
import GoSem.ClaimJoined
import GoSem.ClaimMapViews
import Derived.JoinedTies
import Derived.KernelRfl
namespace Go.Proofs.Ytfhbnmlmobpjgaa
/- THE CELL 'sum', in the pinned program and in every row, IS THE sha256 OF THE DUMP (.gsa) THAT YtfhbnmlmobpjgaaProg.lean LOADS. Nothing in Lean hashes anything: it is a label: what it is worth is what the hold of that sum in a sandbox is worth. -/
noncomputable def Try.pinned : Pinned := { name := "ytfhbnmlmobpjgaa", sum := "87980b392074e693a969021c1c05f8ff934c5a98877f483e37b50a59c481c27c", checked := Try.checked }
namespace Rows
def none {H : Type} : Left H := { results := [], args := [] }

/-- 'laws.FnExactIsValidFramework': WHATEVER THE INPUT: true; the input reads as it did. -/
def fnExactIsValidFrameworkSpec : ChangeSpec := { name := "fnExactIsValidFramework", fn := fun _ => fun
  | [d] => { results := [.lit (.bool true)], args := [d] }
  | _ => none }
def fnExactIsValidFrameworkRow : OpenClaim := { program := "ytfhbnmlmobpjgaa", sum := "87980b392074e693a969021c1c05f8ff934c5a98877f483e37b50a59c481c27c", func := "loop.example/g00902/laws.FnExactIsValidFramework", spec := "fnExactIsValidFramework", apart := false }
def FnExactIsValidFrameworkSaid : Prop := fnExactIsValidFrameworkRow.holds Try.pinned (OpenSpec.ofChange fnExactIsValidFrameworkSpec)

/-- ITS FALSE NEIGHBOUR: 'it returns false'. Refute it at one input. -/
def fnExactIsValidFrameworkWrong : ChangeSpec := { name := "fnExactIsValidFramework", fn := fun _ => fun
  | [d] => { results := [.lit (.bool false)], args := [d] }
  | _ => none }
def FnExactIsValidFrameworkWrongFalsely : Prop := fnExactIsValidFrameworkRow.holds Try.pinned (OpenSpec.ofChange fnExactIsValidFrameworkWrong)

/-- 'laws.FnExactIsConflictFree': WHATEVER THE INPUT: true; the input reads as it did. -/
def fnExactIsConflictFreeSpec : ChangeSpec := { name := "fnExactIsConflictFree", fn := fun _ => fun
  | [d1, d2] => { results := [.lit (.bool true)], args := [d1, d2] }
  | _ => none }
def fnExactIsConflictFreeRow : OpenClaim := { program := "ytfhbnmlmobpjgaa", sum := "87980b392074e693a969021c1c05f8ff934c5a98877f483e37b50a59c481c27c", func := "loop.example/g00902/laws.FnExactIsConflictFree", spec := "fnExactIsConflictFree", apart := false }
def FnExactIsConflictFreeSaid : Prop := fnExactIsConflictFreeRow.holds Try.pinned (OpenSpec.ofChange fnExactIsConflictFreeSpec)

/-- ITS FALSE NEIGHBOUR: 'it returns false'. Refute it at one input. -/
def fnExactIsConflictFreeWrong : ChangeSpec := { name := "fnExactIsConflictFree", fn := fun _ => fun
  | [d1, d2] => { results := [.lit (.bool false)], args := [d1, d2] }
  | _ => none }
def FnExactIsConflictFreeWrongFalsely : Prop := fnExactIsConflictFreeRow.holds Try.pinned (OpenSpec.ofChange fnExactIsConflictFreeWrong)

/-- 'laws.FnExactDefends': WHATEVER THE INPUT: true; the input reads as it did. -/
def fnExactDefendsSpec : ChangeSpec := { name := "fnExactDefends", fn := fun _ => fun
  | [d1, d2, d3] => { results := [.lit (.bool true)], args := [d1, d2, d3] }
  | _ => none }
def fnExactDefendsRow : OpenClaim := { program := "ytfhbnmlmobpjgaa", sum := "87980b392074e693a969021c1c05f8ff934c5a98877f483e37b50a59c481c27c", func := "loop.example/g00902/laws.FnExactDefends", spec := "fnExactDefends", apart := false }
def FnExactDefendsSaid : Prop := fnExactDefendsRow.holds Try.pinned (OpenSpec.ofChange fnExactDefendsSpec)

/-- ITS FALSE NEIGHBOUR: 'it returns false'. Refute it at one input. -/
def fnExactDefendsWrong : ChangeSpec := { name := "fnExactDefends", fn := fun _ => fun
  | [d1, d2, d3] => { results := [.lit (.bool false)], args := [d1, d2, d3] }
  | _ => none }
def FnExactDefendsWrongFalsely : Prop := fnExactDefendsRow.holds Try.pinned (OpenSpec.ofChange fnExactDefendsWrong)

/-- 'laws.FnExactIsAdmissible': WHATEVER THE INPUT: true; the input reads as it did. -/
def fnExactIsAdmissibleSpec : ChangeSpec := { name := "fnExactIsAdmissible", fn := fun _ => fun
  | [d1, d2] => { results := [.lit (.bool true)], args := [d1, d2] }
  | _ => none }
def fnExactIsAdmissibleRow : OpenClaim := { program := "ytfhbnmlmobpjgaa", sum := "87980b392074e693a969021c1c05f8ff934c5a98877f483e37b50a59c481c27c", func := "loop.example/g00902/laws.FnExactIsAdmissible", spec := "fnExactIsAdmissible", apart := false }
def FnExactIsAdmissibleSaid : Prop := fnExactIsAdmissibleRow.holds Try.pinned (OpenSpec.ofChange fnExactIsAdmissibleSpec)

/-- ITS FALSE NEIGHBOUR: 'it returns false'. Refute it at one input. -/
def fnExactIsAdmissibleWrong : ChangeSpec := { name := "fnExactIsAdmissible", fn := fun _ => fun
  | [d1, d2] => { results := [.lit (.bool false)], args := [d1, d2] }
  | _ => none }
def FnExactIsAdmissibleWrongFalsely : Prop := fnExactIsAdmissibleRow.holds Try.pinned (OpenSpec.ofChange fnExactIsAdmissibleWrong)

/-- 'laws.FnExactStableSets': WHATEVER THE INPUT: true; the input reads as it did. -/
def fnExactStableSetsSpec : ChangeSpec := { name := "fnExactStableSets", fn := fun _ => fun
  | [d] => { results := [.lit (.bool true)], args := [d] }
  | _ => none }
def fnExactStableSetsRow : OpenClaim := { program := "ytfhbnmlmobpjgaa", sum := "87980b392074e693a969021c1c05f8ff934c5a98877f483e37b50a59c481c27c", func := "loop.example/g00902/laws.FnExactStableSets", spec := "fnExactStableSets", unfollowed := true, recurses := true, apart := false }
def FnExactStableSetsSaid : Prop := fnExactStableSetsRow.holds Try.pinned (OpenSpec.ofChange fnExactStableSetsSpec)

/-- ITS FALSE NEIGHBOUR: 'it returns false'. Refute it at one input. -/
def fnExactStableSetsWrong : ChangeSpec := { name := "fnExactStableSets", fn := fun _ => fun
  | [d] => { results := [.lit (.bool false)], args := [d] }
  | _ => none }
def FnExactStableSetsWrongFalsely : Prop := fnExactStableSetsRow.holds Try.pinned (OpenSpec.ofChange fnExactStableSetsWrong)

/-- 'laws.FnExactLabelArguments': WHATEVER THE INPUT: true; the input reads as it did. -/
def fnExactLabelArgumentsSpec : ChangeSpec := { name := "fnExactLabelArguments", fn := fun _ => fun
  | [d1, d2] => { results := [.lit (.bool true)], args := [d1, d2] }
  | _ => none }
def fnExactLabelArgumentsRow : OpenClaim := { program := "ytfhbnmlmobpjgaa", sum := "87980b392074e693a969021c1c05f8ff934c5a98877f483e37b50a59c481c27c", func := "loop.example/g00902/laws.FnExactLabelArguments", spec := "fnExactLabelArguments", apart := false }
def FnExactLabelArgumentsSaid : Prop := fnExactLabelArgumentsRow.holds Try.pinned (OpenSpec.ofChange fnExactLabelArgumentsSpec)

/-- ITS FALSE NEIGHBOUR: 'it returns false'. Refute it at one input. -/
def fnExactLabelArgumentsWrong : ChangeSpec := { name := "fnExactLabelArguments", fn := fun _ => fun
  | [d1, d2] => { results := [.lit (.bool false)], args := [d1, d2] }
  | _ => none }
def FnExactLabelArgumentsWrongFalsely : Prop := fnExactLabelArgumentsRow.holds Try.pinned (OpenSpec.ofChange fnExactLabelArgumentsWrong)

/-- 'laws.FnExactGroundedSet': WHATEVER THE INPUT: true; the input reads as it did. -/
def fnExactGroundedSetSpec : ChangeSpec := { name := "fnExactGroundedSet", fn := fun _ => fun
  | [d] => { results := [.lit (.bool true)], args := [d] }
  | _ => none }
def fnExactGroundedSetRow : OpenClaim := { program := "ytfhbnmlmobpjgaa", sum := "87980b392074e693a969021c1c05f8ff934c5a98877f483e37b50a59c481c27c", func := "loop.example/g00902/laws.FnExactGroundedSet", spec := "fnExactGroundedSet", apart := false }
def FnExactGroundedSetSaid : Prop := fnExactGroundedSetRow.holds Try.pinned (OpenSpec.ofChange fnExactGroundedSetSpec)

/-- ITS FALSE NEIGHBOUR: 'it returns false'. Refute it at one input. -/
def fnExactGroundedSetWrong : ChangeSpec := { name := "fnExactGroundedSet", fn := fun _ => fun
  | [d] => { results := [.lit (.bool false)], args := [d] }
  | _ => none }
def FnExactGroundedSetWrongFalsely : Prop := fnExactGroundedSetRow.holds Try.pinned (OpenSpec.ofChange fnExactGroundedSetWrong)

/-- 'laws.FnExactArgumentStatus': WHATEVER THE INPUT: true; the input reads as it did. -/
def fnExactArgumentStatusSpec : ChangeSpec := { name := "fnExactArgumentStatus", fn := fun _ => fun
  | [d1, d2] => { results := [.lit (.bool true)], args := [d1, d2] }
  | _ => none }
def fnExactArgumentStatusRow : OpenClaim := { program := "ytfhbnmlmobpjgaa", sum := "87980b392074e693a969021c1c05f8ff934c5a98877f483e37b50a59c481c27c", func := "loop.example/g00902/laws.FnExactArgumentStatus", spec := "fnExactArgumentStatus", unfollowed := true, recurses := true, apart := false }
def FnExactArgumentStatusSaid : Prop := fnExactArgumentStatusRow.holds Try.pinned (OpenSpec.ofChange fnExactArgumentStatusSpec)

/-- ITS FALSE NEIGHBOUR: 'it returns false'. Refute it at one input. -/
def fnExactArgumentStatusWrong : ChangeSpec := { name := "fnExactArgumentStatus", fn := fun _ => fun
  | [d1, d2] => { results := [.lit (.bool false)], args := [d1, d2] }
  | _ => none }
def FnExactArgumentStatusWrongFalsely : Prop := fnExactArgumentStatusRow.holds Try.pinned (OpenSpec.ofChange fnExactArgumentStatusWrong)

/-- 'laws.FnExactCompleteSets': WHATEVER THE INPUT: true; the input reads as it did. -/
def fnExactCompleteSetsSpec : ChangeSpec := { name := "fnExactCompleteSets", fn := fun _ => fun
  | [d] => { results := [.lit (.bool true)], args := [d] }
  | _ => none }
def fnExactCompleteSetsRow : OpenClaim := { program := "ytfhbnmlmobpjgaa", sum := "87980b392074e693a969021c1c05f8ff934c5a98877f483e37b50a59c481c27c", func := "loop.example/g00902/laws.FnExactCompleteSets", spec := "fnExactCompleteSets", unfollowed := true, recurses := true, apart := false }
def FnExactCompleteSetsSaid : Prop := fnExactCompleteSetsRow.holds Try.pinned (OpenSpec.ofChange fnExactCompleteSetsSpec)

/-- ITS FALSE NEIGHBOUR: 'it returns false'. Refute it at one input. -/
def fnExactCompleteSetsWrong : ChangeSpec := { name := "fnExactCompleteSets", fn := fun _ => fun
  | [d] => { results := [.lit (.bool false)], args := [d] }
  | _ => none }
def FnExactCompleteSetsWrongFalsely : Prop := fnExactCompleteSetsRow.holds Try.pinned (OpenSpec.ofChange fnExactCompleteSetsWrong)

/-- 'laws.FnExtensions': WHATEVER THE INPUT: true; the input reads as it did. -/
def fnExtensionsSpec : ChangeSpec := { name := "fnExtensions", fn := fun _ => fun
  | [d] => { results := [.lit (.bool true)], args := [d] }
  | _ => none }
def fnExtensionsRow : OpenClaim := { program := "ytfhbnmlmobpjgaa", sum := "87980b392074e693a969021c1c05f8ff934c5a98877f483e37b50a59c481c27c", func := "loop.example/g00902/laws.FnExtensions", spec := "fnExtensions", unfollowed := true, recurses := true, apart := false }
def FnExtensionsSaid : Prop := fnExtensionsRow.holds Try.pinned (OpenSpec.ofChange fnExtensionsSpec)

/-- ITS FALSE NEIGHBOUR: 'it returns false'. Refute it at one input. -/
def fnExtensionsWrong : ChangeSpec := { name := "fnExtensions", fn := fun _ => fun
  | [d] => { results := [.lit (.bool false)], args := [d] }
  | _ => none }
def FnExtensionsWrongFalsely : Prop := fnExtensionsRow.holds Try.pinned (OpenSpec.ofChange fnExtensionsWrong)

/-- 'laws.FnExactAddAttack': WHATEVER THE INPUT: true; the input reads as it did. -/
def fnExactAddAttackSpec : ChangeSpec := { name := "fnExactAddAttack", fn := fun _ => fun
  | [d1, d2, d3] => { results := [.lit (.bool true)], args := [d1, d2, d3] }
  | _ => none }
def fnExactAddAttackRow : OpenClaim := { program := "ytfhbnmlmobpjgaa", sum := "87980b392074e693a969021c1c05f8ff934c5a98877f483e37b50a59c481c27c", func := "loop.example/g00902/laws.FnExactAddAttack", spec := "fnExactAddAttack", inPlace := ["slices.overlaps[loop.example/g00902/impl.Attack]"], apart := false }
def FnExactAddAttackSaid : Prop := fnExactAddAttackRow.holds Try.pinned (OpenSpec.ofChange fnExactAddAttackSpec)

/-- ITS FALSE NEIGHBOUR: 'it returns false'. Refute it at one input. -/
def fnExactAddAttackWrong : ChangeSpec := { name := "fnExactAddAttack", fn := fun _ => fun
  | [d1, d2, d3] => { results := [.lit (.bool false)], args := [d1, d2, d3] }
  | _ => none }
def FnExactAddAttackWrongFalsely : Prop := fnExactAddAttackRow.holds Try.pinned (OpenSpec.ofChange fnExactAddAttackWrong)

/-- 'laws.FnExactPreferredSets': WHATEVER THE INPUT: true; the input reads as it did. -/
def fnExactPreferredSetsSpec : ChangeSpec := { name := "fnExactPreferredSets", fn := fun _ => fun
  | [d] => { results := [.lit (.bool true)], args := [d] }
  | _ => none }
def fnExactPreferredSetsRow : OpenClaim := { program := "ytfhbnmlmobpjgaa", sum := "87980b392074e693a969021c1c05f8ff934c5a98877f483e37b50a59c481c27c", func := "loop.example/g00902/laws.FnExactPreferredSets", spec := "fnExactPreferredSets", unfollowed := true, recurses := true, apart := false }
def FnExactPreferredSetsSaid : Prop := fnExactPreferredSetsRow.holds Try.pinned (OpenSpec.ofChange fnExactPreferredSetsSpec)

/-- ITS FALSE NEIGHBOUR: 'it returns false'. Refute it at one input. -/
def fnExactPreferredSetsWrong : ChangeSpec := { name := "fnExactPreferredSets", fn := fun _ => fun
  | [d] => { results := [.lit (.bool false)], args := [d] }
  | _ => none }
def FnExactPreferredSetsWrongFalsely : Prop := fnExactPreferredSetsRow.holds Try.pinned (OpenSpec.ofChange fnExactPreferredSetsWrong)

/-- 'laws.FnAdmissible': WHATEVER THE INPUT: true; the input reads as it did. -/
def fnAdmissibleSpec : ChangeSpec := { name := "fnAdmissible", fn := fun _ => fun
  | [d] => { results := [.lit (.bool true)], args := [d] }
  | _ => none }
def fnAdmissibleRow : OpenClaim := { program := "ytfhbnmlmobpjgaa", sum := "87980b392074e693a969021c1c05f8ff934c5a98877f483e37b50a59c481c27c", func := "loop.example/g00902/laws.FnAdmissible", spec := "fnAdmissible", apart := false }
def FnAdmissibleSaid : Prop := fnAdmissibleRow.holds Try.pinned (OpenSpec.ofChange fnAdmissibleSpec)

/-- ITS FALSE NEIGHBOUR: 'it returns false'. Refute it at one input. -/
def fnAdmissibleWrong : ChangeSpec := { name := "fnAdmissible", fn := fun _ => fun
  | [d] => { results := [.lit (.bool false)], args := [d] }
  | _ => none }
def FnAdmissibleWrongFalsely : Prop := fnAdmissibleRow.holds Try.pinned (OpenSpec.ofChange fnAdmissibleWrong)

/-- 'laws.FnArguments': WHATEVER THE INPUT: true; the input reads as it did. -/
def fnArgumentsSpec : ChangeSpec := { name := "fnArguments", fn := fun _ => fun
  | [d] => { results := [.lit (.bool true)], args := [d] }
  | _ => none }
def fnArgumentsRow : OpenClaim := { program := "ytfhbnmlmobpjgaa", sum := "87980b392074e693a969021c1c05f8ff934c5a98877f483e37b50a59c481c27c", func := "loop.example/g00902/laws.FnArguments", spec := "fnArguments", inPlace := ["slices.overlaps[loop.example/g00902/impl.Attack]"], unfollowed := true, recurses := true, apart := false }
def FnArgumentsSaid : Prop := fnArgumentsRow.holds Try.pinned (OpenSpec.ofChange fnArgumentsSpec)

/-- ITS FALSE NEIGHBOUR: 'it returns false'. Refute it at one input. -/
def fnArgumentsWrong : ChangeSpec := { name := "fnArguments", fn := fun _ => fun
  | [d] => { results := [.lit (.bool false)], args := [d] }
  | _ => none }
def FnArgumentsWrongFalsely : Prop := fnArgumentsRow.holds Try.pinned (OpenSpec.ofChange fnArgumentsWrong)

/- THE SECOND FORM. 'bulk': how many values and letters a reading holds, each counted each time it is reached (what is shared counts as often as it is met; a slice's spare places count too). A statement '..UptoSaid' is the law's where the arguments, and the package variables that the reading takes, are together of bulk at most 1048576: NARROWER than '..Said'. Prove '..Said' where nothing that the law and all that it calls make is longer than what came in: it says more and counts as full. Else prove '..UptoSaid'. A law counts once. -/
mutual
def uptoBulk {H : Type} : DataW H → Nat
  | .lit (.string bytes) => bytes.length + 1
  | .lit _ => 1
  | .nil => 1
  | .ptr d => uptoBulk d + 1
  | .slice elems spare => uptoBulkAll elems + uptoBulkAll spare + 1
  | .agg parts => uptoBulkAll parts + 1
  | .iface _ d => uptoBulk d + 1
  | .map entries => uptoBulkEntries entries + 1
  | .held _ => 1
def uptoBulkAll {H : Type} : List (DataW H) → Nat
  | [] => 0
  | d :: r => uptoBulk d + uptoBulkAll r
def uptoBulkEntries {H : Type} : List (Lit × DataW H) → Nat
  | [] => 0
  | x :: r => uptoBulkEntry x + uptoBulkEntries r
def uptoBulkEntry {H : Type} : Lit × DataW H → Nat
  | (.string bytes, d) => bytes.length + uptoBulk d + 1
  | (_, d) => uptoBulk d + 1
 end
def uptoSmall : (H : Type) → List (DataW H) → Bool := fun _ ds => decide (uptoBulkAll ds ≤ 1048576)
def OpenSpec.upto (s : _root_.Go.ChangeSpec) : _root_.Go.OpenSpec := { _root_.Go.OpenSpec.ofChange s with cond := some uptoSmall }

/-- 'laws.FnExactIsValidFramework', WHERE WHAT IT READS IS OF BULK AT MOST 1048576: true; the input reads as it did. -/
def fnExactIsValidFrameworkUptoRow : OpenClaim := { program := "ytfhbnmlmobpjgaa", sum := "87980b392074e693a969021c1c05f8ff934c5a98877f483e37b50a59c481c27c", func := "loop.example/g00902/laws.FnExactIsValidFramework", spec := "fnExactIsValidFramework", apart := false, narrowed := true }
def FnExactIsValidFrameworkUptoSaid : Prop := fnExactIsValidFrameworkUptoRow.holds Try.pinned (OpenSpec.upto fnExactIsValidFrameworkSpec)

/-- 'laws.FnExactIsConflictFree', WHERE WHAT IT READS IS OF BULK AT MOST 1048576: true; the input reads as it did. -/
def fnExactIsConflictFreeUptoRow : OpenClaim := { program := "ytfhbnmlmobpjgaa", sum := "87980b392074e693a969021c1c05f8ff934c5a98877f483e37b50a59c481c27c", func := "loop.example/g00902/laws.FnExactIsConflictFree", spec := "fnExactIsConflictFree", apart := false, narrowed := true }
def FnExactIsConflictFreeUptoSaid : Prop := fnExactIsConflictFreeUptoRow.holds Try.pinned (OpenSpec.upto fnExactIsConflictFreeSpec)

/-- 'laws.FnExactDefends', WHERE WHAT IT READS IS OF BULK AT MOST 1048576: true; the input reads as it did. -/
def fnExactDefendsUptoRow : OpenClaim := { program := "ytfhbnmlmobpjgaa", sum := "87980b392074e693a969021c1c05f8ff934c5a98877f483e37b50a59c481c27c", func := "loop.example/g00902/laws.FnExactDefends", spec := "fnExactDefends", apart := false, narrowed := true }
def FnExactDefendsUptoSaid : Prop := fnExactDefendsUptoRow.holds Try.pinned (OpenSpec.upto fnExactDefendsSpec)

/-- 'laws.FnExactIsAdmissible', WHERE WHAT IT READS IS OF BULK AT MOST 1048576: true; the input reads as it did. -/
def fnExactIsAdmissibleUptoRow : OpenClaim := { program := "ytfhbnmlmobpjgaa", sum := "87980b392074e693a969021c1c05f8ff934c5a98877f483e37b50a59c481c27c", func := "loop.example/g00902/laws.FnExactIsAdmissible", spec := "fnExactIsAdmissible", apart := false, narrowed := true }
def FnExactIsAdmissibleUptoSaid : Prop := fnExactIsAdmissibleUptoRow.holds Try.pinned (OpenSpec.upto fnExactIsAdmissibleSpec)

/-- 'laws.FnExactStableSets', WHERE WHAT IT READS IS OF BULK AT MOST 1048576: true; the input reads as it did. -/
def fnExactStableSetsUptoRow : OpenClaim := { program := "ytfhbnmlmobpjgaa", sum := "87980b392074e693a969021c1c05f8ff934c5a98877f483e37b50a59c481c27c", func := "loop.example/g00902/laws.FnExactStableSets", spec := "fnExactStableSets", unfollowed := true, recurses := true, apart := false, narrowed := true }
def FnExactStableSetsUptoSaid : Prop := fnExactStableSetsUptoRow.holds Try.pinned (OpenSpec.upto fnExactStableSetsSpec)

/-- 'laws.FnExactLabelArguments', WHERE WHAT IT READS IS OF BULK AT MOST 1048576: true; the input reads as it did. -/
def fnExactLabelArgumentsUptoRow : OpenClaim := { program := "ytfhbnmlmobpjgaa", sum := "87980b392074e693a969021c1c05f8ff934c5a98877f483e37b50a59c481c27c", func := "loop.example/g00902/laws.FnExactLabelArguments", spec := "fnExactLabelArguments", apart := false, narrowed := true }
def FnExactLabelArgumentsUptoSaid : Prop := fnExactLabelArgumentsUptoRow.holds Try.pinned (OpenSpec.upto fnExactLabelArgumentsSpec)

/-- 'laws.FnExactGroundedSet', WHERE WHAT IT READS IS OF BULK AT MOST 1048576: true; the input reads as it did. -/
def fnExactGroundedSetUptoRow : OpenClaim := { program := "ytfhbnmlmobpjgaa", sum := "87980b392074e693a969021c1c05f8ff934c5a98877f483e37b50a59c481c27c", func := "loop.example/g00902/laws.FnExactGroundedSet", spec := "fnExactGroundedSet", apart := false, narrowed := true }
def FnExactGroundedSetUptoSaid : Prop := fnExactGroundedSetUptoRow.holds Try.pinned (OpenSpec.upto fnExactGroundedSetSpec)

/-- 'laws.FnExactArgumentStatus', WHERE WHAT IT READS IS OF BULK AT MOST 1048576: true; the input reads as it did. -/
def fnExactArgumentStatusUptoRow : OpenClaim := { program := "ytfhbnmlmobpjgaa", sum := "87980b392074e693a969021c1c05f8ff934c5a98877f483e37b50a59c481c27c", func := "loop.example/g00902/laws.FnExactArgumentStatus", spec := "fnExactArgumentStatus", unfollowed := true, recurses := true, apart := false, narrowed := true }
def FnExactArgumentStatusUptoSaid : Prop := fnExactArgumentStatusUptoRow.holds Try.pinned (OpenSpec.upto fnExactArgumentStatusSpec)

/-- 'laws.FnExactCompleteSets', WHERE WHAT IT READS IS OF BULK AT MOST 1048576: true; the input reads as it did. -/
def fnExactCompleteSetsUptoRow : OpenClaim := { program := "ytfhbnmlmobpjgaa", sum := "87980b392074e693a969021c1c05f8ff934c5a98877f483e37b50a59c481c27c", func := "loop.example/g00902/laws.FnExactCompleteSets", spec := "fnExactCompleteSets", unfollowed := true, recurses := true, apart := false, narrowed := true }
def FnExactCompleteSetsUptoSaid : Prop := fnExactCompleteSetsUptoRow.holds Try.pinned (OpenSpec.upto fnExactCompleteSetsSpec)

/-- 'laws.FnExtensions', WHERE WHAT IT READS IS OF BULK AT MOST 1048576: true; the input reads as it did. -/
def fnExtensionsUptoRow : OpenClaim := { program := "ytfhbnmlmobpjgaa", sum := "87980b392074e693a969021c1c05f8ff934c5a98877f483e37b50a59c481c27c", func := "loop.example/g00902/laws.FnExtensions", spec := "fnExtensions", unfollowed := true, recurses := true, apart := false, narrowed := true }
def FnExtensionsUptoSaid : Prop := fnExtensionsUptoRow.holds Try.pinned (OpenSpec.upto fnExtensionsSpec)

/-- 'laws.FnExactAddAttack', WHERE WHAT IT READS IS OF BULK AT MOST 1048576: true; the input reads as it did. -/
def fnExactAddAttackUptoRow : OpenClaim := { program := "ytfhbnmlmobpjgaa", sum := "87980b392074e693a969021c1c05f8ff934c5a98877f483e37b50a59c481c27c", func := "loop.example/g00902/laws.FnExactAddAttack", spec := "fnExactAddAttack", inPlace := ["slices.overlaps[loop.example/g00902/impl.Attack]"], apart := false, narrowed := true }
def FnExactAddAttackUptoSaid : Prop := fnExactAddAttackUptoRow.holds Try.pinned (OpenSpec.upto fnExactAddAttackSpec)

/-- 'laws.FnExactPreferredSets', WHERE WHAT IT READS IS OF BULK AT MOST 1048576: true; the input reads as it did. -/
def fnExactPreferredSetsUptoRow : OpenClaim := { program := "ytfhbnmlmobpjgaa", sum := "87980b392074e693a969021c1c05f8ff934c5a98877f483e37b50a59c481c27c", func := "loop.example/g00902/laws.FnExactPreferredSets", spec := "fnExactPreferredSets", unfollowed := true, recurses := true, apart := false, narrowed := true }
def FnExactPreferredSetsUptoSaid : Prop := fnExactPreferredSetsUptoRow.holds Try.pinned (OpenSpec.upto fnExactPreferredSetsSpec)

/-- 'laws.FnAdmissible', WHERE WHAT IT READS IS OF BULK AT MOST 1048576: true; the input reads as it did. -/
def fnAdmissibleUptoRow : OpenClaim := { program := "ytfhbnmlmobpjgaa", sum := "87980b392074e693a969021c1c05f8ff934c5a98877f483e37b50a59c481c27c", func := "loop.example/g00902/laws.FnAdmissible", spec := "fnAdmissible", apart := false, narrowed := true }
def FnAdmissibleUptoSaid : Prop := fnAdmissibleUptoRow.holds Try.pinned (OpenSpec.upto fnAdmissibleSpec)

/-- 'laws.FnArguments', WHERE WHAT IT READS IS OF BULK AT MOST 1048576: true; the input reads as it did. -/
def fnArgumentsUptoRow : OpenClaim := { program := "ytfhbnmlmobpjgaa", sum := "87980b392074e693a969021c1c05f8ff934c5a98877f483e37b50a59c481c27c", func := "loop.example/g00902/laws.FnArguments", spec := "fnArguments", inPlace := ["slices.overlaps[loop.example/g00902/impl.Attack]"], unfollowed := true, recurses := true, apart := false, narrowed := true }
def FnArgumentsUptoSaid : Prop := fnArgumentsUptoRow.holds Try.pinned (OpenSpec.upto fnArgumentsSpec)

end Rows
end Go.Proofs.Ytfhbnmlmobpjgaa
