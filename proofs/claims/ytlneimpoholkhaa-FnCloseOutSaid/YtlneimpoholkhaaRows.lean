/-
  No cell of these rows narrows 'for every input' (looked for: loops, veiled, ifaces, maps, wideKeys, modest, calm, conditions, laid).
  DERIVED. THE GIVEN ROWS OF THIS SEAT. 5 by the template 'for every input the law returns true; each argument reads behind the call as it read before'; 0 by the template 'total and deterministic' (their statements: YtlneimpoholkhaaTotals.lean).
  GIVEN WITH THE SEED: the statements are not yours to turn. If you find one false, say at which input.
  Laid BY PROGRAM, IN A SANDBOX (cutbox-rows.mjs): the forced cells as the released guide's own fill.sh prints them over the translation 9aa3fe07a6a8050f… (all of the seat's roots in one cut). By AI agents, Wed Nov 11 2026. No macro, syntax, notation, axiom, sorry.
-/
import Derived.Test.YtlneimpoholkhaaChecked
import GoSem.Claim
import GoSem.ClaimJoined
import GoSem.ClaimMapViews
import Derived.JoinedTies
import Derived.KernelRfl
namespace Go.Proofs.Ytlneimpoholkhaa
/- THE CELL 'sum', in the pinned program and in every row, IS THE sha256 OF THE DUMP (.gsa) THAT YtlneimpoholkhaaProg.lean LOADS. Nothing in Lean hashes anything: it is a label: what it is worth is what the hold of that sum in a sandbox is worth. -/
noncomputable def Try.pinned : Pinned := { name := "ytlneimpoholkhaa", sum := "9aa3fe07a6a8050f1ec57ef4232a27e406ddad2b2a44b1557574bab8ded311d8", checked := Try.checked }
namespace Rows
def none {H : Type} : Left H := { results := [], args := [] }

/-- 'laws.FnExactAddAttack': WHATEVER THE INPUT: true; the input reads as it did. -/
def fnExactAddAttackSpec : ChangeSpec := { name := "fnExactAddAttack", fn := fun _ => fun
  | [d1, d2, d3] => { results := [.lit (.bool true)], args := [d1, d2, d3] }
  | _ => none }
def fnExactAddAttackRow : OpenClaim := { program := "ytlneimpoholkhaa", sum := "9aa3fe07a6a8050f1ec57ef4232a27e406ddad2b2a44b1557574bab8ded311d8", func := "loop.example/g00902/laws.FnExactAddAttack", spec := "fnExactAddAttack", inPlace := ["slices.overlaps[loop.example/g00902/impl.Attack]"], apart := false }
def FnExactAddAttackSaid : Prop := fnExactAddAttackRow.holds Try.pinned (OpenSpec.ofChange fnExactAddAttackSpec)

/-- ITS FALSE NEIGHBOUR: 'it returns false'. Refute it at one input. -/
def fnExactAddAttackWrong : ChangeSpec := { name := "fnExactAddAttack", fn := fun _ => fun
  | [d1, d2, d3] => { results := [.lit (.bool false)], args := [d1, d2, d3] }
  | _ => none }
def FnExactAddAttackWrongFalsely : Prop := fnExactAddAttackRow.holds Try.pinned (OpenSpec.ofChange fnExactAddAttackWrong)

/-- 'laws.FnArguments': WHATEVER THE INPUT: true; the input reads as it did. -/
def fnArgumentsSpec : ChangeSpec := { name := "fnArguments", fn := fun _ => fun
  | [d] => { results := [.lit (.bool true)], args := [d] }
  | _ => none }
def fnArgumentsRow : OpenClaim := { program := "ytlneimpoholkhaa", sum := "9aa3fe07a6a8050f1ec57ef4232a27e406ddad2b2a44b1557574bab8ded311d8", func := "loop.example/g00902/laws.FnArguments", spec := "fnArguments", inPlace := ["slices.overlaps[loop.example/g00902/impl.Attack]"], unfollowed := true, recurses := true, apart := false }
def FnArgumentsSaid : Prop := fnArgumentsRow.holds Try.pinned (OpenSpec.ofChange fnArgumentsSpec)

/-- ITS FALSE NEIGHBOUR: 'it returns false'. Refute it at one input. -/
def fnArgumentsWrong : ChangeSpec := { name := "fnArguments", fn := fun _ => fun
  | [d] => { results := [.lit (.bool false)], args := [d] }
  | _ => none }
def FnArgumentsWrongFalsely : Prop := fnArgumentsRow.holds Try.pinned (OpenSpec.ofChange fnArgumentsWrong)

/-- 'laws.FnExactEstateDividend': WHATEVER THE INPUT: true; the input reads as it did. -/
def fnExactEstateDividendSpec : ChangeSpec := { name := "fnExactEstateDividend", fn := fun _ => fun
  | [d1, d2] => { results := [.lit (.bool true)], args := [d1, d2] }
  | _ => none }
def fnExactEstateDividendRow : OpenClaim := { program := "ytlneimpoholkhaa", sum := "9aa3fe07a6a8050f1ec57ef4232a27e406ddad2b2a44b1557574bab8ded311d8", func := "loop.example/g00902/laws.FnExactEstateDividend", spec := "fnExactEstateDividend", unfollowed := true, recurses := true, apart := false }
def FnExactEstateDividendSaid : Prop := fnExactEstateDividendRow.holds Try.pinned (OpenSpec.ofChange fnExactEstateDividendSpec)

/-- ITS FALSE NEIGHBOUR: 'it returns false'. Refute it at one input. -/
def fnExactEstateDividendWrong : ChangeSpec := { name := "fnExactEstateDividend", fn := fun _ => fun
  | [d1, d2] => { results := [.lit (.bool false)], args := [d1, d2] }
  | _ => none }
def FnExactEstateDividendWrongFalsely : Prop := fnExactEstateDividendRow.holds Try.pinned (OpenSpec.ofChange fnExactEstateDividendWrong)

/-- 'laws.FnExactQuoteValue': WHATEVER THE INPUT: true; the input reads as it did. -/
def fnExactQuoteValueSpec : ChangeSpec := { name := "fnExactQuoteValue", fn := fun _ => fun
  | [d1, d2] => { results := [.lit (.bool true)], args := [d1, d2] }
  | _ => none }
def fnExactQuoteValueRow : OpenClaim := { program := "ytlneimpoholkhaa", sum := "9aa3fe07a6a8050f1ec57ef4232a27e406ddad2b2a44b1557574bab8ded311d8", func := "loop.example/g00902/laws.FnExactQuoteValue", spec := "fnExactQuoteValue", unfollowed := true, recurses := true, apart := false }
def FnExactQuoteValueSaid : Prop := fnExactQuoteValueRow.holds Try.pinned (OpenSpec.ofChange fnExactQuoteValueSpec)

/-- ITS FALSE NEIGHBOUR: 'it returns false'. Refute it at one input. -/
def fnExactQuoteValueWrong : ChangeSpec := { name := "fnExactQuoteValue", fn := fun _ => fun
  | [d1, d2] => { results := [.lit (.bool false)], args := [d1, d2] }
  | _ => none }
def FnExactQuoteValueWrongFalsely : Prop := fnExactQuoteValueRow.holds Try.pinned (OpenSpec.ofChange fnExactQuoteValueWrong)

/-- 'laws.FnCloseOut': WHATEVER THE INPUT: true; the input reads as it did. -/
def fnCloseOutSpec : ChangeSpec := { name := "fnCloseOut", fn := fun _ => fun
  | [d] => { results := [.lit (.bool true)], args := [d] }
  | _ => none }
def fnCloseOutRow : OpenClaim := { program := "ytlneimpoholkhaa", sum := "9aa3fe07a6a8050f1ec57ef4232a27e406ddad2b2a44b1557574bab8ded311d8", func := "loop.example/g00902/laws.FnCloseOut", spec := "fnCloseOut", unfollowed := true, recurses := true, apart := false }
def FnCloseOutSaid : Prop := fnCloseOutRow.holds Try.pinned (OpenSpec.ofChange fnCloseOutSpec)

/-- ITS FALSE NEIGHBOUR: 'it returns false'. Refute it at one input. -/
def fnCloseOutWrong : ChangeSpec := { name := "fnCloseOut", fn := fun _ => fun
  | [d] => { results := [.lit (.bool false)], args := [d] }
  | _ => none }
def FnCloseOutWrongFalsely : Prop := fnCloseOutRow.holds Try.pinned (OpenSpec.ofChange fnCloseOutWrong)

/- THE SECOND FORM. 'bulk': how many values and letters a reading holds, each counted each time it is reached (what is shared counts as often as it is met; a slice's spare places count too). A statement '..UptoSaid' is the law's where the arguments, and the package variables that the reading takes, are together of bulk at most 1048576: NARROWER than '..Said'. Prove '..Said' where nothing that the law and all that it calls make is longer than what came in: it says more and counts as full. Else prove '..UptoSaid'. A law counts once. -/
mutual
def uptoBulk {H : Type} : DataW H → Nat
  | .lit (.string bytes) => bytes.length + 1
  | .lit _ => 1
  | .nil => 1
  | .ptr d => uptoBulk d + 1
  | .slice elems spare => uptoBulkAll elems + uptoBulkAll spare + 1
  | .agg parts => uptoBulkAll parts + 1
  | .iface _ d => uptoBulk d + 1
  | .map entries => uptoBulkEntries entries + 1
  | .held _ => 1
def uptoBulkAll {H : Type} : List (DataW H) → Nat
  | [] => 0
  | d :: r => uptoBulk d + uptoBulkAll r
def uptoBulkEntries {H : Type} : List (Lit × DataW H) → Nat
  | [] => 0
  | x :: r => uptoBulkEntry x + uptoBulkEntries r
def uptoBulkEntry {H : Type} : Lit × DataW H → Nat
  | (.string bytes, d) => bytes.length + uptoBulk d + 1
  | (_, d) => uptoBulk d + 1
 end
def uptoSmall : (H : Type) → List (DataW H) → Bool := fun _ ds => decide (uptoBulkAll ds ≤ 1048576)
def OpenSpec.upto (s : _root_.Go.ChangeSpec) : _root_.Go.OpenSpec := { _root_.Go.OpenSpec.ofChange s with cond := some uptoSmall }

/-- 'laws.FnExactAddAttack', WHERE WHAT IT READS IS OF BULK AT MOST 1048576: true; the input reads as it did. -/
def fnExactAddAttackUptoRow : OpenClaim := { program := "ytlneimpoholkhaa", sum := "9aa3fe07a6a8050f1ec57ef4232a27e406ddad2b2a44b1557574bab8ded311d8", func := "loop.example/g00902/laws.FnExactAddAttack", spec := "fnExactAddAttack", inPlace := ["slices.overlaps[loop.example/g00902/impl.Attack]"], apart := false, narrowed := true }
def FnExactAddAttackUptoSaid : Prop := fnExactAddAttackUptoRow.holds Try.pinned (OpenSpec.upto fnExactAddAttackSpec)

/-- 'laws.FnArguments', WHERE WHAT IT READS IS OF BULK AT MOST 1048576: true; the input reads as it did. -/
def fnArgumentsUptoRow : OpenClaim := { program := "ytlneimpoholkhaa", sum := "9aa3fe07a6a8050f1ec57ef4232a27e406ddad2b2a44b1557574bab8ded311d8", func := "loop.example/g00902/laws.FnArguments", spec := "fnArguments", inPlace := ["slices.overlaps[loop.example/g00902/impl.Attack]"], unfollowed := true, recurses := true, apart := false, narrowed := true }
def FnArgumentsUptoSaid : Prop := fnArgumentsUptoRow.holds Try.pinned (OpenSpec.upto fnArgumentsSpec)

/-- 'laws.FnExactEstateDividend', WHERE WHAT IT READS IS OF BULK AT MOST 1048576: true; the input reads as it did. -/
def fnExactEstateDividendUptoRow : OpenClaim := { program := "ytlneimpoholkhaa", sum := "9aa3fe07a6a8050f1ec57ef4232a27e406ddad2b2a44b1557574bab8ded311d8", func := "loop.example/g00902/laws.FnExactEstateDividend", spec := "fnExactEstateDividend", unfollowed := true, recurses := true, apart := false, narrowed := true }
def FnExactEstateDividendUptoSaid : Prop := fnExactEstateDividendUptoRow.holds Try.pinned (OpenSpec.upto fnExactEstateDividendSpec)

/-- 'laws.FnExactQuoteValue', WHERE WHAT IT READS IS OF BULK AT MOST 1048576: true; the input reads as it did. -/
def fnExactQuoteValueUptoRow : OpenClaim := { program := "ytlneimpoholkhaa", sum := "9aa3fe07a6a8050f1ec57ef4232a27e406ddad2b2a44b1557574bab8ded311d8", func := "loop.example/g00902/laws.FnExactQuoteValue", spec := "fnExactQuoteValue", unfollowed := true, recurses := true, apart := false, narrowed := true }
def FnExactQuoteValueUptoSaid : Prop := fnExactQuoteValueUptoRow.holds Try.pinned (OpenSpec.upto fnExactQuoteValueSpec)

/-- 'laws.FnCloseOut', WHERE WHAT IT READS IS OF BULK AT MOST 1048576: true; the input reads as it did. -/
def fnCloseOutUptoRow : OpenClaim := { program := "ytlneimpoholkhaa", sum := "9aa3fe07a6a8050f1ec57ef4232a27e406ddad2b2a44b1557574bab8ded311d8", func := "loop.example/g00902/laws.FnCloseOut", spec := "fnCloseOut", unfollowed := true, recurses := true, apart := false, narrowed := true }
def FnCloseOutUptoSaid : Prop := fnCloseOutUptoRow.holds Try.pinned (OpenSpec.upto fnCloseOutSpec)

end Rows
end Go.Proofs.Ytlneimpoholkhaa
