/-
  No cell of these rows narrows 'for every input' (looked for: loops, veiled, ifaces, maps, wideKeys, modest, calm, conditions, laid).
  DERIVED. THE GIVEN ROWS OF THIS SEAT. 9 by the template 'for every input the law returns true; each argument reads behind the call as it read before'; 0 by the template 'total and deterministic' (their statements: YtjpceeemmebghaaTotals.lean).
  GIVEN WITH THE SEED: the statements are not yours to turn. If you find one false, say at which input.
  Laid BY PROGRAM, IN A SANDBOX (cutbox-rows.mjs): the forced cells as the released guide's own fill.sh prints them over the translation 91ac27f4064606a7… (all of the seat's roots in one cut). By AI agents, Wed Nov 11 2026. No macro, syntax, notation, axiom, sorry.
-/
import Derived.Test.YtjpceeemmebghaaChecked
import GoSem.Claim
import GoSem.ClaimJoined
import GoSem.ClaimMapViews
import Derived.JoinedTies
import Derived.KernelRfl
namespace Go.Proofs.Ytjpceeemmebghaa
/- THE CELL 'sum', in the pinned program and in every row, IS THE sha256 OF THE DUMP (.gsa) THAT YtjpceeemmebghaaProg.lean LOADS. Nothing in Lean hashes anything: it is a label: what it is worth is what the hold of that sum in a sandbox is worth. -/
noncomputable def Try.pinned : Pinned := { name := "ytjpceeemmebghaa", sum := "91ac27f4064606a7d73d8f3fea6309c32126b9378f42a9ddfa631de92713493c", checked := Try.checked }
namespace Rows
def none {H : Type} : Left H := { results := [], args := [] }

/-- 'laws.FnExactIsNoWorse': WHATEVER THE INPUT: true; the input reads as it did. -/
def fnExactIsNoWorseSpec : ChangeSpec := { name := "fnExactIsNoWorse", fn := fun _ => fun
  | [d1, d2] => { results := [.lit (.bool true)], args := [d1, d2] }
  | _ => none }
def fnExactIsNoWorseRow : OpenClaim := { program := "ytjpceeemmebghaa", sum := "91ac27f4064606a7d73d8f3fea6309c32126b9378f42a9ddfa631de92713493c", func := "loop.example/g00902/laws.FnExactIsNoWorse", spec := "fnExactIsNoWorse", apart := false }
def FnExactIsNoWorseSaid : Prop := fnExactIsNoWorseRow.holds Try.pinned (OpenSpec.ofChange fnExactIsNoWorseSpec)

/-- ITS FALSE NEIGHBOUR: 'it returns false'. Refute it at one input. -/
def fnExactIsNoWorseWrong : ChangeSpec := { name := "fnExactIsNoWorse", fn := fun _ => fun
  | [d1, d2] => { results := [.lit (.bool false)], args := [d1, d2] }
  | _ => none }
def FnExactIsNoWorseWrongFalsely : Prop := fnExactIsNoWorseRow.holds Try.pinned (OpenSpec.ofChange fnExactIsNoWorseWrong)

/-- 'laws.FnExactCloseOutAmount': WHATEVER THE INPUT: true; the input reads as it did. -/
def fnExactCloseOutAmountSpec : ChangeSpec := { name := "fnExactCloseOutAmount", fn := fun _ => fun
  | [d] => { results := [.lit (.bool true)], args := [d] }
  | _ => none }
def fnExactCloseOutAmountRow : OpenClaim := { program := "ytjpceeemmebghaa", sum := "91ac27f4064606a7d73d8f3fea6309c32126b9378f42a9ddfa631de92713493c", func := "loop.example/g00902/laws.FnExactCloseOutAmount", spec := "fnExactCloseOutAmount", apart := false }
def FnExactCloseOutAmountSaid : Prop := fnExactCloseOutAmountRow.holds Try.pinned (OpenSpec.ofChange fnExactCloseOutAmountSpec)

/-- ITS FALSE NEIGHBOUR: 'it returns false'. Refute it at one input. -/
def fnExactCloseOutAmountWrong : ChangeSpec := { name := "fnExactCloseOutAmount", fn := fun _ => fun
  | [d] => { results := [.lit (.bool false)], args := [d] }
  | _ => none }
def FnExactCloseOutAmountWrongFalsely : Prop := fnExactCloseOutAmountRow.holds Try.pinned (OpenSpec.ofChange fnExactCloseOutAmountWrong)

/-- 'laws.FnExactSetOff': WHATEVER THE INPUT: true; the input reads as it did. -/
def fnExactSetOffSpec : ChangeSpec := { name := "fnExactSetOff", fn := fun _ => fun
  | [d1, d2, d3] => { results := [.lit (.bool true)], args := [d1, d2, d3] }
  | _ => none }
def fnExactSetOffRow : OpenClaim := { program := "ytjpceeemmebghaa", sum := "91ac27f4064606a7d73d8f3fea6309c32126b9378f42a9ddfa631de92713493c", func := "loop.example/g00902/laws.FnExactSetOff", spec := "fnExactSetOff", unfollowed := true, recurses := true, apart := false }
def FnExactSetOffSaid : Prop := fnExactSetOffRow.holds Try.pinned (OpenSpec.ofChange fnExactSetOffSpec)

/-- ITS FALSE NEIGHBOUR: 'it returns false'. Refute it at one input. -/
def fnExactSetOffWrong : ChangeSpec := { name := "fnExactSetOff", fn := fun _ => fun
  | [d1, d2, d3] => { results := [.lit (.bool false)], args := [d1, d2, d3] }
  | _ => none }
def FnExactSetOffWrongFalsely : Prop := fnExactSetOffRow.holds Try.pinned (OpenSpec.ofChange fnExactSetOffWrong)

/-- 'laws.FnExactTerminationDay': WHATEVER THE INPUT: true; the input reads as it did. -/
def fnExactTerminationDaySpec : ChangeSpec := { name := "fnExactTerminationDay", fn := fun _ => fun
  | [d1, d2, d3, d4] => { results := [.lit (.bool true)], args := [d1, d2, d3, d4] }
  | _ => none }
def fnExactTerminationDayRow : OpenClaim := { program := "ytjpceeemmebghaa", sum := "91ac27f4064606a7d73d8f3fea6309c32126b9378f42a9ddfa631de92713493c", func := "loop.example/g00902/laws.FnExactTerminationDay", spec := "fnExactTerminationDay", unfollowed := true, recurses := true, apart := false }
def FnExactTerminationDaySaid : Prop := fnExactTerminationDayRow.holds Try.pinned (OpenSpec.ofChange fnExactTerminationDaySpec)

/-- ITS FALSE NEIGHBOUR: 'it returns false'. Refute it at one input. -/
def fnExactTerminationDayWrong : ChangeSpec := { name := "fnExactTerminationDay", fn := fun _ => fun
  | [d1, d2, d3, d4] => { results := [.lit (.bool false)], args := [d1, d2, d3, d4] }
  | _ => none }
def FnExactTerminationDayWrongFalsely : Prop := fnExactTerminationDayRow.holds Try.pinned (OpenSpec.ofChange fnExactTerminationDayWrong)

/-- 'laws.FnTermination': WHATEVER THE INPUT: true; the input reads as it did. -/
def fnTerminationSpec : ChangeSpec := { name := "fnTermination", fn := fun _ => fun
  | [d] => { results := [.lit (.bool true)], args := [d] }
  | _ => none }
def fnTerminationRow : OpenClaim := { program := "ytjpceeemmebghaa", sum := "91ac27f4064606a7d73d8f3fea6309c32126b9378f42a9ddfa631de92713493c", func := "loop.example/g00902/laws.FnTermination", spec := "fnTermination", unfollowed := true, recurses := true, apart := false }
def FnTerminationSaid : Prop := fnTerminationRow.holds Try.pinned (OpenSpec.ofChange fnTerminationSpec)

/-- ITS FALSE NEIGHBOUR: 'it returns false'. Refute it at one input. -/
def fnTerminationWrong : ChangeSpec := { name := "fnTermination", fn := fun _ => fun
  | [d] => { results := [.lit (.bool false)], args := [d] }
  | _ => none }
def FnTerminationWrongFalsely : Prop := fnTerminationRow.holds Try.pinned (OpenSpec.ofChange fnTerminationWrong)

/-- 'laws.FnExactInterimAmount': WHATEVER THE INPUT: true; the input reads as it did. -/
def fnExactInterimAmountSpec : ChangeSpec := { name := "fnExactInterimAmount", fn := fun _ => fun
  | [d1, d2, d3, d4, d5, d6] => { results := [.lit (.bool true)], args := [d1, d2, d3, d4, d5, d6] }
  | _ => none }
def fnExactInterimAmountRow : OpenClaim := { program := "ytjpceeemmebghaa", sum := "91ac27f4064606a7d73d8f3fea6309c32126b9378f42a9ddfa631de92713493c", func := "loop.example/g00902/laws.FnExactInterimAmount", spec := "fnExactInterimAmount", apart := false }
def FnExactInterimAmountSaid : Prop := fnExactInterimAmountRow.holds Try.pinned (OpenSpec.ofChange fnExactInterimAmountSpec)

/-- ITS FALSE NEIGHBOUR: 'it returns false'. Refute it at one input. -/
def fnExactInterimAmountWrong : ChangeSpec := { name := "fnExactInterimAmount", fn := fun _ => fun
  | [d1, d2, d3, d4, d5, d6] => { results := [.lit (.bool false)], args := [d1, d2, d3, d4, d5, d6] }
  | _ => none }
def FnExactInterimAmountWrongFalsely : Prop := fnExactInterimAmountRow.holds Try.pinned (OpenSpec.ofChange fnExactInterimAmountWrong)

/-- 'laws.FnExactEstateDividend': WHATEVER THE INPUT: true; the input reads as it did. -/
def fnExactEstateDividendSpec : ChangeSpec := { name := "fnExactEstateDividend", fn := fun _ => fun
  | [d1, d2] => { results := [.lit (.bool true)], args := [d1, d2] }
  | _ => none }
def fnExactEstateDividendRow : OpenClaim := { program := "ytjpceeemmebghaa", sum := "91ac27f4064606a7d73d8f3fea6309c32126b9378f42a9ddfa631de92713493c", func := "loop.example/g00902/laws.FnExactEstateDividend", spec := "fnExactEstateDividend", unfollowed := true, recurses := true, apart := false }
def FnExactEstateDividendSaid : Prop := fnExactEstateDividendRow.holds Try.pinned (OpenSpec.ofChange fnExactEstateDividendSpec)

/-- ITS FALSE NEIGHBOUR: 'it returns false'. Refute it at one input. -/
def fnExactEstateDividendWrong : ChangeSpec := { name := "fnExactEstateDividend", fn := fun _ => fun
  | [d1, d2] => { results := [.lit (.bool false)], args := [d1, d2] }
  | _ => none }
def FnExactEstateDividendWrongFalsely : Prop := fnExactEstateDividendRow.holds Try.pinned (OpenSpec.ofChange fnExactEstateDividendWrong)

/-- 'laws.FnExactQuoteValue': WHATEVER THE INPUT: true; the input reads as it did. -/
def fnExactQuoteValueSpec : ChangeSpec := { name := "fnExactQuoteValue", fn := fun _ => fun
  | [d1, d2] => { results := [.lit (.bool true)], args := [d1, d2] }
  | _ => none }
def fnExactQuoteValueRow : OpenClaim := { program := "ytjpceeemmebghaa", sum := "91ac27f4064606a7d73d8f3fea6309c32126b9378f42a9ddfa631de92713493c", func := "loop.example/g00902/laws.FnExactQuoteValue", spec := "fnExactQuoteValue", unfollowed := true, recurses := true, apart := false }
def FnExactQuoteValueSaid : Prop := fnExactQuoteValueRow.holds Try.pinned (OpenSpec.ofChange fnExactQuoteValueSpec)

/-- ITS FALSE NEIGHBOUR: 'it returns false'. Refute it at one input. -/
def fnExactQuoteValueWrong : ChangeSpec := { name := "fnExactQuoteValue", fn := fun _ => fun
  | [d1, d2] => { results := [.lit (.bool false)], args := [d1, d2] }
  | _ => none }
def FnExactQuoteValueWrongFalsely : Prop := fnExactQuoteValueRow.holds Try.pinned (OpenSpec.ofChange fnExactQuoteValueWrong)

/-- 'laws.FnCloseOut': WHATEVER THE INPUT: true; the input reads as it did. -/
def fnCloseOutSpec : ChangeSpec := { name := "fnCloseOut", fn := fun _ => fun
  | [d] => { results := [.lit (.bool true)], args := [d] }
  | _ => none }
def fnCloseOutRow : OpenClaim := { program := "ytjpceeemmebghaa", sum := "91ac27f4064606a7d73d8f3fea6309c32126b9378f42a9ddfa631de92713493c", func := "loop.example/g00902/laws.FnCloseOut", spec := "fnCloseOut", unfollowed := true, recurses := true, apart := false }
def FnCloseOutSaid : Prop := fnCloseOutRow.holds Try.pinned (OpenSpec.ofChange fnCloseOutSpec)

/-- ITS FALSE NEIGHBOUR: 'it returns false'. Refute it at one input. -/
def fnCloseOutWrong : ChangeSpec := { name := "fnCloseOut", fn := fun _ => fun
  | [d] => { results := [.lit (.bool false)], args := [d] }
  | _ => none }
def FnCloseOutWrongFalsely : Prop := fnCloseOutRow.holds Try.pinned (OpenSpec.ofChange fnCloseOutWrong)

/- THE SECOND FORM. 'bulk': how many values and letters a reading holds, each counted each time it is reached (what is shared counts as often as it is met; a slice's spare places count too). A statement '..UptoSaid' is the law's where the arguments, and the package variables that the reading takes, are together of bulk at most 1048576: NARROWER than '..Said'. Prove '..Said' where nothing that the law and all that it calls make is longer than what came in: it says more and counts as full. Else prove '..UptoSaid'. A law counts once. -/
mutual
def uptoBulk {H : Type} : DataW H → Nat
  | .lit (.string bytes) => bytes.length + 1
  | .lit _ => 1
  | .nil => 1
  | .ptr d => uptoBulk d + 1
  | .slice elems spare => uptoBulkAll elems + uptoBulkAll spare + 1
  | .agg parts => uptoBulkAll parts + 1
  | .iface _ d => uptoBulk d + 1
  | .map entries => uptoBulkEntries entries + 1
  | .held _ => 1
def uptoBulkAll {H : Type} : List (DataW H) → Nat
  | [] => 0
  | d :: r => uptoBulk d + uptoBulkAll r
def uptoBulkEntries {H : Type} : List (Lit × DataW H) → Nat
  | [] => 0
  | x :: r => uptoBulkEntry x + uptoBulkEntries r
def uptoBulkEntry {H : Type} : Lit × DataW H → Nat
  | (.string bytes, d) => bytes.length + uptoBulk d + 1
  | (_, d) => uptoBulk d + 1
 end
def uptoSmall : (H : Type) → List (DataW H) → Bool := fun _ ds => decide (uptoBulkAll ds ≤ 1048576)
def OpenSpec.upto (s : _root_.Go.ChangeSpec) : _root_.Go.OpenSpec := { _root_.Go.OpenSpec.ofChange s with cond := some uptoSmall }

/-- 'laws.FnExactIsNoWorse', WHERE WHAT IT READS IS OF BULK AT MOST 1048576: true; the input reads as it did. -/
def fnExactIsNoWorseUptoRow : OpenClaim := { program := "ytjpceeemmebghaa", sum := "91ac27f4064606a7d73d8f3fea6309c32126b9378f42a9ddfa631de92713493c", func := "loop.example/g00902/laws.FnExactIsNoWorse", spec := "fnExactIsNoWorse", apart := false, narrowed := true }
def FnExactIsNoWorseUptoSaid : Prop := fnExactIsNoWorseUptoRow.holds Try.pinned (OpenSpec.upto fnExactIsNoWorseSpec)

/-- 'laws.FnExactCloseOutAmount', WHERE WHAT IT READS IS OF BULK AT MOST 1048576: true; the input reads as it did. -/
def fnExactCloseOutAmountUptoRow : OpenClaim := { program := "ytjpceeemmebghaa", sum := "91ac27f4064606a7d73d8f3fea6309c32126b9378f42a9ddfa631de92713493c", func := "loop.example/g00902/laws.FnExactCloseOutAmount", spec := "fnExactCloseOutAmount", apart := false, narrowed := true }
def FnExactCloseOutAmountUptoSaid : Prop := fnExactCloseOutAmountUptoRow.holds Try.pinned (OpenSpec.upto fnExactCloseOutAmountSpec)

/-- 'laws.FnExactSetOff', WHERE WHAT IT READS IS OF BULK AT MOST 1048576: true; the input reads as it did. -/
def fnExactSetOffUptoRow : OpenClaim := { program := "ytjpceeemmebghaa", sum := "91ac27f4064606a7d73d8f3fea6309c32126b9378f42a9ddfa631de92713493c", func := "loop.example/g00902/laws.FnExactSetOff", spec := "fnExactSetOff", unfollowed := true, recurses := true, apart := false, narrowed := true }
def FnExactSetOffUptoSaid : Prop := fnExactSetOffUptoRow.holds Try.pinned (OpenSpec.upto fnExactSetOffSpec)

/-- 'laws.FnExactTerminationDay', WHERE WHAT IT READS IS OF BULK AT MOST 1048576: true; the input reads as it did. -/
def fnExactTerminationDayUptoRow : OpenClaim := { program := "ytjpceeemmebghaa", sum := "91ac27f4064606a7d73d8f3fea6309c32126b9378f42a9ddfa631de92713493c", func := "loop.example/g00902/laws.FnExactTerminationDay", spec := "fnExactTerminationDay", unfollowed := true, recurses := true, apart := false, narrowed := true }
def FnExactTerminationDayUptoSaid : Prop := fnExactTerminationDayUptoRow.holds Try.pinned (OpenSpec.upto fnExactTerminationDaySpec)

/-- 'laws.FnTermination', WHERE WHAT IT READS IS OF BULK AT MOST 1048576: true; the input reads as it did. -/
def fnTerminationUptoRow : OpenClaim := { program := "ytjpceeemmebghaa", sum := "91ac27f4064606a7d73d8f3fea6309c32126b9378f42a9ddfa631de92713493c", func := "loop.example/g00902/laws.FnTermination", spec := "fnTermination", unfollowed := true, recurses := true, apart := false, narrowed := true }
def FnTerminationUptoSaid : Prop := fnTerminationUptoRow.holds Try.pinned (OpenSpec.upto fnTerminationSpec)

/-- 'laws.FnExactInterimAmount', WHERE WHAT IT READS IS OF BULK AT MOST 1048576: true; the input reads as it did. -/
def fnExactInterimAmountUptoRow : OpenClaim := { program := "ytjpceeemmebghaa", sum := "91ac27f4064606a7d73d8f3fea6309c32126b9378f42a9ddfa631de92713493c", func := "loop.example/g00902/laws.FnExactInterimAmount", spec := "fnExactInterimAmount", apart := false, narrowed := true }
def FnExactInterimAmountUptoSaid : Prop := fnExactInterimAmountUptoRow.holds Try.pinned (OpenSpec.upto fnExactInterimAmountSpec)

/-- 'laws.FnExactEstateDividend', WHERE WHAT IT READS IS OF BULK AT MOST 1048576: true; the input reads as it did. -/
def fnExactEstateDividendUptoRow : OpenClaim := { program := "ytjpceeemmebghaa", sum := "91ac27f4064606a7d73d8f3fea6309c32126b9378f42a9ddfa631de92713493c", func := "loop.example/g00902/laws.FnExactEstateDividend", spec := "fnExactEstateDividend", unfollowed := true, recurses := true, apart := false, narrowed := true }
def FnExactEstateDividendUptoSaid : Prop := fnExactEstateDividendUptoRow.holds Try.pinned (OpenSpec.upto fnExactEstateDividendSpec)

/-- 'laws.FnExactQuoteValue', WHERE WHAT IT READS IS OF BULK AT MOST 1048576: true; the input reads as it did. -/
def fnExactQuoteValueUptoRow : OpenClaim := { program := "ytjpceeemmebghaa", sum := "91ac27f4064606a7d73d8f3fea6309c32126b9378f42a9ddfa631de92713493c", func := "loop.example/g00902/laws.FnExactQuoteValue", spec := "fnExactQuoteValue", unfollowed := true, recurses := true, apart := false, narrowed := true }
def FnExactQuoteValueUptoSaid : Prop := fnExactQuoteValueUptoRow.holds Try.pinned (OpenSpec.upto fnExactQuoteValueSpec)

/-- 'laws.FnCloseOut', WHERE WHAT IT READS IS OF BULK AT MOST 1048576: true; the input reads as it did. -/
def fnCloseOutUptoRow : OpenClaim := { program := "ytjpceeemmebghaa", sum := "91ac27f4064606a7d73d8f3fea6309c32126b9378f42a9ddfa631de92713493c", func := "loop.example/g00902/laws.FnCloseOut", spec := "fnCloseOut", unfollowed := true, recurses := true, apart := false, narrowed := true }
def FnCloseOutUptoSaid : Prop := fnCloseOutUptoRow.holds Try.pinned (OpenSpec.upto fnCloseOutSpec)

end Rows
end Go.Proofs.Ytjpceeemmebghaa
