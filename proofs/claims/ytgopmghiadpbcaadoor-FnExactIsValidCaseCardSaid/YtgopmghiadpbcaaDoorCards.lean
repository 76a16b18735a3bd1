/-
  DERIVED. GIVEN WITH THE SEED: THE CARDS: each row of YtgopmghiadpbcaaDoorRows.lean that lists a variable, with what it lists TIED to the program's text (the seventh form; the later family's looks); each row that meets fmt, with fmt's text TOLD by the authors' own Lean function (tested against real Go, not proved from fmt's source: count such statements apart). THE CARD IS WHAT COUNTS. Prove the row's statement (the work); the ties are given (YtgopmghiadpbcaaDoorTie.lean); close each card by the builder's one call (the guide's Derived/Test/ToyasCard.lean, 'card_holds'). Laid BY PROGRAM, IN A SANDBOX (cutbox-door.mjs). By AI agents, Wed Nov 11 2026. No macro, syntax, notation, axiom, sorry.
-/
import Derived.Test.YtgopmghiadpbcaaDoorRows
import GoSem.ClaimSeven
namespace Go.Proofs.YtgopmghiadpbcaaDoor
namespace Rows

/-- THE TIED CARD OF 'laws.FnExactIsValidCase'. -/
def fnExactIsValidCaseCard : Claim7 := { stood := { row := fnExactIsValidCaseRow, standIns := [], harness := (true, "3fab386ec6c8c5040872ca38c686a2374c2d27a2cad90e00b63f0e8e0942ed91"), looks := false }, kinds := [], alts := [], laidByText := true, laidKinds := [.data, .pinned], laidTests := true, laidLooks := .later }
def FnExactIsValidCaseCardSaid : Prop := Claim7.holds Tryd.pinned (.plain (OpenSpec.ofChange fnExactIsValidCaseSpec)) fnExactIsValidCaseCard

/-- THE SECOND FORM's CARD OF 'laws.FnExactIsValidCase'. -/
def fnExactIsValidCaseUptoCard : Claim7 := { stood := { row := fnExactIsValidCaseUptoRow, standIns := [], harness := (true, "3fab386ec6c8c5040872ca38c686a2374c2d27a2cad90e00b63f0e8e0942ed91"), looks := false }, kinds := [], alts := [], laidByText := true, laidKinds := [.data, .pinned], laidTests := true, laidLooks := .later }
def FnExactIsValidCaseUptoCardSaid : Prop := Claim7.holds Tryd.pinned (.plain (OpenSpec.upto fnExactIsValidCaseSpec)) fnExactIsValidCaseUptoCard
end Rows
end Go.Proofs.YtgopmghiadpbcaaDoor
