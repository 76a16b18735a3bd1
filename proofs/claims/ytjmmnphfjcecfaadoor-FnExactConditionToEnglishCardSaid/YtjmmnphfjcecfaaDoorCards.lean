/-
  DERIVED. GIVEN WITH THE SEED: THE CARDS: each row of YtjmmnphfjcecfaaDoorRows.lean that lists a variable, with what it lists TIED to the program's text (the seventh form; the later family's looks); each row that meets fmt, with fmt's text TOLD by the authors' own Lean function (tested against real Go, not proved from fmt's source: count such statements apart). THE CARD IS WHAT COUNTS. Prove the row's statement (the work); the ties are given (YtjmmnphfjcecfaaDoorTie.lean); close each card by the builder's one call (the guide's Derived/Test/ToyasCard.lean, 'card_holds'). Laid BY PROGRAM, IN A SANDBOX (cutbox-door.mjs). By AI agents, Wed Nov 11 2026. No macro, syntax, notation, axiom, sorry.
-/
import Derived.Test.YtjmmnphfjcecfaaDoorRows
import GoSem.ClaimSeven
namespace Go.Proofs.YtjmmnphfjcecfaaDoor
namespace Rows

/-- THE TIED CARD OF 'laws.FnExactEventToEnglish'. -/
def fnExactEventToEnglishCard : Claim7 := { stood := { row := fnExactEventToEnglishRow, standIns := [], harness := (true, "a8b047e01b3896be5baeb7f64100d82a156a0fc6356ef24df88ba9aec3a771e3"), looks := false }, kinds := [], alts := [], laidByText := true, laidKinds := [.data, .data, .data, .data, .pinned], laidTests := true, laidLooks := .later }
def FnExactEventToEnglishCardSaid : Prop := Claim7.holds Tryd.pinned (.plain (OpenSpec.ofChange fnExactEventToEnglishSpec)) fnExactEventToEnglishCard

/-- THE TIED CARD OF 'laws.FnExactConditionToEnglish'. -/
def fnExactConditionToEnglishCard : Claim7 := { stood := { row := fnExactConditionToEnglishRow, standIns := [], harness := (true, "a8b047e01b3896be5baeb7f64100d82a156a0fc6356ef24df88ba9aec3a771e3"), looks := false }, kinds := [], alts := [], laidByText := true, laidKinds := [.data, .data, .data, .data, .pinned], laidTests := true, laidLooks := .later }
def FnExactConditionToEnglishCardSaid : Prop := Claim7.holds Tryd.pinned (.plain (OpenSpec.ofChange fnExactConditionToEnglishSpec)) fnExactConditionToEnglishCard

/-- THE SECOND FORM's CARD OF 'laws.FnExactEventToEnglish'. -/
def fnExactEventToEnglishUptoCard : Claim7 := { stood := { row := fnExactEventToEnglishUptoRow, standIns := [], harness := (true, "a8b047e01b3896be5baeb7f64100d82a156a0fc6356ef24df88ba9aec3a771e3"), looks := false }, kinds := [], alts := [], laidByText := true, laidKinds := [.data, .data, .data, .data, .pinned], laidTests := true, laidLooks := .later }
def FnExactEventToEnglishUptoCardSaid : Prop := Claim7.holds Tryd.pinned (.plain (OpenSpec.upto fnExactEventToEnglishSpec)) fnExactEventToEnglishUptoCard

/-- THE SECOND FORM's CARD OF 'laws.FnExactConditionToEnglish'. -/
def fnExactConditionToEnglishUptoCard : Claim7 := { stood := { row := fnExactConditionToEnglishUptoRow, standIns := [], harness := (true, "a8b047e01b3896be5baeb7f64100d82a156a0fc6356ef24df88ba9aec3a771e3"), looks := false }, kinds := [], alts := [], laidByText := true, laidKinds := [.data, .data, .data, .data, .pinned], laidTests := true, laidLooks := .later }
def FnExactConditionToEnglishUptoCardSaid : Prop := Claim7.holds Tryd.pinned (.plain (OpenSpec.upto fnExactConditionToEnglishSpec)) fnExactConditionToEnglishUptoCard
end Rows
end Go.Proofs.YtjmmnphfjcecfaaDoor
