/-
  DERIVED. GIVEN WITH THE SEED: THE CARDS: each row of YtjjehnbebcfhpaaGreatDoorRows.lean that lists a variable, with what it lists TIED to the program's text (the seventh form; the later family's looks); each row that meets fmt, with fmt's text TOLD by the authors' own Lean function (tested against real Go, not proved from fmt's source: count such statements apart). THE CARD IS WHAT COUNTS. Prove the row's statement (the work); the ties are given (YtjjehnbebcfhpaaGreatDoorTie.lean); close each card by the builder's one call (the guide's Derived/Test/ToyasCard.lean, 'card_holds'). Laid BY PROGRAM, IN A SANDBOX (cutbox-door.mjs). By AI agents, Wed Nov 11 2026. No macro, syntax, notation, axiom, sorry.
-/
import Derived.Test.YtjjehnbebcfhpaaGreatDoorRows
import GoSem.ClaimSeven
namespace Go.Proofs.YtjjehnbebcfhpaaGreatDoor
namespace Rows

/-- THE TIED CARD OF 'laws.FnExactClauseToEnglish'. -/
def fnExactClauseToEnglishCard : Claim7 := { stood := { row := fnExactClauseToEnglishRow, standIns := [], harness := (true, "3cef143d228070ffb26ff70198564c867816e22049ae4f1736865dc97cc60734"), looks := false }, kinds := [], alts := [], laidByText := true, laidKinds := [.data, .data, .data, .data, .pinned], laidTests := true, laidLooks := .later }
def FnExactClauseToEnglishCardSaid : Prop := Claim7.holds Tryz.pinned (.plain (OpenSpec.ofChange fnExactClauseToEnglishSpec)) fnExactClauseToEnglishCard

/-- THE TIED CARD OF 'laws.FnExactPositionOf'. -/
def fnExactPositionOfCard : Claim7 := { stood := { row := fnExactPositionOfRow, standIns := [], harness := (true, "3cef143d228070ffb26ff70198564c867816e22049ae4f1736865dc97cc60734"), looks := false }, kinds := [], alts := [], laidByText := true, laidKinds := [.data, .pinned], laidTests := true, laidLooks := .later }
def FnExactPositionOfCardSaid : Prop := Claim7.holds Tryz.pinned (.plain (OpenSpec.ofChange fnExactPositionOfSpec)) fnExactPositionOfCard

/-- THE TIED CARD OF 'laws.FnExactJointMoment'. -/
def fnExactJointMomentCard : Claim7 := { stood := { row := fnExactJointMomentRow, standIns := [], harness := (true, "3cef143d228070ffb26ff70198564c867816e22049ae4f1736865dc97cc60734"), looks := false }, kinds := [], alts := [], laidByText := true, laidKinds := [.data, .pinned], laidTests := true, laidLooks := .later }
def FnExactJointMomentCardSaid : Prop := Claim7.holds Tryz.pinned (.plain (OpenSpec.ofChange fnExactJointMomentSpec)) fnExactJointMomentCard

/-- THE SECOND FORM's CARD OF 'laws.FnExactClauseToEnglish'. -/
def fnExactClauseToEnglishUptoCard : Claim7 := { stood := { row := fnExactClauseToEnglishUptoRow, standIns := [], harness := (true, "3cef143d228070ffb26ff70198564c867816e22049ae4f1736865dc97cc60734"), looks := false }, kinds := [], alts := [], laidByText := true, laidKinds := [.data, .data, .data, .data, .pinned], laidTests := true, laidLooks := .later }
def FnExactClauseToEnglishUptoCardSaid : Prop := Claim7.holds Tryz.pinned (.plain (OpenSpec.upto fnExactClauseToEnglishSpec)) fnExactClauseToEnglishUptoCard

/-- THE SECOND FORM's CARD OF 'laws.FnExactPositionOf'. -/
def fnExactPositionOfUptoCard : Claim7 := { stood := { row := fnExactPositionOfUptoRow, standIns := [], harness := (true, "3cef143d228070ffb26ff70198564c867816e22049ae4f1736865dc97cc60734"), looks := false }, kinds := [], alts := [], laidByText := true, laidKinds := [.data, .pinned], laidTests := true, laidLooks := .later }
def FnExactPositionOfUptoCardSaid : Prop := Claim7.holds Tryz.pinned (.plain (OpenSpec.upto fnExactPositionOfSpec)) fnExactPositionOfUptoCard

/-- THE SECOND FORM's CARD OF 'laws.FnExactJointMoment'. -/
def fnExactJointMomentUptoCard : Claim7 := { stood := { row := fnExactJointMomentUptoRow, standIns := [], harness := (true, "3cef143d228070ffb26ff70198564c867816e22049ae4f1736865dc97cc60734"), looks := false }, kinds := [], alts := [], laidByText := true, laidKinds := [.data, .pinned], laidTests := true, laidLooks := .later }
def FnExactJointMomentUptoCardSaid : Prop := Claim7.holds Tryz.pinned (.plain (OpenSpec.upto fnExactJointMomentSpec)) fnExactJointMomentUptoCard
end Rows
end Go.Proofs.YtjjehnbebcfhpaaGreatDoor
