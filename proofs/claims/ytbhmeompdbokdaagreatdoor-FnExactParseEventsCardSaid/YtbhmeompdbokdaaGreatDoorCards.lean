/-
  DERIVED. GIVEN WITH THE SEED: THE CARDS: each row of YtbhmeompdbokdaaGreatDoorRows.lean that lists a variable, with what it lists TIED to the program's text (the seventh form; the later family's looks); each row that meets fmt, with fmt's text TOLD by the authors' own Lean function (tested against real Go, not proved from fmt's source: count such statements apart). THE CARD IS WHAT COUNTS. Prove the row's statement (the work); the ties are given (YtbhmeompdbokdaaGreatDoorTie.lean); close each card by the builder's one call (the guide's Derived/Test/ToyasCard.lean, 'card_holds'). Laid BY PROGRAM, IN A SANDBOX (cutbox-door.mjs). By AI agents, Wed Nov 11 2026. No macro, syntax, notation, axiom, sorry.
-/
import Derived.Test.YtbhmeompdbokdaaGreatDoorRows
import GoSem.ClaimSeven
namespace Go.Proofs.YtbhmeompdbokdaaGreatDoor
namespace Rows

/-- THE TIED CARD OF 'laws.FnExactParseEvent'. -/
def fnExactParseEventCard : Claim7 := { stood := { row := fnExactParseEventRow, standIns := [], harness := (true, "91f80997ad6d79d71f30301153d66c68eb35f0b15a0cd62e0e0e802b007720f6"), looks := true }, kinds := [], alts := [], laidByText := true, laidKinds := [.data, .data, .data, .data, .sentinel, .sentinel, .pinned], laidTests := true, laidLooks := .later }
def FnExactParseEventCardSaid : Prop := Claim7.holds Tryz.pinned (.plain (OpenSpec.ofChange fnExactParseEventSpec)) fnExactParseEventCard

/-- THE TIED CARD OF 'laws.FnExactEnglishToEvent'. -/
def fnExactEnglishToEventCard : Claim7 := { stood := { row := fnExactEnglishToEventRow, standIns := [], harness := (true, "91f80997ad6d79d71f30301153d66c68eb35f0b15a0cd62e0e0e802b007720f6"), looks := true }, kinds := [], alts := [], laidByText := true, laidKinds := [.data, .data, .data, .data, .sentinel, .sentinel, .pinned], laidTests := true, laidLooks := .later }
def FnExactEnglishToEventCardSaid : Prop := Claim7.holds Tryz.pinned (.plain (OpenSpec.ofChange fnExactEnglishToEventSpec)) fnExactEnglishToEventCard

/-- THE TIED CARD OF 'laws.FnExactParseEvents'. -/
def fnExactParseEventsCard : Claim7 := { stood := { row := fnExactParseEventsRow, standIns := [], harness := (true, "91f80997ad6d79d71f30301153d66c68eb35f0b15a0cd62e0e0e802b007720f6"), looks := true }, kinds := [], alts := [], laidByText := true, laidKinds := [.data, .data, .data, .data, .sentinel, .sentinel, .pinned], laidTests := true, laidLooks := .later }
def FnExactParseEventsCardSaid : Prop := Claim7.holds Tryz.pinned (.plain (OpenSpec.ofChange fnExactParseEventsSpec)) fnExactParseEventsCard

/-- THE TIED CARD OF 'laws.FnEventText'. -/
def fnEventTextCard : Claim7 := { stood := { row := fnEventTextRow, standIns := [], harness := (true, "91f80997ad6d79d71f30301153d66c68eb35f0b15a0cd62e0e0e802b007720f6"), looks := true }, kinds := [], alts := [], laidByText := true, laidKinds := [.data, .data, .data, .data, .sentinel, .sentinel, .pinned], laidTests := true, laidLooks := .later }
def FnEventTextCardSaid : Prop := Claim7.holds Tryz.pinned (.plain (OpenSpec.ofChange fnEventTextSpec)) fnEventTextCard

/-- THE TIED CARD OF 'laws.FnExactEnglishToCondition'. -/
def fnExactEnglishToConditionCard : Claim7 := { stood := { row := fnExactEnglishToConditionRow, standIns := [], harness := (true, "91f80997ad6d79d71f30301153d66c68eb35f0b15a0cd62e0e0e802b007720f6"), looks := true }, kinds := [], alts := [], laidByText := true, laidKinds := [.data, .data, .data, .data, .sentinel, .sentinel, .pinned], laidTests := true, laidLooks := .later }
def FnExactEnglishToConditionCardSaid : Prop := Claim7.holds Tryz.pinned (.plain (OpenSpec.ofChange fnExactEnglishToConditionSpec)) fnExactEnglishToConditionCard

/-- THE SECOND FORM's CARD OF 'laws.FnExactParseEvent'. -/
def fnExactParseEventUptoCard : Claim7 := { stood := { row := fnExactParseEventUptoRow, standIns := [], harness := (true, "91f80997ad6d79d71f30301153d66c68eb35f0b15a0cd62e0e0e802b007720f6"), looks := true }, kinds := [], alts := [], laidByText := true, laidKinds := [.data, .data, .data, .data, .sentinel, .sentinel, .pinned], laidTests := true, laidLooks := .later }
def FnExactParseEventUptoCardSaid : Prop := Claim7.holds Tryz.pinned (.plain (OpenSpec.upto fnExactParseEventSpec)) fnExactParseEventUptoCard

/-- THE SECOND FORM's CARD OF 'laws.FnExactEnglishToEvent'. -/
def fnExactEnglishToEventUptoCard : Claim7 := { stood := { row := fnExactEnglishToEventUptoRow, standIns := [], harness := (true, "91f80997ad6d79d71f30301153d66c68eb35f0b15a0cd62e0e0e802b007720f6"), looks := true }, kinds := [], alts := [], laidByText := true, laidKinds := [.data, .data, .data, .data, .sentinel, .sentinel, .pinned], laidTests := true, laidLooks := .later }
def FnExactEnglishToEventUptoCardSaid : Prop := Claim7.holds Tryz.pinned (.plain (OpenSpec.upto fnExactEnglishToEventSpec)) fnExactEnglishToEventUptoCard

/-- THE SECOND FORM's CARD OF 'laws.FnExactParseEvents'. -/
def fnExactParseEventsUptoCard : Claim7 := { stood := { row := fnExactParseEventsUptoRow, standIns := [], harness := (true, "91f80997ad6d79d71f30301153d66c68eb35f0b15a0cd62e0e0e802b007720f6"), looks := true }, kinds := [], alts := [], laidByText := true, laidKinds := [.data, .data, .data, .data, .sentinel, .sentinel, .pinned], laidTests := true, laidLooks := .later }
def FnExactParseEventsUptoCardSaid : Prop := Claim7.holds Tryz.pinned (.plain (OpenSpec.upto fnExactParseEventsSpec)) fnExactParseEventsUptoCard

/-- THE SECOND FORM's CARD OF 'laws.FnEventText'. -/
def fnEventTextUptoCard : Claim7 := { stood := { row := fnEventTextUptoRow, standIns := [], harness := (true, "91f80997ad6d79d71f30301153d66c68eb35f0b15a0cd62e0e0e802b007720f6"), looks := true }, kinds := [], alts := [], laidByText := true, laidKinds := [.data, .data, .data, .data, .sentinel, .sentinel, .pinned], laidTests := true, laidLooks := .later }
def FnEventTextUptoCardSaid : Prop := Claim7.holds Tryz.pinned (.plain (OpenSpec.upto fnEventTextSpec)) fnEventTextUptoCard

/-- THE SECOND FORM's CARD OF 'laws.FnExactEnglishToCondition'. -/
def fnExactEnglishToConditionUptoCard : Claim7 := { stood := { row := fnExactEnglishToConditionUptoRow, standIns := [], harness := (true, "91f80997ad6d79d71f30301153d66c68eb35f0b15a0cd62e0e0e802b007720f6"), looks := true }, kinds := [], alts := [], laidByText := true, laidKinds := [.data, .data, .data, .data, .sentinel, .sentinel, .pinned], laidTests := true, laidLooks := .later }
def FnExactEnglishToConditionUptoCardSaid : Prop := Claim7.holds Tryz.pinned (.plain (OpenSpec.upto fnExactEnglishToConditionSpec)) fnExactEnglishToConditionUptoCard
end Rows
end Go.Proofs.YtbhmeompdbokdaaGreatDoor
