/-
  DERIVED. GIVEN WITH THE SEED: THE CARDS: each row of YtkgjplamdmakpaaGreatDoorRows.lean that lists a variable, with what it lists TIED to the program's text (the seventh form; the later family's looks); each row that meets fmt, with fmt's text TOLD by the authors' own Lean function (tested against real Go, not proved from fmt's source: count such statements apart). THE CARD IS WHAT COUNTS. Prove the row's statement (the work); the ties are given (YtkgjplamdmakpaaGreatDoorTie.lean); close each card by the builder's one call (the guide's Derived/Test/ToyasCard.lean, 'card_holds'). Laid BY PROGRAM, IN A SANDBOX (cutbox-door.mjs). By AI agents, Wed Nov 11 2026. No macro, syntax, notation, axiom, sorry.
-/
import Derived.Test.YtkgjplamdmakpaaGreatDoorRows
import GoSem.ClaimSeven
namespace Go.Proofs.YtkgjplamdmakpaaGreatDoor
namespace Rows

/-- THE TIED CARD OF 'laws.FnBurdens'. -/
def fnBurdensCard : Claim7 := { stood := { row := fnBurdensRow, standIns := [], harness := (true, "5f03ff5802f1360240c50ffc91c4105258ddc25e5b2af0d20da2b72ef4b7d792"), looks := false }, kinds := [], alts := [], laidByText := true, laidKinds := [.data, .pinned], laidTests := true, laidLooks := .later }
def FnBurdensCardSaid : Prop := Claim7.holds Tryz.pinned (.plain (OpenSpec.ofChange fnBurdensSpec)) fnBurdensCard

/-- THE TIED CARD OF 'laws.FnExactDecisionOrder'. -/
def fnExactDecisionOrderCard : Claim7 := { stood := { row := fnExactDecisionOrderRow, standIns := [], harness := (true, "5f03ff5802f1360240c50ffc91c4105258ddc25e5b2af0d20da2b72ef4b7d792"), looks := false }, kinds := [], alts := [], laidByText := true, laidKinds := [.data, .pinned], laidTests := true, laidLooks := .later }
def FnExactDecisionOrderCardSaid : Prop := Claim7.holds Tryz.pinned (.plain (OpenSpec.ofChange fnExactDecisionOrderSpec)) fnExactDecisionOrderCard

/-- THE TIED CARD OF 'laws.FnDecisive'. -/
def fnDecisiveCard : Claim7 := { stood := { row := fnDecisiveRow, standIns := [], harness := (true, "5f03ff5802f1360240c50ffc91c4105258ddc25e5b2af0d20da2b72ef4b7d792"), looks := false }, kinds := [], alts := [], laidByText := true, laidKinds := [.data, .pinned], laidTests := true, laidLooks := .later }
def FnDecisiveCardSaid : Prop := Claim7.holds Tryz.pinned (.plain (OpenSpec.ofChange fnDecisiveSpec)) fnDecisiveCard

/-- THE TIED CARD OF 'laws.FnProofRules'. -/
def fnProofRulesCard : Claim7 := { stood := { row := fnProofRulesRow, standIns := [], harness := (true, "5f03ff5802f1360240c50ffc91c4105258ddc25e5b2af0d20da2b72ef4b7d792"), looks := false }, kinds := [], alts := [], laidByText := true, laidKinds := [.data, .pinned], laidTests := true, laidLooks := .later }
def FnProofRulesCardSaid : Prop := Claim7.holds Tryz.pinned (.plain (OpenSpec.ofChange fnProofRulesSpec)) fnProofRulesCard

/-- THE TIED CARD OF 'laws.FnExactWeightsOf'. -/
def fnExactWeightsOfCard : Claim7 := { stood := { row := fnExactWeightsOfRow, standIns := [], harness := (true, "5f03ff5802f1360240c50ffc91c4105258ddc25e5b2af0d20da2b72ef4b7d792"), looks := false }, kinds := [], alts := [], laidByText := true, laidKinds := [.data, .pinned], laidTests := true, laidLooks := .later }
def FnExactWeightsOfCardSaid : Prop := Claim7.holds Tryz.pinned (.plain (OpenSpec.ofChange fnExactWeightsOfSpec)) fnExactWeightsOfCard

/-- THE TIED CARD OF 'laws.FnExactFrameworkOf'. -/
def fnExactFrameworkOfCard : Claim7 := { stood := { row := fnExactFrameworkOfRow, standIns := [], harness := (true, "5f03ff5802f1360240c50ffc91c4105258ddc25e5b2af0d20da2b72ef4b7d792"), looks := false }, kinds := [], alts := [], laidByText := true, laidKinds := [.data, .pinned], laidTests := true, laidLooks := .later }
def FnExactFrameworkOfCardSaid : Prop := Claim7.holds Tryz.pinned (.plain (OpenSpec.ofChange fnExactFrameworkOfSpec)) fnExactFrameworkOfCard

/-- THE TIED CARD OF 'laws.FnExactStatusOf'. -/
def fnExactStatusOfCard : Claim7 := { stood := { row := fnExactStatusOfRow, standIns := [], harness := (true, "5f03ff5802f1360240c50ffc91c4105258ddc25e5b2af0d20da2b72ef4b7d792"), looks := false }, kinds := [], alts := [], laidByText := true, laidKinds := [.data, .pinned], laidTests := true, laidLooks := .later }
def FnExactStatusOfCardSaid : Prop := Claim7.holds Tryz.pinned (.plain (OpenSpec.ofChange fnExactStatusOfSpec)) fnExactStatusOfCard

/-- THE TIED CARD OF 'laws.FnExactNeededWeight'. -/
def fnExactNeededWeightCard : Claim7 := { stood := { row := fnExactNeededWeightRow, standIns := [], harness := (true, "5f03ff5802f1360240c50ffc91c4105258ddc25e5b2af0d20da2b72ef4b7d792"), looks := false }, kinds := [], alts := [], laidByText := true, laidKinds := [.data, .pinned], laidTests := true, laidLooks := .later }
def FnExactNeededWeightCardSaid : Prop := Claim7.holds Tryz.pinned (.plain (OpenSpec.ofChange fnExactNeededWeightSpec)) fnExactNeededWeightCard

/-- THE TIED CARD OF 'laws.FnExactAcceptedTheses'. -/
def fnExactAcceptedThesesCard : Claim7 := { stood := { row := fnExactAcceptedThesesRow, standIns := [], harness := (true, "5f03ff5802f1360240c50ffc91c4105258ddc25e5b2af0d20da2b72ef4b7d792"), looks := false }, kinds := [], alts := [], laidByText := true, laidKinds := [.data, .pinned], laidTests := true, laidLooks := .later }
def FnExactAcceptedThesesCardSaid : Prop := Claim7.holds Tryz.pinned (.plain (OpenSpec.ofChange fnExactAcceptedThesesSpec)) fnExactAcceptedThesesCard

/-- THE TIED CARD OF 'laws.FnExactApplicableRules'. -/
def fnExactApplicableRulesCard : Claim7 := { stood := { row := fnExactApplicableRulesRow, standIns := [], harness := (true, "5f03ff5802f1360240c50ffc91c4105258ddc25e5b2af0d20da2b72ef4b7d792"), looks := false }, kinds := [], alts := [], laidByText := true, laidKinds := [.data, .pinned], laidTests := true, laidLooks := .later }
def FnExactApplicableRulesCardSaid : Prop := Claim7.holds Tryz.pinned (.plain (OpenSpec.ofChange fnExactApplicableRulesSpec)) fnExactApplicableRulesCard

/-- THE TIED CARD OF 'laws.FnExactDecisiveFacts'. -/
def fnExactDecisiveFactsCard : Claim7 := { stood := { row := fnExactDecisiveFactsRow, standIns := [], harness := (true, "5f03ff5802f1360240c50ffc91c4105258ddc25e5b2af0d20da2b72ef4b7d792"), looks := false }, kinds := [], alts := [], laidByText := true, laidKinds := [.data, .pinned], laidTests := true, laidLooks := .later }
def FnExactDecisiveFactsCardSaid : Prop := Claim7.holds Tryz.pinned (.plain (OpenSpec.ofChange fnExactDecisiveFactsSpec)) fnExactDecisiveFactsCard

/-- THE SECOND FORM's CARD OF 'laws.FnBurdens'. -/
def fnBurdensUptoCard : Claim7 := { stood := { row := fnBurdensUptoRow, standIns := [], harness := (true, "5f03ff5802f1360240c50ffc91c4105258ddc25e5b2af0d20da2b72ef4b7d792"), looks := false }, kinds := [], alts := [], laidByText := true, laidKinds := [.data, .pinned], laidTests := true, laidLooks := .later }
def FnBurdensUptoCardSaid : Prop := Claim7.holds Tryz.pinned (.plain (OpenSpec.upto fnBurdensSpec)) fnBurdensUptoCard

/-- THE SECOND FORM's CARD OF 'laws.FnExactDecisionOrder'. -/
def fnExactDecisionOrderUptoCard : Claim7 := { stood := { row := fnExactDecisionOrderUptoRow, standIns := [], harness := (true, "5f03ff5802f1360240c50ffc91c4105258ddc25e5b2af0d20da2b72ef4b7d792"), looks := false }, kinds := [], alts := [], laidByText := true, laidKinds := [.data, .pinned], laidTests := true, laidLooks := .later }
def FnExactDecisionOrderUptoCardSaid : Prop := Claim7.holds Tryz.pinned (.plain (OpenSpec.upto fnExactDecisionOrderSpec)) fnExactDecisionOrderUptoCard

/-- THE SECOND FORM's CARD OF 'laws.FnDecisive'. -/
def fnDecisiveUptoCard : Claim7 := { stood := { row := fnDecisiveUptoRow, standIns := [], harness := (true, "5f03ff5802f1360240c50ffc91c4105258ddc25e5b2af0d20da2b72ef4b7d792"), looks := false }, kinds := [], alts := [], laidByText := true, laidKinds := [.data, .pinned], laidTests := true, laidLooks := .later }
def FnDecisiveUptoCardSaid : Prop := Claim7.holds Tryz.pinned (.plain (OpenSpec.upto fnDecisiveSpec)) fnDecisiveUptoCard

/-- THE SECOND FORM's CARD OF 'laws.FnProofRules'. -/
def fnProofRulesUptoCard : Claim7 := { stood := { row := fnProofRulesUptoRow, standIns := [], harness := (true, "5f03ff5802f1360240c50ffc91c4105258ddc25e5b2af0d20da2b72ef4b7d792"), looks := false }, kinds := [], alts := [], laidByText := true, laidKinds := [.data, .pinned], laidTests := true, laidLooks := .later }
def FnProofRulesUptoCardSaid : Prop := Claim7.holds Tryz.pinned (.plain (OpenSpec.upto fnProofRulesSpec)) fnProofRulesUptoCard

/-- THE SECOND FORM's CARD OF 'laws.FnExactWeightsOf'. -/
def fnExactWeightsOfUptoCard : Claim7 := { stood := { row := fnExactWeightsOfUptoRow, standIns := [], harness := (true, "5f03ff5802f1360240c50ffc91c4105258ddc25e5b2af0d20da2b72ef4b7d792"), looks := false }, kinds := [], alts := [], laidByText := true, laidKinds := [.data, .pinned], laidTests := true, laidLooks := .later }
def FnExactWeightsOfUptoCardSaid : Prop := Claim7.holds Tryz.pinned (.plain (OpenSpec.upto fnExactWeightsOfSpec)) fnExactWeightsOfUptoCard

/-- THE SECOND FORM's CARD OF 'laws.FnExactFrameworkOf'. -/
def fnExactFrameworkOfUptoCard : Claim7 := { stood := { row := fnExactFrameworkOfUptoRow, standIns := [], harness := (true, "5f03ff5802f1360240c50ffc91c4105258ddc25e5b2af0d20da2b72ef4b7d792"), looks := false }, kinds := [], alts := [], laidByText := true, laidKinds := [.data, .pinned], laidTests := true, laidLooks := .later }
def FnExactFrameworkOfUptoCardSaid : Prop := Claim7.holds Tryz.pinned (.plain (OpenSpec.upto fnExactFrameworkOfSpec)) fnExactFrameworkOfUptoCard

/-- THE SECOND FORM's CARD OF 'laws.FnExactStatusOf'. -/
def fnExactStatusOfUptoCard : Claim7 := { stood := { row := fnExactStatusOfUptoRow, standIns := [], harness := (true, "5f03ff5802f1360240c50ffc91c4105258ddc25e5b2af0d20da2b72ef4b7d792"), looks := false }, kinds := [], alts := [], laidByText := true, laidKinds := [.data, .pinned], laidTests := true, laidLooks := .later }
def FnExactStatusOfUptoCardSaid : Prop := Claim7.holds Tryz.pinned (.plain (OpenSpec.upto fnExactStatusOfSpec)) fnExactStatusOfUptoCard

/-- THE SECOND FORM's CARD OF 'laws.FnExactNeededWeight'. -/
def fnExactNeededWeightUptoCard : Claim7 := { stood := { row := fnExactNeededWeightUptoRow, standIns := [], harness := (true, "5f03ff5802f1360240c50ffc91c4105258ddc25e5b2af0d20da2b72ef4b7d792"), looks := false }, kinds := [], alts := [], laidByText := true, laidKinds := [.data, .pinned], laidTests := true, laidLooks := .later }
def FnExactNeededWeightUptoCardSaid : Prop := Claim7.holds Tryz.pinned (.plain (OpenSpec.upto fnExactNeededWeightSpec)) fnExactNeededWeightUptoCard

/-- THE SECOND FORM's CARD OF 'laws.FnExactAcceptedTheses'. -/
def fnExactAcceptedThesesUptoCard : Claim7 := { stood := { row := fnExactAcceptedThesesUptoRow, standIns := [], harness := (true, "5f03ff5802f1360240c50ffc91c4105258ddc25e5b2af0d20da2b72ef4b7d792"), looks := false }, kinds := [], alts := [], laidByText := true, laidKinds := [.data, .pinned], laidTests := true, laidLooks := .later }
def FnExactAcceptedThesesUptoCardSaid : Prop := Claim7.holds Tryz.pinned (.plain (OpenSpec.upto fnExactAcceptedThesesSpec)) fnExactAcceptedThesesUptoCard

/-- THE SECOND FORM's CARD OF 'laws.FnExactApplicableRules'. -/
def fnExactApplicableRulesUptoCard : Claim7 := { stood := { row := fnExactApplicableRulesUptoRow, standIns := [], harness := (true, "5f03ff5802f1360240c50ffc91c4105258ddc25e5b2af0d20da2b72ef4b7d792"), looks := false }, kinds := [], alts := [], laidByText := true, laidKinds := [.data, .pinned], laidTests := true, laidLooks := .later }
def FnExactApplicableRulesUptoCardSaid : Prop := Claim7.holds Tryz.pinned (.plain (OpenSpec.upto fnExactApplicableRulesSpec)) fnExactApplicableRulesUptoCard

/-- THE SECOND FORM's CARD OF 'laws.FnExactDecisiveFacts'. -/
def fnExactDecisiveFactsUptoCard : Claim7 := { stood := { row := fnExactDecisiveFactsUptoRow, standIns := [], harness := (true, "5f03ff5802f1360240c50ffc91c4105258ddc25e5b2af0d20da2b72ef4b7d792"), looks := false }, kinds := [], alts := [], laidByText := true, laidKinds := [.data, .pinned], laidTests := true, laidLooks := .later }
def FnExactDecisiveFactsUptoCardSaid : Prop := Claim7.holds Tryz.pinned (.plain (OpenSpec.upto fnExactDecisiveFactsSpec)) fnExactDecisiveFactsUptoCard
end Rows
end Go.Proofs.YtkgjplamdmakpaaGreatDoor
