/-
  DERIVED. GIVEN WITH THE SEED: THE CARDS: each row of YtgjningfpkoooaaDoorRows.lean that lists a variable, with what it lists TIED to the program's text (the seventh form; the later family's looks); each row that meets fmt, with fmt's text TOLD by the authors' own Lean function (tested against real Go, not proved from fmt's source: count such statements apart). THE CARD IS WHAT COUNTS. Prove the row's statement (the work); the ties are given (YtgjningfpkoooaaDoorTie.lean); close each card by the builder's one call (the guide's Derived/Test/ToyasCard.lean, 'card_holds'). Laid BY PROGRAM, IN A SANDBOX (cutbox-door.mjs). By AI agents, Wed Nov 11 2026. No macro, syntax, notation, axiom, sorry.
-/
import Derived.Test.YtgjningfpkoooaaDoorRows
import GoSem.ClaimSeven
namespace Go.Proofs.YtgjningfpkoooaaDoor
namespace Rows

/-- THE TIED CARD OF 'winklelaw20.RouteTexts'. -/
def routeTextsCard : Claim7 := { stood := { row := routeTextsRow, standIns := [], harness := (true, "e9e8bc6adbd9b6002ada116a13a34a76069099103415afcf3aaa2ebcff561d29"), looks := true }, kinds := [], alts := [], laidByText := true, laidKinds := [.data, .data, .data, .data, .sentinel, .sentinel, .pinned], laidTests := true, laidLooks := .later }
def RouteTextsCardSaid : Prop := Claim7.holds Tryd.pinned (.plain (OpenSpec.ofChange routeTextsSpec)) routeTextsCard

/-- THE TIED CARD OF 'winklelaw20.RouteBack'. -/
def routeBackCard : Claim7 := { stood := { row := routeBackRow, standIns := [], harness := (true, "e9e8bc6adbd9b6002ada116a13a34a76069099103415afcf3aaa2ebcff561d29"), looks := true }, kinds := [], alts := [], laidByText := true, laidKinds := [.data, .data, .data, .data, .sentinel, .sentinel, .pinned], laidTests := true, laidLooks := .later }
def RouteBackCardSaid : Prop := Claim7.holds Tryd.pinned (.plain (OpenSpec.ofChange routeBackSpec)) routeBackCard

/-- THE TIED CARD OF 'winklelaw20.RouteOrders'. -/
def routeOrdersCard : Claim7 := { stood := { row := routeOrdersRow, standIns := [], harness := (true, "e9e8bc6adbd9b6002ada116a13a34a76069099103415afcf3aaa2ebcff561d29"), looks := true }, kinds := [], alts := [], laidByText := true, laidKinds := [.data, .data, .data, .data, .sentinel, .sentinel, .pinned], laidTests := true, laidLooks := .later }
def RouteOrdersCardSaid : Prop := Claim7.holds Tryd.pinned (.plain (OpenSpec.ofChange routeOrdersSpec)) routeOrdersCard

/-- THE TIED CARD OF 'winklelaw20.RouteStands'. -/
def routeStandsCard : Claim7 := { stood := { row := routeStandsRow, standIns := [], harness := (true, "e9e8bc6adbd9b6002ada116a13a34a76069099103415afcf3aaa2ebcff561d29"), looks := true }, kinds := [], alts := [], laidByText := true, laidKinds := [.data, .data, .data, .data, .sentinel, .sentinel, .pinned], laidTests := true, laidLooks := .later }
def RouteStandsCardSaid : Prop := Claim7.holds Tryd.pinned (.plain (OpenSpec.ofChange routeStandsSpec)) routeStandsCard

/-- THE TIED CARD OF 'winklelaw20.RouteUnder'. -/
def routeUnderCard : Claim7 := { stood := { row := routeUnderRow, standIns := [], harness := (true, "e9e8bc6adbd9b6002ada116a13a34a76069099103415afcf3aaa2ebcff561d29"), looks := true }, kinds := [], alts := [], laidByText := true, laidKinds := [.data, .data, .data, .data, .sentinel, .sentinel, .pinned], laidTests := true, laidLooks := .later }
def RouteUnderCardSaid : Prop := Claim7.holds Tryd.pinned (.plain (OpenSpec.ofChange routeUnderSpec)) routeUnderCard

/-- THE TIED CARD OF 'winklelaw22.ReportTexts'. -/
def reportTextsCard : Claim7 := { stood := { row := reportTextsRow, standIns := [], harness := (true, "e9e8bc6adbd9b6002ada116a13a34a76069099103415afcf3aaa2ebcff561d29"), looks := true }, kinds := [], alts := [], laidByText := true, laidKinds := [.data, .data, .data, .data, .sentinel, .sentinel, .pinned], laidTests := true, laidLooks := .later }
def ReportTextsCardSaid : Prop := Claim7.holds Tryd.pinned (.plain (OpenSpec.ofChange reportTextsSpec)) reportTextsCard

/-- THE TIED CARD OF 'winklelaw22.ReportReads'. -/
def reportReadsCard : Claim7 := { stood := { row := reportReadsRow, standIns := [], harness := (true, "e9e8bc6adbd9b6002ada116a13a34a76069099103415afcf3aaa2ebcff561d29"), looks := true }, kinds := [], alts := [], laidByText := true, laidKinds := [.data, .data, .data, .data, .sentinel, .sentinel, .pinned], laidTests := true, laidLooks := .later }
def ReportReadsCardSaid : Prop := Claim7.holds Tryd.pinned (.plain (OpenSpec.ofChange reportReadsSpec)) reportReadsCard

/-- THE TIED CARD OF 'winklelaw22.ReportBack'. -/
def reportBackCard : Claim7 := { stood := { row := reportBackRow, standIns := [], harness := (true, "e9e8bc6adbd9b6002ada116a13a34a76069099103415afcf3aaa2ebcff561d29"), looks := true }, kinds := [], alts := [], laidByText := true, laidKinds := [.data, .data, .data, .data, .sentinel, .sentinel, .pinned], laidTests := true, laidLooks := .later }
def ReportBackCardSaid : Prop := Claim7.holds Tryd.pinned (.plain (OpenSpec.ofChange reportBackSpec)) reportBackCard

/-- THE TIED CARD OF 'winklelaw22.ReportSames'. -/
def reportSamesCard : Claim7 := { stood := { row := reportSamesRow, standIns := [], harness := (true, "e9e8bc6adbd9b6002ada116a13a34a76069099103415afcf3aaa2ebcff561d29"), looks := true }, kinds := [], alts := [], laidByText := true, laidKinds := [.data, .data, .data, .data, .sentinel, .sentinel, .pinned], laidTests := true, laidLooks := .later }
def ReportSamesCardSaid : Prop := Claim7.holds Tryd.pinned (.plain (OpenSpec.ofChange reportSamesSpec)) reportSamesCard

/-- THE SECOND FORM's CARD OF 'winklelaw20.RouteTexts'. -/
def routeTextsUptoCard : Claim7 := { stood := { row := routeTextsUptoRow, standIns := [], harness := (true, "e9e8bc6adbd9b6002ada116a13a34a76069099103415afcf3aaa2ebcff561d29"), looks := true }, kinds := [], alts := [], laidByText := true, laidKinds := [.data, .data, .data, .data, .sentinel, .sentinel, .pinned], laidTests := true, laidLooks := .later }
def RouteTextsUptoCardSaid : Prop := Claim7.holds Tryd.pinned (.plain (OpenSpec.upto routeTextsSpec)) routeTextsUptoCard

/-- THE SECOND FORM's CARD OF 'winklelaw20.RouteBack'. -/
def routeBackUptoCard : Claim7 := { stood := { row := routeBackUptoRow, standIns := [], harness := (true, "e9e8bc6adbd9b6002ada116a13a34a76069099103415afcf3aaa2ebcff561d29"), looks := true }, kinds := [], alts := [], laidByText := true, laidKinds := [.data, .data, .data, .data, .sentinel, .sentinel, .pinned], laidTests := true, laidLooks := .later }
def RouteBackUptoCardSaid : Prop := Claim7.holds Tryd.pinned (.plain (OpenSpec.upto routeBackSpec)) routeBackUptoCard

/-- THE SECOND FORM's CARD OF 'winklelaw20.RouteOrders'. -/
def routeOrdersUptoCard : Claim7 := { stood := { row := routeOrdersUptoRow, standIns := [], harness := (true, "e9e8bc6adbd9b6002ada116a13a34a76069099103415afcf3aaa2ebcff561d29"), looks := true }, kinds := [], alts := [], laidByText := true, laidKinds := [.data, .data, .data, .data, .sentinel, .sentinel, .pinned], laidTests := true, laidLooks := .later }
def RouteOrdersUptoCardSaid : Prop := Claim7.holds Tryd.pinned (.plain (OpenSpec.upto routeOrdersSpec)) routeOrdersUptoCard

/-- THE SECOND FORM's CARD OF 'winklelaw20.RouteStands'. -/
def routeStandsUptoCard : Claim7 := { stood := { row := routeStandsUptoRow, standIns := [], harness := (true, "e9e8bc6adbd9b6002ada116a13a34a76069099103415afcf3aaa2ebcff561d29"), looks := true }, kinds := [], alts := [], laidByText := true, laidKinds := [.data, .data, .data, .data, .sentinel, .sentinel, .pinned], laidTests := true, laidLooks := .later }
def RouteStandsUptoCardSaid : Prop := Claim7.holds Tryd.pinned (.plain (OpenSpec.upto routeStandsSpec)) routeStandsUptoCard

/-- THE SECOND FORM's CARD OF 'winklelaw20.RouteUnder'. -/
def routeUnderUptoCard : Claim7 := { stood := { row := routeUnderUptoRow, standIns := [], harness := (true, "e9e8bc6adbd9b6002ada116a13a34a76069099103415afcf3aaa2ebcff561d29"), looks := true }, kinds := [], alts := [], laidByText := true, laidKinds := [.data, .data, .data, .data, .sentinel, .sentinel, .pinned], laidTests := true, laidLooks := .later }
def RouteUnderUptoCardSaid : Prop := Claim7.holds Tryd.pinned (.plain (OpenSpec.upto routeUnderSpec)) routeUnderUptoCard

/-- THE SECOND FORM's CARD OF 'winklelaw22.ReportTexts'. -/
def reportTextsUptoCard : Claim7 := { stood := { row := reportTextsUptoRow, standIns := [], harness := (true, "e9e8bc6adbd9b6002ada116a13a34a76069099103415afcf3aaa2ebcff561d29"), looks := true }, kinds := [], alts := [], laidByText := true, laidKinds := [.data, .data, .data, .data, .sentinel, .sentinel, .pinned], laidTests := true, laidLooks := .later }
def ReportTextsUptoCardSaid : Prop := Claim7.holds Tryd.pinned (.plain (OpenSpec.upto reportTextsSpec)) reportTextsUptoCard

/-- THE SECOND FORM's CARD OF 'winklelaw22.ReportReads'. -/
def reportReadsUptoCard : Claim7 := { stood := { row := reportReadsUptoRow, standIns := [], harness := (true, "e9e8bc6adbd9b6002ada116a13a34a76069099103415afcf3aaa2ebcff561d29"), looks := true }, kinds := [], alts := [], laidByText := true, laidKinds := [.data, .data, .data, .data, .sentinel, .sentinel, .pinned], laidTests := true, laidLooks := .later }
def ReportReadsUptoCardSaid : Prop := Claim7.holds Tryd.pinned (.plain (OpenSpec.upto reportReadsSpec)) reportReadsUptoCard

/-- THE SECOND FORM's CARD OF 'winklelaw22.ReportBack'. -/
def reportBackUptoCard : Claim7 := { stood := { row := reportBackUptoRow, standIns := [], harness := (true, "e9e8bc6adbd9b6002ada116a13a34a76069099103415afcf3aaa2ebcff561d29"), looks := true }, kinds := [], alts := [], laidByText := true, laidKinds := [.data, .data, .data, .data, .sentinel, .sentinel, .pinned], laidTests := true, laidLooks := .later }
def ReportBackUptoCardSaid : Prop := Claim7.holds Tryd.pinned (.plain (OpenSpec.upto reportBackSpec)) reportBackUptoCard

/-- THE SECOND FORM's CARD OF 'winklelaw22.ReportSames'. -/
def reportSamesUptoCard : Claim7 := { stood := { row := reportSamesUptoRow, standIns := [], harness := (true, "e9e8bc6adbd9b6002ada116a13a34a76069099103415afcf3aaa2ebcff561d29"), looks := true }, kinds := [], alts := [], laidByText := true, laidKinds := [.data, .data, .data, .data, .sentinel, .sentinel, .pinned], laidTests := true, laidLooks := .later }
def ReportSamesUptoCardSaid : Prop := Claim7.holds Tryd.pinned (.plain (OpenSpec.upto reportSamesSpec)) reportSamesUptoCard
end Rows
end Go.Proofs.YtgjningfpkoooaaDoor
