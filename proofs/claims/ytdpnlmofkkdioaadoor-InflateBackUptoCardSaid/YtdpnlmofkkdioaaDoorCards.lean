/-
  DERIVED. GIVEN WITH THE SEED: THE CARDS: each row of YtdpnlmofkkdioaaDoorRows.lean that lists a variable, with what it lists TIED to the program's text (the seventh form; the later family's looks); each row that meets fmt, with fmt's text TOLD by the authors' own Lean function (tested against real Go, not proved from fmt's source: count such statements apart). THE CARD IS WHAT COUNTS. Prove the row's statement (the work); the ties are given (YtdpnlmofkkdioaaDoorTie.lean); close each card by the builder's one call (the guide's Derived/Test/ToyasCard.lean, 'card_holds'). Laid BY PROGRAM, IN A SANDBOX (cutbox-door.mjs). By AI agents, Wed Nov 11 2026. No macro, syntax, notation, axiom, sorry.
-/
import Derived.Test.YtdpnlmofkkdioaaDoorRows
import GoSem.ClaimSeven
namespace Go.Proofs.YtdpnlmofkkdioaaDoor
namespace Rows

/-- THE TIED CARD OF 'winklelaw09.InflateWhole'. -/
def inflateWholeCard : Claim7 := { stood := { row := inflateWholeRow, standIns := [], harness := (true, "d736dd0db25e2842142ddd72d0e0d73c5c1198a2466adbbc2e5f261f42df43f6"), looks := false }, kinds := [], alts := [], laidByText := true, laidKinds := [.data, .data, .data, .data, .data], laidTests := true, laidLooks := .later }
def InflateWholeCardSaid : Prop := Claim7.holds Tryd.pinned (.plain (OpenSpec.ofChange inflateWholeSpec)) inflateWholeCard

/-- THE TIED CARD OF 'winklelaw09.InflateSteps'. -/
def inflateStepsCard : Claim7 := { stood := { row := inflateStepsRow, standIns := [], harness := (true, "d736dd0db25e2842142ddd72d0e0d73c5c1198a2466adbbc2e5f261f42df43f6"), looks := false }, kinds := [], alts := [], laidByText := true, laidKinds := [.data, .data, .data, .data, .data], laidTests := true, laidLooks := .later }
def InflateStepsCardSaid : Prop := Claim7.holds Tryd.pinned (.plain (OpenSpec.ofChange inflateStepsSpec)) inflateStepsCard

/-- THE TIED CARD OF 'winklelaw09.InflatePlays'. -/
def inflatePlaysCard : Claim7 := { stood := { row := inflatePlaysRow, standIns := [], harness := (true, "d736dd0db25e2842142ddd72d0e0d73c5c1198a2466adbbc2e5f261f42df43f6"), looks := false }, kinds := [], alts := [], laidByText := true, laidKinds := [.data, .data, .data, .data, .data], laidTests := true, laidLooks := .later }
def InflatePlaysCardSaid : Prop := Claim7.holds Tryd.pinned (.plain (OpenSpec.ofChange inflatePlaysSpec)) inflatePlaysCard

/-- THE TIED CARD OF 'winklelaw09.InflateNobody'. -/
def inflateNobodyCard : Claim7 := { stood := { row := inflateNobodyRow, standIns := [], harness := (true, "d736dd0db25e2842142ddd72d0e0d73c5c1198a2466adbbc2e5f261f42df43f6"), looks := false }, kinds := [], alts := [], laidByText := true, laidKinds := [.data, .data, .data, .data, .data], laidTests := true, laidLooks := .later }
def InflateNobodyCardSaid : Prop := Claim7.holds Tryd.pinned (.plain (OpenSpec.ofChange inflateNobodySpec)) inflateNobodyCard

/-- THE TIED CARD OF 'winklelaw09.InflateBack'. -/
def inflateBackCard : Claim7 := { stood := { row := inflateBackRow, standIns := [], harness := (true, "d736dd0db25e2842142ddd72d0e0d73c5c1198a2466adbbc2e5f261f42df43f6"), looks := false }, kinds := [], alts := [], laidByText := true, laidKinds := [.data, .data, .data, .data, .data], laidTests := true, laidLooks := .later }
def InflateBackCardSaid : Prop := Claim7.holds Tryd.pinned (.plain (OpenSpec.ofChange inflateBackSpec)) inflateBackCard

/-- THE TIED CARD OF 'winklelaw09.InflateCuts'. -/
def inflateCutsCard : Claim7 := { stood := { row := inflateCutsRow, standIns := [], harness := (true, "d736dd0db25e2842142ddd72d0e0d73c5c1198a2466adbbc2e5f261f42df43f6"), looks := false }, kinds := [], alts := [], laidByText := true, laidKinds := [.data, .data, .data, .data, .data], laidTests := true, laidLooks := .later }
def InflateCutsCardSaid : Prop := Claim7.holds Tryd.pinned (.plain (OpenSpec.ofChange inflateCutsSpec)) inflateCutsCard

/-- THE TIED CARD OF 'winklelaw09.InflateLess'. -/
def inflateLessCard : Claim7 := { stood := { row := inflateLessRow, standIns := [], harness := (true, "d736dd0db25e2842142ddd72d0e0d73c5c1198a2466adbbc2e5f261f42df43f6"), looks := false }, kinds := [], alts := [], laidByText := true, laidKinds := [.data, .data, .data, .data, .data], laidTests := true, laidLooks := .later }
def InflateLessCardSaid : Prop := Claim7.holds Tryd.pinned (.plain (OpenSpec.ofChange inflateLessSpec)) inflateLessCard

/-- THE SECOND FORM's CARD OF 'winklelaw09.InflateWhole'. -/
def inflateWholeUptoCard : Claim7 := { stood := { row := inflateWholeUptoRow, standIns := [], harness := (true, "d736dd0db25e2842142ddd72d0e0d73c5c1198a2466adbbc2e5f261f42df43f6"), looks := false }, kinds := [], alts := [], laidByText := true, laidKinds := [.data, .data, .data, .data, .data], laidTests := true, laidLooks := .later }
def InflateWholeUptoCardSaid : Prop := Claim7.holds Tryd.pinned (.plain (OpenSpec.upto inflateWholeSpec)) inflateWholeUptoCard

/-- THE SECOND FORM's CARD OF 'winklelaw09.InflateSteps'. -/
def inflateStepsUptoCard : Claim7 := { stood := { row := inflateStepsUptoRow, standIns := [], harness := (true, "d736dd0db25e2842142ddd72d0e0d73c5c1198a2466adbbc2e5f261f42df43f6"), looks := false }, kinds := [], alts := [], laidByText := true, laidKinds := [.data, .data, .data, .data, .data], laidTests := true, laidLooks := .later }
def InflateStepsUptoCardSaid : Prop := Claim7.holds Tryd.pinned (.plain (OpenSpec.upto inflateStepsSpec)) inflateStepsUptoCard

/-- THE SECOND FORM's CARD OF 'winklelaw09.InflatePlays'. -/
def inflatePlaysUptoCard : Claim7 := { stood := { row := inflatePlaysUptoRow, standIns := [], harness := (true, "d736dd0db25e2842142ddd72d0e0d73c5c1198a2466adbbc2e5f261f42df43f6"), looks := false }, kinds := [], alts := [], laidByText := true, laidKinds := [.data, .data, .data, .data, .data], laidTests := true, laidLooks := .later }
def InflatePlaysUptoCardSaid : Prop := Claim7.holds Tryd.pinned (.plain (OpenSpec.upto inflatePlaysSpec)) inflatePlaysUptoCard

/-- THE SECOND FORM's CARD OF 'winklelaw09.InflateNobody'. -/
def inflateNobodyUptoCard : Claim7 := { stood := { row := inflateNobodyUptoRow, standIns := [], harness := (true, "d736dd0db25e2842142ddd72d0e0d73c5c1198a2466adbbc2e5f261f42df43f6"), looks := false }, kinds := [], alts := [], laidByText := true, laidKinds := [.data, .data, .data, .data, .data], laidTests := true, laidLooks := .later }
def InflateNobodyUptoCardSaid : Prop := Claim7.holds Tryd.pinned (.plain (OpenSpec.upto inflateNobodySpec)) inflateNobodyUptoCard

/-- THE SECOND FORM's CARD OF 'winklelaw09.InflateBack'. -/
def inflateBackUptoCard : Claim7 := { stood := { row := inflateBackUptoRow, standIns := [], harness := (true, "d736dd0db25e2842142ddd72d0e0d73c5c1198a2466adbbc2e5f261f42df43f6"), looks := false }, kinds := [], alts := [], laidByText := true, laidKinds := [.data, .data, .data, .data, .data], laidTests := true, laidLooks := .later }
def InflateBackUptoCardSaid : Prop := Claim7.holds Tryd.pinned (.plain (OpenSpec.upto inflateBackSpec)) inflateBackUptoCard

/-- THE SECOND FORM's CARD OF 'winklelaw09.InflateCuts'. -/
def inflateCutsUptoCard : Claim7 := { stood := { row := inflateCutsUptoRow, standIns := [], harness := (true, "d736dd0db25e2842142ddd72d0e0d73c5c1198a2466adbbc2e5f261f42df43f6"), looks := false }, kinds := [], alts := [], laidByText := true, laidKinds := [.data, .data, .data, .data, .data], laidTests := true, laidLooks := .later }
def InflateCutsUptoCardSaid : Prop := Claim7.holds Tryd.pinned (.plain (OpenSpec.upto inflateCutsSpec)) inflateCutsUptoCard

/-- THE SECOND FORM's CARD OF 'winklelaw09.InflateLess'. -/
def inflateLessUptoCard : Claim7 := { stood := { row := inflateLessUptoRow, standIns := [], harness := (true, "d736dd0db25e2842142ddd72d0e0d73c5c1198a2466adbbc2e5f261f42df43f6"), looks := false }, kinds := [], alts := [], laidByText := true, laidKinds := [.data, .data, .data, .data, .data], laidTests := true, laidLooks := .later }
def InflateLessUptoCardSaid : Prop := Claim7.holds Tryd.pinned (.plain (OpenSpec.upto inflateLessSpec)) inflateLessUptoCard
end Rows
end Go.Proofs.YtdpnlmofkkdioaaDoor
