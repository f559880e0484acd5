/-
  DERIVED. GIVEN WITH THE SEED: THE PROGRAM's TIES (one call each: nine closed facts by the kernel) AND EACH ROW's TIE, after the 31st guide's Derived/Test/Toyas{Tie, Card}.lean. No idea stands in it: it is a product of the set-up. Laid BY PROGRAM, IN A SANDBOX (cutbox-door.mjs). By AI agents, Wed Nov 11 2026. No macro, syntax, notation, axiom, sorry.
-/
import Derived.Test.YtdpnlmofkkdioaaDoorRows
import Derived.LaidByTextLater
import Derived.SevenTiedAt
import Derived.LaidSub
import Derived.LaidOnce
namespace Go.Proofs.YtdpnlmofkkdioaaDoor
open Go
set_option maxRecDepth 100000
theorem seatTie1 : Tryd.prog.laidByTextLater [("winkle/inflate.leastLength", Rows.laid_winkle_inflate_leastLength), ("winkle/inflate.moreLength", Rows.laid_winkle_inflate_moreLength), ("winkle/inflate.leastBack", Rows.laid_winkle_inflate_leastBack), ("winkle/inflate.moreBack", Rows.laid_winkle_inflate_moreBack), ("winkle/inflate.lengthsOrder", Rows.laid_winkle_inflate_lengthsOrder)] [.data, .data, .data, .data, .data] true :=
  Program.laidByTextLater_by_one 34 8 31 (by kernel_rfl) (by kernel_rfl) (by kernel_rfl) (by kernel_rfl) (by kernel_rfl) (by kernel_rfl) (fun _ _ => by kernel_rfl)
theorem noOwnUnsafe : Tryd.pinned.checked.prog.headLifts.contains "ownunsafe" = false := by kernel_rfl
theorem tie : Tryd.prog.laidByTextLater [("winkle/inflate.leastLength", Rows.laid_winkle_inflate_leastLength), ("winkle/inflate.moreLength", Rows.laid_winkle_inflate_moreLength), ("winkle/inflate.leastBack", Rows.laid_winkle_inflate_leastBack), ("winkle/inflate.moreBack", Rows.laid_winkle_inflate_moreBack), ("winkle/inflate.lengthsOrder", Rows.laid_winkle_inflate_lengthsOrder)] [.data, .data, .data, .data, .data] true :=
  Program.laidByTextLater.sub seatTie1 ["winkle/inflate.leastLength", "winkle/inflate.moreLength", "winkle/inflate.leastBack", "winkle/inflate.moreBack", "winkle/inflate.lengthsOrder"] (by kernel_rfl) (by kernel_rfl)
theorem inflateWhole_row_tie : Rows.inflateWholeRow.laidByTextAt .later Tryd.pinned [.data, .data, .data, .data, .data] true :=
  OpenClaim.laidByTextAt_later rfl rfl tie noOwnUnsafe
theorem inflateSteps_row_tie : Rows.inflateStepsRow.laidByTextAt .later Tryd.pinned [.data, .data, .data, .data, .data] true :=
  OpenClaim.laidByTextAt_later rfl rfl tie noOwnUnsafe
theorem inflatePlays_row_tie : Rows.inflatePlaysRow.laidByTextAt .later Tryd.pinned [.data, .data, .data, .data, .data] true :=
  OpenClaim.laidByTextAt_later rfl rfl tie noOwnUnsafe
theorem inflateNobody_row_tie : Rows.inflateNobodyRow.laidByTextAt .later Tryd.pinned [.data, .data, .data, .data, .data] true :=
  OpenClaim.laidByTextAt_later rfl rfl tie noOwnUnsafe
theorem inflateBack_row_tie : Rows.inflateBackRow.laidByTextAt .later Tryd.pinned [.data, .data, .data, .data, .data] true :=
  OpenClaim.laidByTextAt_later rfl rfl tie noOwnUnsafe
theorem inflateCuts_row_tie : Rows.inflateCutsRow.laidByTextAt .later Tryd.pinned [.data, .data, .data, .data, .data] true :=
  OpenClaim.laidByTextAt_later rfl rfl tie noOwnUnsafe
theorem inflateLess_row_tie : Rows.inflateLessRow.laidByTextAt .later Tryd.pinned [.data, .data, .data, .data, .data] true :=
  OpenClaim.laidByTextAt_later rfl rfl tie noOwnUnsafe
theorem inflateWholeUpto_row_tie : Rows.inflateWholeUptoRow.laidByTextAt .later Tryd.pinned [.data, .data, .data, .data, .data] true :=
  OpenClaim.laidByTextAt_later rfl rfl tie noOwnUnsafe
theorem inflateStepsUpto_row_tie : Rows.inflateStepsUptoRow.laidByTextAt .later Tryd.pinned [.data, .data, .data, .data, .data] true :=
  OpenClaim.laidByTextAt_later rfl rfl tie noOwnUnsafe
theorem inflatePlaysUpto_row_tie : Rows.inflatePlaysUptoRow.laidByTextAt .later Tryd.pinned [.data, .data, .data, .data, .data] true :=
  OpenClaim.laidByTextAt_later rfl rfl tie noOwnUnsafe
theorem inflateNobodyUpto_row_tie : Rows.inflateNobodyUptoRow.laidByTextAt .later Tryd.pinned [.data, .data, .data, .data, .data] true :=
  OpenClaim.laidByTextAt_later rfl rfl tie noOwnUnsafe
theorem inflateBackUpto_row_tie : Rows.inflateBackUptoRow.laidByTextAt .later Tryd.pinned [.data, .data, .data, .data, .data] true :=
  OpenClaim.laidByTextAt_later rfl rfl tie noOwnUnsafe
theorem inflateCutsUpto_row_tie : Rows.inflateCutsUptoRow.laidByTextAt .later Tryd.pinned [.data, .data, .data, .data, .data] true :=
  OpenClaim.laidByTextAt_later rfl rfl tie noOwnUnsafe
theorem inflateLessUpto_row_tie : Rows.inflateLessUptoRow.laidByTextAt .later Tryd.pinned [.data, .data, .data, .data, .data] true :=
  OpenClaim.laidByTextAt_later rfl rfl tie noOwnUnsafe
end Go.Proofs.YtdpnlmofkkdioaaDoor
