/-
  DERIVED. GIVEN WITH THE SEED: THE PROGRAM's TIES (one call each: nine closed facts by the kernel) AND EACH ROW's TIE, after the 31st guide's Derived/Test/Toyas{Tie, Card}.lean. No idea stands in it: it is a product of the set-up. Laid BY PROGRAM, IN A SANDBOX (cutbox-door.mjs). By AI agents, Wed Nov 11 2026. No macro, syntax, notation, axiom, sorry.
-/
import Derived.Test.YtjjcemdoefigkaaDoorRows
import Derived.LaidByTextLater
import Derived.SevenTiedAt
import Derived.LaidSub
import Derived.LaidOnce
namespace Go.Proofs.YtjjcemdoefigkaaDoor
open Go
set_option maxRecDepth 100000
theorem seatTie1 : Tryd.prog.laidByTextLater [("winkle/crc.quarter", Rows.laid_winkle_crc_quarter), ("winkle/inflate.leastLength", Rows.laid_winkle_inflate_leastLength), ("winkle/inflate.moreLength", Rows.laid_winkle_inflate_moreLength), ("winkle/inflate.leastBack", Rows.laid_winkle_inflate_leastBack), ("winkle/inflate.moreBack", Rows.laid_winkle_inflate_moreBack), ("winkle/inflate.lengthsOrder", Rows.laid_winkle_inflate_lengthsOrder)] [.data, .data, .data, .data, .data, .data] true :=
  Program.laidByTextLater_by_one 39 8 31 (by kernel_rfl) (by kernel_rfl) (by kernel_rfl) (by kernel_rfl) (by kernel_rfl) (by kernel_rfl) (fun _ _ => by kernel_rfl)
theorem noOwnUnsafe : Tryd.pinned.checked.prog.headLifts.contains "ownunsafe" = false := by kernel_rfl
theorem tie : Tryd.prog.laidByTextLater [("winkle/crc.quarter", Rows.laid_winkle_crc_quarter), ("winkle/inflate.leastLength", Rows.laid_winkle_inflate_leastLength), ("winkle/inflate.moreLength", Rows.laid_winkle_inflate_moreLength), ("winkle/inflate.leastBack", Rows.laid_winkle_inflate_leastBack), ("winkle/inflate.moreBack", Rows.laid_winkle_inflate_moreBack), ("winkle/inflate.lengthsOrder", Rows.laid_winkle_inflate_lengthsOrder)] [.data, .data, .data, .data, .data, .data] true :=
  Program.laidByTextLater.sub seatTie1 ["winkle/crc.quarter", "winkle/inflate.leastLength", "winkle/inflate.moreLength", "winkle/inflate.leastBack", "winkle/inflate.moreBack", "winkle/inflate.lengthsOrder"] (by kernel_rfl) (by kernel_rfl)
theorem gzipNobody_row_tie : Rows.gzipNobodyRow.laidByTextAt .later Tryd.pinned [.data, .data, .data, .data, .data, .data] true :=
  OpenClaim.laidByTextAt_later rfl rfl tie noOwnUnsafe
theorem gzipNobodyUpto_row_tie : Rows.gzipNobodyUptoRow.laidByTextAt .later Tryd.pinned [.data, .data, .data, .data, .data, .data] true :=
  OpenClaim.laidByTextAt_later rfl rfl tie noOwnUnsafe
end Go.Proofs.YtjjcemdoefigkaaDoor
