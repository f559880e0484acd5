/-
  DERIVED. GIVEN WITH THE SEED: THE CARDS: each row of YtjjcemdoefigkaaDoorRows.lean that lists a variable, with what it lists TIED to the program's text (the seventh form; the later family's looks); each row that meets fmt, with fmt's text TOLD by the authors' own Lean function (tested against real Go, not proved from fmt's source: count such statements apart). THE CARD IS WHAT COUNTS. Prove the row's statement (the work); the ties are given (YtjjcemdoefigkaaDoorTie.lean); close each card by the builder's one call (the guide's Derived/Test/ToyasCard.lean, 'card_holds'). Laid BY PROGRAM, IN A SANDBOX (cutbox-door.mjs). By AI agents, Wed Nov 11 2026. No macro, syntax, notation, axiom, sorry.
-/
import Derived.Test.YtjjcemdoefigkaaDoorRows
import GoSem.ClaimSeven
namespace Go.Proofs.YtjjcemdoefigkaaDoor
namespace Rows

/-- THE TIED CARD OF 'winklelaw15.GzipNobody'. -/
def gzipNobodyCard : Claim7 := { stood := { row := gzipNobodyRow, standIns := [], harness := (true, "d103ff96f4a8ab0d6c68bc4cabb7a0b50cb19e975243080ea83da846e3b37b83"), looks := false }, kinds := [], alts := [], laidByText := true, laidKinds := [.data, .data, .data, .data, .data, .data], laidTests := true, laidLooks := .later }
def GzipNobodyCardSaid : Prop := Claim7.holds Tryd.pinned (.plain (OpenSpec.ofChange gzipNobodySpec)) gzipNobodyCard

/-- THE SECOND FORM's CARD OF 'winklelaw15.GzipNobody'. -/
def gzipNobodyUptoCard : Claim7 := { stood := { row := gzipNobodyUptoRow, standIns := [], harness := (true, "d103ff96f4a8ab0d6c68bc4cabb7a0b50cb19e975243080ea83da846e3b37b83"), looks := false }, kinds := [], alts := [], laidByText := true, laidKinds := [.data, .data, .data, .data, .data, .data], laidTests := true, laidLooks := .later }
def GzipNobodyUptoCardSaid : Prop := Claim7.holds Tryd.pinned (.plain (OpenSpec.upto gzipNobodySpec)) gzipNobodyUptoCard
end Rows
end Go.Proofs.YtjjcemdoefigkaaDoor
