/-
  No cell of these rows narrows 'for every input' (looked for: loops, veiled, ifaces, maps, wideKeys, modest, calm, conditions, laid).
  DERIVED. THE GIVEN ROWS OF THIS SEAT. 4 by the template 'for every input the law returns true; each argument reads behind the call as it read before'; 0 by the template 'total and deterministic' (their statements: YtbmnedgoonaneaaTotals.lean).
  GIVEN WITH THE SEED: the statements are not yours to turn. If you find one false, say at which input.
  Laid BY PROGRAM, IN A SANDBOX (cutbox-rows.mjs): the forced cells as the released guide's own fill.sh prints them over the translation faaf500dd4398510… (all of the seat's roots in one cut). By AI agents, Wed Nov 11 2026. No macro, syntax, notation, axiom, sorry.
-/
import Derived.Test.YtbmnedgoonaneaaChecked
import GoSem.Claim
import GoSem.ClaimJoined
import GoSem.ClaimMapViews
import Derived.JoinedTies
import Derived.KernelRfl
namespace Go.Proofs.Ytbmnedgoonaneaa
/- THE CELL 'sum', in the pinned program and in every row, IS THE sha256 OF THE DUMP (.gsa) THAT YtbmnedgoonaneaaProg.lean LOADS. Nothing in Lean hashes anything: it is a label: what it is worth is what the hold of that sum in a sandbox is worth. -/
noncomputable def Try.pinned : Pinned := { name := "ytbmnedgoonaneaa", sum := "faaf500dd4398510a9e64420e4808f7bf84b410b011837c030854f64dbd6a77e", checked := Try.checked }
namespace Rows
def none {H : Type} : Left H := { results := [], args := [] }

/-- 'winklelaw18.SniffTells': WHATEVER THE INPUT: true; the input reads as it did. -/
def sniffTellsSpec : ChangeSpec := { name := "sniffTells", fn := fun _ => fun
  | [d1, d2] => { results := [.lit (.bool true)], args := [d1, d2] }
  | _ => none }
def sniffTellsRow : OpenClaim := { program := "ytbmnedgoonaneaa", sum := "faaf500dd4398510a9e64420e4808f7bf84b410b011837c030854f64dbd6a77e", func := "winkle/winklelaw18.SniffTells", spec := "sniffTells", apart := false }
def SniffTellsSaid : Prop := sniffTellsRow.holds Try.pinned (OpenSpec.ofChange sniffTellsSpec)

/-- ITS FALSE NEIGHBOUR: 'it returns false'. Refute it at one input. -/
def sniffTellsWrong : ChangeSpec := { name := "sniffTells", fn := fun _ => fun
  | [d1, d2] => { results := [.lit (.bool false)], args := [d1, d2] }
  | _ => none }
def SniffTellsWrongFalsely : Prop := sniffTellsRow.holds Try.pinned (OpenSpec.ofChange sniffTellsWrong)

/-- 'winklelaw18.SniffStays': WHATEVER THE INPUT: true; the input reads as it did. -/
def sniffStaysSpec : ChangeSpec := { name := "sniffStays", fn := fun _ => fun
  | [d1, d2] => { results := [.lit (.bool true)], args := [d1, d2] }
  | _ => none }
def sniffStaysRow : OpenClaim := { program := "ytbmnedgoonaneaa", sum := "faaf500dd4398510a9e64420e4808f7bf84b410b011837c030854f64dbd6a77e", func := "winkle/winklelaw18.SniffStays", spec := "sniffStays", apart := false }
def SniffStaysSaid : Prop := sniffStaysRow.holds Try.pinned (OpenSpec.ofChange sniffStaysSpec)

/-- ITS FALSE NEIGHBOUR: 'it returns false'. Refute it at one input. -/
def sniffStaysWrong : ChangeSpec := { name := "sniffStays", fn := fun _ => fun
  | [d1, d2] => { results := [.lit (.bool false)], args := [d1, d2] }
  | _ => none }
def SniffStaysWrongFalsely : Prop := sniffStaysRow.holds Try.pinned (OpenSpec.ofChange sniffStaysWrong)

/-- 'winklelaw18.SniffLeast': WHATEVER THE INPUT: true; the input reads as it did. -/
def sniffLeastSpec : ChangeSpec := { name := "sniffLeast", fn := fun _ => fun
  | [d] => { results := [.lit (.bool true)], args := [d] }
  | _ => none }
def sniffLeastRow : OpenClaim := { program := "ytbmnedgoonaneaa", sum := "faaf500dd4398510a9e64420e4808f7bf84b410b011837c030854f64dbd6a77e", func := "winkle/winklelaw18.SniffLeast", spec := "sniffLeast", apart := false }
def SniffLeastSaid : Prop := sniffLeastRow.holds Try.pinned (OpenSpec.ofChange sniffLeastSpec)

/-- ITS FALSE NEIGHBOUR: 'it returns false'. Refute it at one input. -/
def sniffLeastWrong : ChangeSpec := { name := "sniffLeast", fn := fun _ => fun
  | [d] => { results := [.lit (.bool false)], args := [d] }
  | _ => none }
def SniffLeastWrongFalsely : Prop := sniffLeastRow.holds Try.pinned (OpenSpec.ofChange sniffLeastWrong)

/-- 'winklelaw18.SniffKnown': WHATEVER THE INPUT: true; the input reads as it did. -/
def sniffKnownSpec : ChangeSpec := { name := "sniffKnown", fn := fun _ => fun
  | [] => { results := [.lit (.bool true)], args := [] }
  | _ => none }
def sniffKnownRow : OpenClaim := { program := "ytbmnedgoonaneaa", sum := "faaf500dd4398510a9e64420e4808f7bf84b410b011837c030854f64dbd6a77e", func := "winkle/winklelaw18.SniffKnown", spec := "sniffKnown", apart := false }
def SniffKnownSaid : Prop := sniffKnownRow.holds Try.pinned (OpenSpec.ofChange sniffKnownSpec)

/-- ITS FALSE NEIGHBOUR: 'it returns false'. Refute it at one input. -/
def sniffKnownWrong : ChangeSpec := { name := "sniffKnown", fn := fun _ => fun
  | [] => { results := [.lit (.bool false)], args := [] }
  | _ => none }
def SniffKnownWrongFalsely : Prop := sniffKnownRow.holds Try.pinned (OpenSpec.ofChange sniffKnownWrong)

/- THE SECOND FORM. 'bulk': how many values and letters a reading holds, each counted each time it is reached (what is shared counts as often as it is met; a slice's spare places count too). A statement '..UptoSaid' is the law's where the arguments, and the package variables that the reading takes, are together of bulk at most 1048576: NARROWER than '..Said'. Prove '..Said' where nothing that the law and all that it calls make is longer than what came in: it says more and counts as full. Else prove '..UptoSaid'. A law counts once. -/
mutual
def uptoBulk {H : Type} : DataW H → Nat
  | .lit (.string bytes) => bytes.length + 1
  | .lit _ => 1
  | .nil => 1
  | .ptr d => uptoBulk d + 1
  | .slice elems spare => uptoBulkAll elems + uptoBulkAll spare + 1
  | .agg parts => uptoBulkAll parts + 1
  | .iface _ d => uptoBulk d + 1
  | .map entries => uptoBulkEntries entries + 1
  | .held _ => 1
def uptoBulkAll {H : Type} : List (DataW H) → Nat
  | [] => 0
  | d :: r => uptoBulk d + uptoBulkAll r
def uptoBulkEntries {H : Type} : List (Lit × DataW H) → Nat
  | [] => 0
  | x :: r => uptoBulkEntry x + uptoBulkEntries r
def uptoBulkEntry {H : Type} : Lit × DataW H → Nat
  | (.string bytes, d) => bytes.length + uptoBulk d + 1
  | (_, d) => uptoBulk d + 1
 end
def uptoSmall : (H : Type) → List (DataW H) → Bool := fun _ ds => decide (uptoBulkAll ds ≤ 1048576)
def OpenSpec.upto (s : _root_.Go.ChangeSpec) : _root_.Go.OpenSpec := { _root_.Go.OpenSpec.ofChange s with cond := some uptoSmall }

/-- 'winklelaw18.SniffTells', WHERE WHAT IT READS IS OF BULK AT MOST 1048576: true; the input reads as it did. -/
def sniffTellsUptoRow : OpenClaim := { program := "ytbmnedgoonaneaa", sum := "faaf500dd4398510a9e64420e4808f7bf84b410b011837c030854f64dbd6a77e", func := "winkle/winklelaw18.SniffTells", spec := "sniffTells", apart := false, narrowed := true }
def SniffTellsUptoSaid : Prop := sniffTellsUptoRow.holds Try.pinned (OpenSpec.upto sniffTellsSpec)

/-- 'winklelaw18.SniffStays', WHERE WHAT IT READS IS OF BULK AT MOST 1048576: true; the input reads as it did. -/
def sniffStaysUptoRow : OpenClaim := { program := "ytbmnedgoonaneaa", sum := "faaf500dd4398510a9e64420e4808f7bf84b410b011837c030854f64dbd6a77e", func := "winkle/winklelaw18.SniffStays", spec := "sniffStays", apart := false, narrowed := true }
def SniffStaysUptoSaid : Prop := sniffStaysUptoRow.holds Try.pinned (OpenSpec.upto sniffStaysSpec)

/-- 'winklelaw18.SniffLeast', WHERE WHAT IT READS IS OF BULK AT MOST 1048576: true; the input reads as it did. -/
def sniffLeastUptoRow : OpenClaim := { program := "ytbmnedgoonaneaa", sum := "faaf500dd4398510a9e64420e4808f7bf84b410b011837c030854f64dbd6a77e", func := "winkle/winklelaw18.SniffLeast", spec := "sniffLeast", apart := false, narrowed := true }
def SniffLeastUptoSaid : Prop := sniffLeastUptoRow.holds Try.pinned (OpenSpec.upto sniffLeastSpec)

/-- 'winklelaw18.SniffKnown', WHERE WHAT IT READS IS OF BULK AT MOST 1048576: true; the input reads as it did. -/
def sniffKnownUptoRow : OpenClaim := { program := "ytbmnedgoonaneaa", sum := "faaf500dd4398510a9e64420e4808f7bf84b410b011837c030854f64dbd6a77e", func := "winkle/winklelaw18.SniffKnown", spec := "sniffKnown", apart := false, narrowed := true }
def SniffKnownUptoSaid : Prop := sniffKnownUptoRow.holds Try.pinned (OpenSpec.upto sniffKnownSpec)

end Rows
end Go.Proofs.Ytbmnedgoonaneaa
