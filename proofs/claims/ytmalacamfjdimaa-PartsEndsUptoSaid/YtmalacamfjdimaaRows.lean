/-
  No cell of these rows narrows 'for every input' (looked for: loops, veiled, ifaces, maps, wideKeys, modest, calm, conditions, laid).
  DERIVED. THE GIVEN ROWS OF THIS SEAT. 7 by the template 'for every input the law returns true; each argument reads behind the call as it read before'; 0 by the template 'total and deterministic' (their statements: YtmalacamfjdimaaTotals.lean).
  GIVEN WITH THE SEED: the statements are not yours to turn. If you find one false, say at which input.
  Laid BY PROGRAM, IN A SANDBOX (cutbox-rows.mjs): the forced cells as the released guide's own fill.sh prints them over the translation 72fddd3ed9f5e536… (all of the seat's roots in one cut). By AI agents, Wed Nov 11 2026. No macro, syntax, notation, axiom, sorry.
-/
import Derived.Test.YtmalacamfjdimaaChecked
import GoSem.Claim
import GoSem.ClaimJoined
import GoSem.ClaimMapViews
import Derived.JoinedTies
import Derived.KernelRfl
namespace Go.Proofs.Ytmalacamfjdimaa
/- THE CELL 'sum', in the pinned program and in every row, IS THE sha256 OF THE DUMP (.gsa) THAT YtmalacamfjdimaaProg.lean LOADS. Nothing in Lean hashes anything: it is a label: what it is worth is what the hold of that sum in a sandbox is worth. -/
noncomputable def Try.pinned : Pinned := { name := "ytmalacamfjdimaa", sum := "72fddd3ed9f5e536df6d80f3a85c75a9a03ac959757c83d76c5a9718ce7f196a", checked := Try.checked }
namespace Rows
def none {H : Type} : Left H := { results := [], args := [] }

/-- 'winklelaw14.PartsWhole': WHATEVER THE INPUT: true; the input reads as it did. -/
def partsWholeSpec : ChangeSpec := { name := "partsWhole", fn := fun _ => fun
  | [d1, d2] => { results := [.lit (.bool true)], args := [d1, d2] }
  | _ => none }
def partsWholeRow : OpenClaim := { program := "ytmalacamfjdimaa", sum := "72fddd3ed9f5e536df6d80f3a85c75a9a03ac959757c83d76c5a9718ce7f196a", func := "winkle/winklelaw14.PartsWhole", spec := "partsWhole", inPlace := ["internal/bytealg.IndexByteString"], unfollowed := true, recurses := true, apart := false }
def PartsWholeSaid : Prop := partsWholeRow.holds Try.pinned (OpenSpec.ofChange partsWholeSpec)

/-- ITS FALSE NEIGHBOUR: 'it returns false'. Refute it at one input. -/
def partsWholeWrong : ChangeSpec := { name := "partsWhole", fn := fun _ => fun
  | [d1, d2] => { results := [.lit (.bool false)], args := [d1, d2] }
  | _ => none }
def PartsWholeWrongFalsely : Prop := partsWholeRow.holds Try.pinned (OpenSpec.ofChange partsWholeWrong)

/-- 'winklelaw14.PartsSteps': WHATEVER THE INPUT: true; the input reads as it did. -/
def partsStepsSpec : ChangeSpec := { name := "partsSteps", fn := fun _ => fun
  | [d1, d2] => { results := [.lit (.bool true)], args := [d1, d2] }
  | _ => none }
def partsStepsRow : OpenClaim := { program := "ytmalacamfjdimaa", sum := "72fddd3ed9f5e536df6d80f3a85c75a9a03ac959757c83d76c5a9718ce7f196a", func := "winkle/winklelaw14.PartsSteps", spec := "partsSteps", inPlace := ["internal/bytealg.IndexByteString"], unfollowed := true, recurses := true, apart := false }
def PartsStepsSaid : Prop := partsStepsRow.holds Try.pinned (OpenSpec.ofChange partsStepsSpec)

/-- ITS FALSE NEIGHBOUR: 'it returns false'. Refute it at one input. -/
def partsStepsWrong : ChangeSpec := { name := "partsSteps", fn := fun _ => fun
  | [d1, d2] => { results := [.lit (.bool false)], args := [d1, d2] }
  | _ => none }
def PartsStepsWrongFalsely : Prop := partsStepsRow.holds Try.pinned (OpenSpec.ofChange partsStepsWrong)

/-- 'winklelaw14.PartsNobody': WHATEVER THE INPUT: true; the input reads as it did. -/
def partsNobodySpec : ChangeSpec := { name := "partsNobody", fn := fun _ => fun
  | [d] => { results := [.lit (.bool true)], args := [d] }
  | _ => none }
def partsNobodyRow : OpenClaim := { program := "ytmalacamfjdimaa", sum := "72fddd3ed9f5e536df6d80f3a85c75a9a03ac959757c83d76c5a9718ce7f196a", func := "winkle/winklelaw14.PartsNobody", spec := "partsNobody", inPlace := ["internal/bytealg.IndexByteString"], unfollowed := true, recurses := true, apart := false }
def PartsNobodySaid : Prop := partsNobodyRow.holds Try.pinned (OpenSpec.ofChange partsNobodySpec)

/-- ITS FALSE NEIGHBOUR: 'it returns false'. Refute it at one input. -/
def partsNobodyWrong : ChangeSpec := { name := "partsNobody", fn := fun _ => fun
  | [d] => { results := [.lit (.bool false)], args := [d] }
  | _ => none }
def PartsNobodyWrongFalsely : Prop := partsNobodyRow.holds Try.pinned (OpenSpec.ofChange partsNobodyWrong)

/-- 'winklelaw14.PartsWrites': WHATEVER THE INPUT: true; the input reads as it did. -/
def partsWritesSpec : ChangeSpec := { name := "partsWrites", fn := fun _ => fun
  | [d1, d2] => { results := [.lit (.bool true)], args := [d1, d2] }
  | _ => none }
def partsWritesRow : OpenClaim := { program := "ytmalacamfjdimaa", sum := "72fddd3ed9f5e536df6d80f3a85c75a9a03ac959757c83d76c5a9718ce7f196a", func := "winkle/winklelaw14.PartsWrites", spec := "partsWrites", inPlace := ["internal/bytealg.IndexByteString", "internal/bytealg.IndexByte", "internal/bytealg.Index"], unfollowed := true, recurses := true, named := ["internal/bytealg.MaxLen"], apart := false }
def PartsWritesSaid : Prop := partsWritesRow.holds Try.pinned (OpenSpec.ofChange partsWritesSpec)

/-- ITS FALSE NEIGHBOUR: 'it returns false'. Refute it at one input. -/
def partsWritesWrong : ChangeSpec := { name := "partsWrites", fn := fun _ => fun
  | [d1, d2] => { results := [.lit (.bool false)], args := [d1, d2] }
  | _ => none }
def PartsWritesWrongFalsely : Prop := partsWritesRow.holds Try.pinned (OpenSpec.ofChange partsWritesWrong)

/-- 'winklelaw14.PartsBack': WHATEVER THE INPUT: true; the input reads as it did. -/
def partsBackSpec : ChangeSpec := { name := "partsBack", fn := fun _ => fun
  | [d1, d2, d3] => { results := [.lit (.bool true)], args := [d1, d2, d3] }
  | _ => none }
def partsBackRow : OpenClaim := { program := "ytmalacamfjdimaa", sum := "72fddd3ed9f5e536df6d80f3a85c75a9a03ac959757c83d76c5a9718ce7f196a", func := "winkle/winklelaw14.PartsBack", spec := "partsBack", inPlace := ["internal/bytealg.IndexByteString", "internal/bytealg.IndexByte", "internal/bytealg.Index"], unfollowed := true, recurses := true, named := ["internal/bytealg.MaxLen"], apart := false }
def PartsBackSaid : Prop := partsBackRow.holds Try.pinned (OpenSpec.ofChange partsBackSpec)

/-- ITS FALSE NEIGHBOUR: 'it returns false'. Refute it at one input. -/
def partsBackWrong : ChangeSpec := { name := "partsBack", fn := fun _ => fun
  | [d1, d2, d3] => { results := [.lit (.bool false)], args := [d1, d2, d3] }
  | _ => none }
def PartsBackWrongFalsely : Prop := partsBackRow.holds Try.pinned (OpenSpec.ofChange partsBackWrong)

/-- 'winklelaw14.PartsEnds': WHATEVER THE INPUT: true; the input reads as it did. -/
def partsEndsSpec : ChangeSpec := { name := "partsEnds", fn := fun _ => fun
  | [d1, d2, d3] => { results := [.lit (.bool true)], args := [d1, d2, d3] }
  | _ => none }
def partsEndsRow : OpenClaim := { program := "ytmalacamfjdimaa", sum := "72fddd3ed9f5e536df6d80f3a85c75a9a03ac959757c83d76c5a9718ce7f196a", func := "winkle/winklelaw14.PartsEnds", spec := "partsEnds", inPlace := ["internal/bytealg.IndexByteString", "internal/bytealg.IndexByte", "internal/bytealg.Index"], unfollowed := true, recurses := true, named := ["internal/bytealg.MaxLen"], apart := false }
def PartsEndsSaid : Prop := partsEndsRow.holds Try.pinned (OpenSpec.ofChange partsEndsSpec)

/-- ITS FALSE NEIGHBOUR: 'it returns false'. Refute it at one input. -/
def partsEndsWrong : ChangeSpec := { name := "partsEnds", fn := fun _ => fun
  | [d1, d2, d3] => { results := [.lit (.bool false)], args := [d1, d2, d3] }
  | _ => none }
def PartsEndsWrongFalsely : Prop := partsEndsRow.holds Try.pinned (OpenSpec.ofChange partsEndsWrong)

/-- 'winklelaw14.PartsLines': WHATEVER THE INPUT: true; the input reads as it did. -/
def partsLinesSpec : ChangeSpec := { name := "partsLines", fn := fun _ => fun
  | [d1, d2] => { results := [.lit (.bool true)], args := [d1, d2] }
  | _ => none }
def partsLinesRow : OpenClaim := { program := "ytmalacamfjdimaa", sum := "72fddd3ed9f5e536df6d80f3a85c75a9a03ac959757c83d76c5a9718ce7f196a", func := "winkle/winklelaw14.PartsLines", spec := "partsLines", inPlace := ["internal/bytealg.IndexByteString", "internal/bytealg.IndexByte", "internal/bytealg.Index"], unfollowed := true, recurses := true, named := ["internal/bytealg.MaxLen"], apart := false }
def PartsLinesSaid : Prop := partsLinesRow.holds Try.pinned (OpenSpec.ofChange partsLinesSpec)

/-- ITS FALSE NEIGHBOUR: 'it returns false'. Refute it at one input. -/
def partsLinesWrong : ChangeSpec := { name := "partsLines", fn := fun _ => fun
  | [d1, d2] => { results := [.lit (.bool false)], args := [d1, d2] }
  | _ => none }
def PartsLinesWrongFalsely : Prop := partsLinesRow.holds Try.pinned (OpenSpec.ofChange partsLinesWrong)

/- THE SECOND FORM. 'bulk': how many values and letters a reading holds, each counted each time it is reached (what is shared counts as often as it is met; a slice's spare places count too). A statement '..UptoSaid' is the law's where the arguments, and the package variables that the reading takes, are together of bulk at most 1048576: NARROWER than '..Said'. Prove '..Said' where nothing that the law and all that it calls make is longer than what came in: it says more and counts as full. Else prove '..UptoSaid'. A law counts once. -/
mutual
def uptoBulk {H : Type} : DataW H → Nat
  | .lit (.string bytes) => bytes.length + 1
  | .lit _ => 1
  | .nil => 1
  | .ptr d => uptoBulk d + 1
  | .slice elems spare => uptoBulkAll elems + uptoBulkAll spare + 1
  | .agg parts => uptoBulkAll parts + 1
  | .iface _ d => uptoBulk d + 1
  | .map entries => uptoBulkEntries entries + 1
  | .held _ => 1
def uptoBulkAll {H : Type} : List (DataW H) → Nat
  | [] => 0
  | d :: r => uptoBulk d + uptoBulkAll r
def uptoBulkEntries {H : Type} : List (Lit × DataW H) → Nat
  | [] => 0
  | x :: r => uptoBulkEntry x + uptoBulkEntries r
def uptoBulkEntry {H : Type} : Lit × DataW H → Nat
  | (.string bytes, d) => bytes.length + uptoBulk d + 1
  | (_, d) => uptoBulk d + 1
 end
def uptoSmall : (H : Type) → List (DataW H) → Bool := fun _ ds => decide (uptoBulkAll ds ≤ 1048576)
def OpenSpec.upto (s : _root_.Go.ChangeSpec) : _root_.Go.OpenSpec := { _root_.Go.OpenSpec.ofChange s with cond := some uptoSmall }

/-- 'winklelaw14.PartsWhole', WHERE WHAT IT READS IS OF BULK AT MOST 1048576: true; the input reads as it did. -/
def partsWholeUptoRow : OpenClaim := { program := "ytmalacamfjdimaa", sum := "72fddd3ed9f5e536df6d80f3a85c75a9a03ac959757c83d76c5a9718ce7f196a", func := "winkle/winklelaw14.PartsWhole", spec := "partsWhole", inPlace := ["internal/bytealg.IndexByteString"], unfollowed := true, recurses := true, apart := false, narrowed := true }
def PartsWholeUptoSaid : Prop := partsWholeUptoRow.holds Try.pinned (OpenSpec.upto partsWholeSpec)

/-- 'winklelaw14.PartsSteps', WHERE WHAT IT READS IS OF BULK AT MOST 1048576: true; the input reads as it did. -/
def partsStepsUptoRow : OpenClaim := { program := "ytmalacamfjdimaa", sum := "72fddd3ed9f5e536df6d80f3a85c75a9a03ac959757c83d76c5a9718ce7f196a", func := "winkle/winklelaw14.PartsSteps", spec := "partsSteps", inPlace := ["internal/bytealg.IndexByteString"], unfollowed := true, recurses := true, apart := false, narrowed := true }
def PartsStepsUptoSaid : Prop := partsStepsUptoRow.holds Try.pinned (OpenSpec.upto partsStepsSpec)

/-- 'winklelaw14.PartsNobody', WHERE WHAT IT READS IS OF BULK AT MOST 1048576: true; the input reads as it did. -/
def partsNobodyUptoRow : OpenClaim := { program := "ytmalacamfjdimaa", sum := "72fddd3ed9f5e536df6d80f3a85c75a9a03ac959757c83d76c5a9718ce7f196a", func := "winkle/winklelaw14.PartsNobody", spec := "partsNobody", inPlace := ["internal/bytealg.IndexByteString"], unfollowed := true, recurses := true, apart := false, narrowed := true }
def PartsNobodyUptoSaid : Prop := partsNobodyUptoRow.holds Try.pinned (OpenSpec.upto partsNobodySpec)

/-- 'winklelaw14.PartsWrites', WHERE WHAT IT READS IS OF BULK AT MOST 1048576: true; the input reads as it did. -/
def partsWritesUptoRow : OpenClaim := { program := "ytmalacamfjdimaa", sum := "72fddd3ed9f5e536df6d80f3a85c75a9a03ac959757c83d76c5a9718ce7f196a", func := "winkle/winklelaw14.PartsWrites", spec := "partsWrites", inPlace := ["internal/bytealg.IndexByteString", "internal/bytealg.IndexByte", "internal/bytealg.Index"], unfollowed := true, recurses := true, named := ["internal/bytealg.MaxLen"], apart := false, narrowed := true }
def PartsWritesUptoSaid : Prop := partsWritesUptoRow.holds Try.pinned (OpenSpec.upto partsWritesSpec)

/-- 'winklelaw14.PartsBack', WHERE WHAT IT READS IS OF BULK AT MOST 1048576: true; the input reads as it did. -/
def partsBackUptoRow : OpenClaim := { program := "ytmalacamfjdimaa", sum := "72fddd3ed9f5e536df6d80f3a85c75a9a03ac959757c83d76c5a9718ce7f196a", func := "winkle/winklelaw14.PartsBack", spec := "partsBack", inPlace := ["internal/bytealg.IndexByteString", "internal/bytealg.IndexByte", "internal/bytealg.Index"], unfollowed := true, recurses := true, named := ["internal/bytealg.MaxLen"], apart := false, narrowed := true }
def PartsBackUptoSaid : Prop := partsBackUptoRow.holds Try.pinned (OpenSpec.upto partsBackSpec)

/-- 'winklelaw14.PartsEnds', WHERE WHAT IT READS IS OF BULK AT MOST 1048576: true; the input reads as it did. -/
def partsEndsUptoRow : OpenClaim := { program := "ytmalacamfjdimaa", sum := "72fddd3ed9f5e536df6d80f3a85c75a9a03ac959757c83d76c5a9718ce7f196a", func := "winkle/winklelaw14.PartsEnds", spec := "partsEnds", inPlace := ["internal/bytealg.IndexByteString", "internal/bytealg.IndexByte", "internal/bytealg.Index"], unfollowed := true, recurses := true, named := ["internal/bytealg.MaxLen"], apart := false, narrowed := true }
def PartsEndsUptoSaid : Prop := partsEndsUptoRow.holds Try.pinned (OpenSpec.upto partsEndsSpec)

/-- 'winklelaw14.PartsLines', WHERE WHAT IT READS IS OF BULK AT MOST 1048576: true; the input reads as it did. -/
def partsLinesUptoRow : OpenClaim := { program := "ytmalacamfjdimaa", sum := "72fddd3ed9f5e536df6d80f3a85c75a9a03ac959757c83d76c5a9718ce7f196a", func := "winkle/winklelaw14.PartsLines", spec := "partsLines", inPlace := ["internal/bytealg.IndexByteString", "internal/bytealg.IndexByte", "internal/bytealg.Index"], unfollowed := true, recurses := true, named := ["internal/bytealg.MaxLen"], apart := false, narrowed := true }
def PartsLinesUptoSaid : Prop := partsLinesUptoRow.holds Try.pinned (OpenSpec.upto partsLinesSpec)

end Rows
end Go.Proofs.Ytmalacamfjdimaa
