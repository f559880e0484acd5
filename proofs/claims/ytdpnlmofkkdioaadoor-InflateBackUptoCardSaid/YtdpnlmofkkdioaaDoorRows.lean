/-
  NARROWER THAN 'FOR EVERY INPUT', by the rows' own cells (each row's printed sentence says how): InflateWhole: laid · InflateSteps: laid · InflatePlays: laid · InflateNobody: laid · InflateBack: laid · InflateCuts: laid · InflateLess: laid.
  DERIVED. THE GIVEN ROWS OF THIS SEAT. 7 by the template 'for every input the law returns true; each argument reads behind the call as it read before'; 0 by the template 'total and deterministic' (their statements: YtdpnlmofkkdioaaDoorTotals.lean).
  GIVEN WITH THE SEED: the statements are not yours to turn. If you find one false, say at which input.
  Laid BY PROGRAM, IN A SANDBOX (cutbox-rows.mjs): the forced cells as the released guide's own fill.sh prints them over the translation 7c0bf4145ae23bf1… (all of the seat's roots in one cut). By AI agents, Wed Nov 11 2026. No macro, syntax, notation, axiom, sorry.
-/
import Derived.Test.YtdpnlmofkkdioaaDoorChecked
import GoSem.Claim
import GoSem.ClaimJoined
import GoSem.ClaimMapViews
import Derived.JoinedTies
import Derived.KernelRfl
namespace Go.Proofs.YtdpnlmofkkdioaaDoor
/- THE CELL 'sum', in the pinned program and in every row, IS THE sha256 OF THE DUMP (.gsa) THAT YtdpnlmofkkdioaaDoorProg.lean LOADS. Nothing in Lean hashes anything: it is a label: what it is worth is what the hold of that sum in a sandbox is worth. -/
noncomputable def Tryd.pinned : Pinned := { name := "ytdpnlmofkkdioaadoor", sum := "7c0bf4145ae23bf100902fa227080244e851e52340618b9fe039b87ee4b36542", checked := Tryd.checked }
namespace Rows
def none {H : Type} : Left H := { results := [], args := [] }

/- WHAT THE LISTED PACKAGE-LEVEL VARIABLES READ AS WHEN THE CALL BEGINS. Each datum BY PROGRAM (the guide's laid-datum.mjs) off the statement by which the dump's own 'gosem.cut.vars' lays the variable. In a bare row this is a premise. The card (YtdpnlmofkkdioaaDoorCards.lean) ties it to the program's text. -/
def laid_winkle_inflate_leastLength {H : Type} : DataW H := .agg [.lit (.int .i64 3), .lit (.int .i64 4), .lit (.int .i64 5), .lit (.int .i64 6), .lit (.int .i64 7), .lit (.int .i64 8), .lit (.int .i64 9), .lit (.int .i64 10), .lit (.int .i64 11), .lit (.int .i64 13), .lit (.int .i64 15), .lit (.int .i64 17), .lit (.int .i64 19), .lit (.int .i64 23), .lit (.int .i64 27), .lit (.int .i64 31), .lit (.int .i64 35), .lit (.int .i64 43), .lit (.int .i64 51), .lit (.int .i64 59), .lit (.int .i64 67), .lit (.int .i64 83), .lit (.int .i64 99), .lit (.int .i64 115), .lit (.int .i64 131), .lit (.int .i64 163), .lit (.int .i64 195), .lit (.int .i64 227), .lit (.int .i64 258)]
def laid_winkle_inflate_moreLength {H : Type} : DataW H := .agg [.lit (.int .i64 0), .lit (.int .i64 0), .lit (.int .i64 0), .lit (.int .i64 0), .lit (.int .i64 0), .lit (.int .i64 0), .lit (.int .i64 0), .lit (.int .i64 0), .lit (.int .i64 1), .lit (.int .i64 1), .lit (.int .i64 1), .lit (.int .i64 1), .lit (.int .i64 2), .lit (.int .i64 2), .lit (.int .i64 2), .lit (.int .i64 2), .lit (.int .i64 3), .lit (.int .i64 3), .lit (.int .i64 3), .lit (.int .i64 3), .lit (.int .i64 4), .lit (.int .i64 4), .lit (.int .i64 4), .lit (.int .i64 4), .lit (.int .i64 5), .lit (.int .i64 5), .lit (.int .i64 5), .lit (.int .i64 5), .lit (.int .i64 0)]
def laid_winkle_inflate_leastBack {H : Type} : DataW H := .agg [.lit (.int .i64 1), .lit (.int .i64 2), .lit (.int .i64 3), .lit (.int .i64 4), .lit (.int .i64 5), .lit (.int .i64 7), .lit (.int .i64 9), .lit (.int .i64 13), .lit (.int .i64 17), .lit (.int .i64 25), .lit (.int .i64 33), .lit (.int .i64 49), .lit (.int .i64 65), .lit (.int .i64 97), .lit (.int .i64 129), .lit (.int .i64 193), .lit (.int .i64 257), .lit (.int .i64 385), .lit (.int .i64 513), .lit (.int .i64 769), .lit (.int .i64 1025), .lit (.int .i64 1537), .lit (.int .i64 2049), .lit (.int .i64 3073), .lit (.int .i64 4097), .lit (.int .i64 6145), .lit (.int .i64 8193), .lit (.int .i64 12289), .lit (.int .i64 16385), .lit (.int .i64 24577)]
def laid_winkle_inflate_moreBack {H : Type} : DataW H := .agg [.lit (.int .i64 0), .lit (.int .i64 0), .lit (.int .i64 0), .lit (.int .i64 0), .lit (.int .i64 1), .lit (.int .i64 1), .lit (.int .i64 2), .lit (.int .i64 2), .lit (.int .i64 3), .lit (.int .i64 3), .lit (.int .i64 4), .lit (.int .i64 4), .lit (.int .i64 5), .lit (.int .i64 5), .lit (.int .i64 6), .lit (.int .i64 6), .lit (.int .i64 7), .lit (.int .i64 7), .lit (.int .i64 8), .lit (.int .i64 8), .lit (.int .i64 9), .lit (.int .i64 9), .lit (.int .i64 10), .lit (.int .i64 10), .lit (.int .i64 11), .lit (.int .i64 11), .lit (.int .i64 12), .lit (.int .i64 12), .lit (.int .i64 13), .lit (.int .i64 13)]
def laid_winkle_inflate_lengthsOrder {H : Type} : DataW H := .agg [.lit (.int .i64 16), .lit (.int .i64 17), .lit (.int .i64 18), .lit (.int .i64 0), .lit (.int .i64 8), .lit (.int .i64 7), .lit (.int .i64 9), .lit (.int .i64 6), .lit (.int .i64 10), .lit (.int .i64 5), .lit (.int .i64 11), .lit (.int .i64 4), .lit (.int .i64 12), .lit (.int .i64 3), .lit (.int .i64 13), .lit (.int .i64 2), .lit (.int .i64 14), .lit (.int .i64 1), .lit (.int .i64 15)]

/-- 'winklelaw09.InflateWhole': WHATEVER THE INPUT: true; the input reads as it did. -/
def inflateWholeSpec : ChangeSpec := { name := "inflateWhole", fn := fun _ => fun
  | [d1, d2] => { results := [.lit (.bool true)], args := [d1, d2] }
  | _ => none }
def inflateWholeRow : OpenClaim := { program := "ytdpnlmofkkdioaadoor", sum := "7c0bf4145ae23bf100902fa227080244e851e52340618b9fe039b87ee4b36542", func := "winkle/winklelaw09.InflateWhole", spec := "inflateWhole", unfollowed := true, recurses := true, named := ["winkle/inflate.moreLength", "winkle/inflate.leastLength", "winkle/inflate.moreBack", "winkle/inflate.leastBack", "winkle/inflate.lengthsOrder"], plainKeys := false, apart := false, laid := [("winkle/inflate.leastLength", laid_winkle_inflate_leastLength), ("winkle/inflate.moreLength", laid_winkle_inflate_moreLength), ("winkle/inflate.leastBack", laid_winkle_inflate_leastBack), ("winkle/inflate.moreBack", laid_winkle_inflate_moreBack), ("winkle/inflate.lengthsOrder", laid_winkle_inflate_lengthsOrder)] }
def InflateWholeSaid : Prop := inflateWholeRow.holds Tryd.pinned (OpenSpec.ofChange inflateWholeSpec)

/-- ITS FALSE NEIGHBOUR: 'it returns false'. Refute it at one input. -/
def inflateWholeWrong : ChangeSpec := { name := "inflateWhole", fn := fun _ => fun
  | [d1, d2] => { results := [.lit (.bool false)], args := [d1, d2] }
  | _ => none }
def InflateWholeWrongFalsely : Prop := inflateWholeRow.holds Tryd.pinned (OpenSpec.ofChange inflateWholeWrong)

/-- 'winklelaw09.InflateSteps': WHATEVER THE INPUT: true; the input reads as it did. -/
def inflateStepsSpec : ChangeSpec := { name := "inflateSteps", fn := fun _ => fun
  | [d] => { results := [.lit (.bool true)], args := [d] }
  | _ => none }
def inflateStepsRow : OpenClaim := { program := "ytdpnlmofkkdioaadoor", sum := "7c0bf4145ae23bf100902fa227080244e851e52340618b9fe039b87ee4b36542", func := "winkle/winklelaw09.InflateSteps", spec := "inflateSteps", unfollowed := true, recurses := true, named := ["winkle/inflate.moreLength", "winkle/inflate.leastLength", "winkle/inflate.moreBack", "winkle/inflate.leastBack", "winkle/inflate.lengthsOrder"], plainKeys := false, apart := false, laid := [("winkle/inflate.leastLength", laid_winkle_inflate_leastLength), ("winkle/inflate.moreLength", laid_winkle_inflate_moreLength), ("winkle/inflate.leastBack", laid_winkle_inflate_leastBack), ("winkle/inflate.moreBack", laid_winkle_inflate_moreBack), ("winkle/inflate.lengthsOrder", laid_winkle_inflate_lengthsOrder)] }
def InflateStepsSaid : Prop := inflateStepsRow.holds Tryd.pinned (OpenSpec.ofChange inflateStepsSpec)

/-- ITS FALSE NEIGHBOUR: 'it returns false'. Refute it at one input. -/
def inflateStepsWrong : ChangeSpec := { name := "inflateSteps", fn := fun _ => fun
  | [d] => { results := [.lit (.bool false)], args := [d] }
  | _ => none }
def InflateStepsWrongFalsely : Prop := inflateStepsRow.holds Tryd.pinned (OpenSpec.ofChange inflateStepsWrong)

/-- 'winklelaw09.InflatePlays': WHATEVER THE INPUT: true; the input reads as it did. -/
def inflatePlaysSpec : ChangeSpec := { name := "inflatePlays", fn := fun _ => fun
  | [d] => { results := [.lit (.bool true)], args := [d] }
  | _ => none }
def inflatePlaysRow : OpenClaim := { program := "ytdpnlmofkkdioaadoor", sum := "7c0bf4145ae23bf100902fa227080244e851e52340618b9fe039b87ee4b36542", func := "winkle/winklelaw09.InflatePlays", spec := "inflatePlays", unfollowed := true, recurses := true, named := ["winkle/inflate.moreLength", "winkle/inflate.leastLength", "winkle/inflate.moreBack", "winkle/inflate.leastBack", "winkle/inflate.lengthsOrder"], plainKeys := false, apart := false, laid := [("winkle/inflate.leastLength", laid_winkle_inflate_leastLength), ("winkle/inflate.moreLength", laid_winkle_inflate_moreLength), ("winkle/inflate.leastBack", laid_winkle_inflate_leastBack), ("winkle/inflate.moreBack", laid_winkle_inflate_moreBack), ("winkle/inflate.lengthsOrder", laid_winkle_inflate_lengthsOrder)] }
def InflatePlaysSaid : Prop := inflatePlaysRow.holds Tryd.pinned (OpenSpec.ofChange inflatePlaysSpec)

/-- ITS FALSE NEIGHBOUR: 'it returns false'. Refute it at one input. -/
def inflatePlaysWrong : ChangeSpec := { name := "inflatePlays", fn := fun _ => fun
  | [d] => { results := [.lit (.bool false)], args := [d] }
  | _ => none }
def InflatePlaysWrongFalsely : Prop := inflatePlaysRow.holds Tryd.pinned (OpenSpec.ofChange inflatePlaysWrong)

/-- 'winklelaw09.InflateNobody': WHATEVER THE INPUT: true; the input reads as it did. -/
def inflateNobodySpec : ChangeSpec := { name := "inflateNobody", fn := fun _ => fun
  | [d] => { results := [.lit (.bool true)], args := [d] }
  | _ => none }
def inflateNobodyRow : OpenClaim := { program := "ytdpnlmofkkdioaadoor", sum := "7c0bf4145ae23bf100902fa227080244e851e52340618b9fe039b87ee4b36542", func := "winkle/winklelaw09.InflateNobody", spec := "inflateNobody", unfollowed := true, recurses := true, named := ["winkle/inflate.moreLength", "winkle/inflate.leastLength", "winkle/inflate.moreBack", "winkle/inflate.leastBack", "winkle/inflate.lengthsOrder"], plainKeys := false, apart := false, laid := [("winkle/inflate.leastLength", laid_winkle_inflate_leastLength), ("winkle/inflate.moreLength", laid_winkle_inflate_moreLength), ("winkle/inflate.leastBack", laid_winkle_inflate_leastBack), ("winkle/inflate.moreBack", laid_winkle_inflate_moreBack), ("winkle/inflate.lengthsOrder", laid_winkle_inflate_lengthsOrder)] }
def InflateNobodySaid : Prop := inflateNobodyRow.holds Tryd.pinned (OpenSpec.ofChange inflateNobodySpec)

/-- ITS FALSE NEIGHBOUR: 'it returns false'. Refute it at one input. -/
def inflateNobodyWrong : ChangeSpec := { name := "inflateNobody", fn := fun _ => fun
  | [d] => { results := [.lit (.bool false)], args := [d] }
  | _ => none }
def InflateNobodyWrongFalsely : Prop := inflateNobodyRow.holds Tryd.pinned (OpenSpec.ofChange inflateNobodyWrong)

/-- 'winklelaw09.InflateBack': WHATEVER THE INPUT: true; the input reads as it did. -/
def inflateBackSpec : ChangeSpec := { name := "inflateBack", fn := fun _ => fun
  | [d1, d2, d3] => { results := [.lit (.bool true)], args := [d1, d2, d3] }
  | _ => none }
def inflateBackRow : OpenClaim := { program := "ytdpnlmofkkdioaadoor", sum := "7c0bf4145ae23bf100902fa227080244e851e52340618b9fe039b87ee4b36542", func := "winkle/winklelaw09.InflateBack", spec := "inflateBack", unfollowed := true, recurses := true, named := ["winkle/inflate.moreLength", "winkle/inflate.leastLength", "winkle/inflate.moreBack", "winkle/inflate.leastBack", "winkle/inflate.lengthsOrder"], plainKeys := false, apart := false, laid := [("winkle/inflate.leastLength", laid_winkle_inflate_leastLength), ("winkle/inflate.moreLength", laid_winkle_inflate_moreLength), ("winkle/inflate.leastBack", laid_winkle_inflate_leastBack), ("winkle/inflate.moreBack", laid_winkle_inflate_moreBack), ("winkle/inflate.lengthsOrder", laid_winkle_inflate_lengthsOrder)] }
def InflateBackSaid : Prop := inflateBackRow.holds Tryd.pinned (OpenSpec.ofChange inflateBackSpec)

/-- ITS FALSE NEIGHBOUR: 'it returns false'. Refute it at one input. -/
def inflateBackWrong : ChangeSpec := { name := "inflateBack", fn := fun _ => fun
  | [d1, d2, d3] => { results := [.lit (.bool false)], args := [d1, d2, d3] }
  | _ => none }
def InflateBackWrongFalsely : Prop := inflateBackRow.holds Tryd.pinned (OpenSpec.ofChange inflateBackWrong)

/-- 'winklelaw09.InflateCuts': WHATEVER THE INPUT: true; the input reads as it did. -/
def inflateCutsSpec : ChangeSpec := { name := "inflateCuts", fn := fun _ => fun
  | [d1, d2, d3] => { results := [.lit (.bool true)], args := [d1, d2, d3] }
  | _ => none }
def inflateCutsRow : OpenClaim := { program := "ytdpnlmofkkdioaadoor", sum := "7c0bf4145ae23bf100902fa227080244e851e52340618b9fe039b87ee4b36542", func := "winkle/winklelaw09.InflateCuts", spec := "inflateCuts", unfollowed := true, recurses := true, named := ["winkle/inflate.moreLength", "winkle/inflate.leastLength", "winkle/inflate.moreBack", "winkle/inflate.leastBack", "winkle/inflate.lengthsOrder"], plainKeys := false, apart := false, laid := [("winkle/inflate.leastLength", laid_winkle_inflate_leastLength), ("winkle/inflate.moreLength", laid_winkle_inflate_moreLength), ("winkle/inflate.leastBack", laid_winkle_inflate_leastBack), ("winkle/inflate.moreBack", laid_winkle_inflate_moreBack), ("winkle/inflate.lengthsOrder", laid_winkle_inflate_lengthsOrder)] }
def InflateCutsSaid : Prop := inflateCutsRow.holds Tryd.pinned (OpenSpec.ofChange inflateCutsSpec)

/-- ITS FALSE NEIGHBOUR: 'it returns false'. Refute it at one input. -/
def inflateCutsWrong : ChangeSpec := { name := "inflateCuts", fn := fun _ => fun
  | [d1, d2, d3] => { results := [.lit (.bool false)], args := [d1, d2, d3] }
  | _ => none }
def InflateCutsWrongFalsely : Prop := inflateCutsRow.holds Tryd.pinned (OpenSpec.ofChange inflateCutsWrong)

/-- 'winklelaw09.InflateLess': WHATEVER THE INPUT: true; the input reads as it did. -/
def inflateLessSpec : ChangeSpec := { name := "inflateLess", fn := fun _ => fun
  | [d1, d2] => { results := [.lit (.bool true)], args := [d1, d2] }
  | _ => none }
def inflateLessRow : OpenClaim := { program := "ytdpnlmofkkdioaadoor", sum := "7c0bf4145ae23bf100902fa227080244e851e52340618b9fe039b87ee4b36542", func := "winkle/winklelaw09.InflateLess", spec := "inflateLess", unfollowed := true, recurses := true, named := ["winkle/inflate.moreLength", "winkle/inflate.leastLength", "winkle/inflate.moreBack", "winkle/inflate.leastBack", "winkle/inflate.lengthsOrder"], plainKeys := false, apart := false, laid := [("winkle/inflate.leastLength", laid_winkle_inflate_leastLength), ("winkle/inflate.moreLength", laid_winkle_inflate_moreLength), ("winkle/inflate.leastBack", laid_winkle_inflate_leastBack), ("winkle/inflate.moreBack", laid_winkle_inflate_moreBack), ("winkle/inflate.lengthsOrder", laid_winkle_inflate_lengthsOrder)] }
def InflateLessSaid : Prop := inflateLessRow.holds Tryd.pinned (OpenSpec.ofChange inflateLessSpec)

/-- ITS FALSE NEIGHBOUR: 'it returns false'. Refute it at one input. -/
def inflateLessWrong : ChangeSpec := { name := "inflateLess", fn := fun _ => fun
  | [d1, d2] => { results := [.lit (.bool false)], args := [d1, d2] }
  | _ => none }
def InflateLessWrongFalsely : Prop := inflateLessRow.holds Tryd.pinned (OpenSpec.ofChange inflateLessWrong)

/- THE SECOND FORM. 'bulk': how many values and letters a reading holds, each counted each time it is reached (what is shared counts as often as it is met; a slice's spare places count too). A statement '..UptoSaid' is the law's where the arguments, and the package variables that the reading takes, are together of bulk at most 1048576: NARROWER than '..Said'. Prove '..Said' where nothing that the law and all that it calls make is longer than what came in: it says more and counts as full. Else prove '..UptoSaid'. A law counts once. -/
mutual
def uptoBulk {H : Type} : DataW H → Nat
  | .lit (.string bytes) => bytes.length + 1
  | .lit _ => 1
  | .nil => 1
  | .ptr d => uptoBulk d + 1
  | .slice elems spare => uptoBulkAll elems + uptoBulkAll spare + 1
  | .agg parts => uptoBulkAll parts + 1
  | .iface _ d => uptoBulk d + 1
  | .map entries => uptoBulkEntries entries + 1
  | .held _ => 1
def uptoBulkAll {H : Type} : List (DataW H) → Nat
  | [] => 0
  | d :: r => uptoBulk d + uptoBulkAll r
def uptoBulkEntries {H : Type} : List (Lit × DataW H) → Nat
  | [] => 0
  | x :: r => uptoBulkEntry x + uptoBulkEntries r
def uptoBulkEntry {H : Type} : Lit × DataW H → Nat
  | (.string bytes, d) => bytes.length + uptoBulk d + 1
  | (_, d) => uptoBulk d + 1
 end
def uptoSmall : (H : Type) → List (DataW H) → Bool := fun _ ds => decide (uptoBulkAll ds ≤ 1048576)
def OpenSpec.upto (s : _root_.Go.ChangeSpec) : _root_.Go.OpenSpec := { _root_.Go.OpenSpec.ofChange s with cond := some uptoSmall }

/-- 'winklelaw09.InflateWhole', WHERE WHAT IT READS IS OF BULK AT MOST 1048576: true; the input reads as it did. -/
def inflateWholeUptoRow : OpenClaim := { program := "ytdpnlmofkkdioaadoor", sum := "7c0bf4145ae23bf100902fa227080244e851e52340618b9fe039b87ee4b36542", func := "winkle/winklelaw09.InflateWhole", spec := "inflateWhole", unfollowed := true, recurses := true, named := ["winkle/inflate.moreLength", "winkle/inflate.leastLength", "winkle/inflate.moreBack", "winkle/inflate.leastBack", "winkle/inflate.lengthsOrder"], plainKeys := false, apart := false, laid := [("winkle/inflate.leastLength", laid_winkle_inflate_leastLength), ("winkle/inflate.moreLength", laid_winkle_inflate_moreLength), ("winkle/inflate.leastBack", laid_winkle_inflate_leastBack), ("winkle/inflate.moreBack", laid_winkle_inflate_moreBack), ("winkle/inflate.lengthsOrder", laid_winkle_inflate_lengthsOrder)], narrowed := true }
def InflateWholeUptoSaid : Prop := inflateWholeUptoRow.holds Tryd.pinned (OpenSpec.upto inflateWholeSpec)

/-- 'winklelaw09.InflateSteps', WHERE WHAT IT READS IS OF BULK AT MOST 1048576: true; the input reads as it did. -/
def inflateStepsUptoRow : OpenClaim := { program := "ytdpnlmofkkdioaadoor", sum := "7c0bf4145ae23bf100902fa227080244e851e52340618b9fe039b87ee4b36542", func := "winkle/winklelaw09.InflateSteps", spec := "inflateSteps", unfollowed := true, recurses := true, named := ["winkle/inflate.moreLength", "winkle/inflate.leastLength", "winkle/inflate.moreBack", "winkle/inflate.leastBack", "winkle/inflate.lengthsOrder"], plainKeys := false, apart := false, laid := [("winkle/inflate.leastLength", laid_winkle_inflate_leastLength), ("winkle/inflate.moreLength", laid_winkle_inflate_moreLength), ("winkle/inflate.leastBack", laid_winkle_inflate_leastBack), ("winkle/inflate.moreBack", laid_winkle_inflate_moreBack), ("winkle/inflate.lengthsOrder", laid_winkle_inflate_lengthsOrder)], narrowed := true }
def InflateStepsUptoSaid : Prop := inflateStepsUptoRow.holds Tryd.pinned (OpenSpec.upto inflateStepsSpec)

/-- 'winklelaw09.InflatePlays', WHERE WHAT IT READS IS OF BULK AT MOST 1048576: true; the input reads as it did. -/
def inflatePlaysUptoRow : OpenClaim := { program := "ytdpnlmofkkdioaadoor", sum := "7c0bf4145ae23bf100902fa227080244e851e52340618b9fe039b87ee4b36542", func := "winkle/winklelaw09.InflatePlays", spec := "inflatePlays", unfollowed := true, recurses := true, named := ["winkle/inflate.moreLength", "winkle/inflate.leastLength", "winkle/inflate.moreBack", "winkle/inflate.leastBack", "winkle/inflate.lengthsOrder"], plainKeys := false, apart := false, laid := [("winkle/inflate.leastLength", laid_winkle_inflate_leastLength), ("winkle/inflate.moreLength", laid_winkle_inflate_moreLength), ("winkle/inflate.leastBack", laid_winkle_inflate_leastBack), ("winkle/inflate.moreBack", laid_winkle_inflate_moreBack), ("winkle/inflate.lengthsOrder", laid_winkle_inflate_lengthsOrder)], narrowed := true }
def InflatePlaysUptoSaid : Prop := inflatePlaysUptoRow.holds Tryd.pinned (OpenSpec.upto inflatePlaysSpec)

/-- 'winklelaw09.InflateNobody', WHERE WHAT IT READS IS OF BULK AT MOST 1048576: true; the input reads as it did. -/
def inflateNobodyUptoRow : OpenClaim := { program := "ytdpnlmofkkdioaadoor", sum := "7c0bf4145ae23bf100902fa227080244e851e52340618b9fe039b87ee4b36542", func := "winkle/winklelaw09.InflateNobody", spec := "inflateNobody", unfollowed := true, recurses := true, named := ["winkle/inflate.moreLength", "winkle/inflate.leastLength", "winkle/inflate.moreBack", "winkle/inflate.leastBack", "winkle/inflate.lengthsOrder"], plainKeys := false, apart := false, laid := [("winkle/inflate.leastLength", laid_winkle_inflate_leastLength), ("winkle/inflate.moreLength", laid_winkle_inflate_moreLength), ("winkle/inflate.leastBack", laid_winkle_inflate_leastBack), ("winkle/inflate.moreBack", laid_winkle_inflate_moreBack), ("winkle/inflate.lengthsOrder", laid_winkle_inflate_lengthsOrder)], narrowed := true }
def InflateNobodyUptoSaid : Prop := inflateNobodyUptoRow.holds Tryd.pinned (OpenSpec.upto inflateNobodySpec)

/-- 'winklelaw09.InflateBack', WHERE WHAT IT READS IS OF BULK AT MOST 1048576: true; the input reads as it did. -/
def inflateBackUptoRow : OpenClaim := { program := "ytdpnlmofkkdioaadoor", sum := "7c0bf4145ae23bf100902fa227080244e851e52340618b9fe039b87ee4b36542", func := "winkle/winklelaw09.InflateBack", spec := "inflateBack", unfollowed := true, recurses := true, named := ["winkle/inflate.moreLength", "winkle/inflate.leastLength", "winkle/inflate.moreBack", "winkle/inflate.leastBack", "winkle/inflate.lengthsOrder"], plainKeys := false, apart := false, laid := [("winkle/inflate.leastLength", laid_winkle_inflate_leastLength), ("winkle/inflate.moreLength", laid_winkle_inflate_moreLength), ("winkle/inflate.leastBack", laid_winkle_inflate_leastBack), ("winkle/inflate.moreBack", laid_winkle_inflate_moreBack), ("winkle/inflate.lengthsOrder", laid_winkle_inflate_lengthsOrder)], narrowed := true }
def InflateBackUptoSaid : Prop := inflateBackUptoRow.holds Tryd.pinned (OpenSpec.upto inflateBackSpec)

/-- 'winklelaw09.InflateCuts', WHERE WHAT IT READS IS OF BULK AT MOST 1048576: true; the input reads as it did. -/
def inflateCutsUptoRow : OpenClaim := { program := "ytdpnlmofkkdioaadoor", sum := "7c0bf4145ae23bf100902fa227080244e851e52340618b9fe039b87ee4b36542", func := "winkle/winklelaw09.InflateCuts", spec := "inflateCuts", unfollowed := true, recurses := true, named := ["winkle/inflate.moreLength", "winkle/inflate.leastLength", "winkle/inflate.moreBack", "winkle/inflate.leastBack", "winkle/inflate.lengthsOrder"], plainKeys := false, apart := false, laid := [("winkle/inflate.leastLength", laid_winkle_inflate_leastLength), ("winkle/inflate.moreLength", laid_winkle_inflate_moreLength), ("winkle/inflate.leastBack", laid_winkle_inflate_leastBack), ("winkle/inflate.moreBack", laid_winkle_inflate_moreBack), ("winkle/inflate.lengthsOrder", laid_winkle_inflate_lengthsOrder)], narrowed := true }
def InflateCutsUptoSaid : Prop := inflateCutsUptoRow.holds Tryd.pinned (OpenSpec.upto inflateCutsSpec)

/-- 'winklelaw09.InflateLess', WHERE WHAT IT READS IS OF BULK AT MOST 1048576: true; the input reads as it did. -/
def inflateLessUptoRow : OpenClaim := { program := "ytdpnlmofkkdioaadoor", sum := "7c0bf4145ae23bf100902fa227080244e851e52340618b9fe039b87ee4b36542", func := "winkle/winklelaw09.InflateLess", spec := "inflateLess", unfollowed := true, recurses := true, named := ["winkle/inflate.moreLength", "winkle/inflate.leastLength", "winkle/inflate.moreBack", "winkle/inflate.leastBack", "winkle/inflate.lengthsOrder"], plainKeys := false, apart := false, laid := [("winkle/inflate.leastLength", laid_winkle_inflate_leastLength), ("winkle/inflate.moreLength", laid_winkle_inflate_moreLength), ("winkle/inflate.leastBack", laid_winkle_inflate_leastBack), ("winkle/inflate.moreBack", laid_winkle_inflate_moreBack), ("winkle/inflate.lengthsOrder", laid_winkle_inflate_lengthsOrder)], narrowed := true }
def InflateLessUptoSaid : Prop := inflateLessUptoRow.holds Tryd.pinned (OpenSpec.upto inflateLessSpec)

end Rows
end Go.Proofs.YtdpnlmofkkdioaaDoor
