/- The package's tables out of what a row lists; a world for the witness. -/
import Derived.Test.YtdpnlmofkkdioaaDoorJa
import Derived.Test.YtdpnlmofkkdioaaDoorRows
import Derived.OpenShut
import Derived.ProofKit
import Derived.Deep.DeepHandedRow
import Derived.Lib.LaidTab
namespace Go.Proofs.YtdpnlmofkkdioaaDoor.Hf
set_option linter.unusedVariables false
set_option linter.unusedSimpArgs false
open Go.RowKit Go.Proofs.YtdpnlmofkkdioaaDoor.W

def zof (l : List Nat) : List Int := l.map fun n : Nat => (n : Int)
theorem tab_of_vars {P : Program} {w : World} {name : String} {k : IntKind} {zs : List Int} {rest : List (String × DataW Unit)} {g : Nat} {t e : TypeId} {n : Nat} {ps : List MemPlace}
    (hg : P.globalNamed name = some g) (hty : (P.globals[g]?).map (·.type) = some t) (ht : P.underlying t = some (.array n e)) (he : P.underlying e = some (.int k)) (hce : P.cellsOf e = 1) (hct : P.cellsOf t = n)
    (h : DataW.LaidVars P w ((name, Lib.tabData k zs) :: rest) ps) : Lib.TabIs P w name k zs ∧ ∃ q, DataW.LaidVars P w rest q := by
  obtain ⟨g', t', cs, fuel, p, q, hg', ht', hvar, hd, hr, _⟩ := h
  obtain rfl := Option.some.inj (hg.symm.trans hg')
  obtain rfl := Option.some.inj (hty.symm.trans ht')
  refine ⟨?_, q, hr⟩
  unfold Lib.TabIs
  rw [hvar, ← Lib.cells_of_tab ht he hce hct hd]
theorem tab_cell {w : World} {name : String} {l : List Nat} {g : Nat} (h : Lib.TabIs Tryd.prog w name .i64 (zof l)) (hg : Tryd.prog.globalNamed name = some g) (i v : Nat) (hi : l[i]? = some v) : w.cell? ⟨g, i, none⟩ = some (.int .i64 (v : Nat)) := by
  have h1 : i < (zof l).length := by unfold zof; rw [List.length_map]; exact (List.getElem?_eq_some_iff.1 hi).1
  rw [h.cell hg i h1]
  unfold zof
  rw [List.getD_eq_getElem?_getD, List.getElem?_map, hi]
  rfl
theorem g0 : Tryd.prog.globalNamed "winkle/inflate.moreLength" = some 0 := by kernel_rfl
theorem g1 : Tryd.prog.globalNamed "winkle/inflate.leastLength" = some 1 := by kernel_rfl
theorem g2 : Tryd.prog.globalNamed "winkle/inflate.lengthsOrder" = some 2 := by kernel_rfl
theorem g3 : Tryd.prog.globalNamed "winkle/inflate.moreBack" = some 3 := by kernel_rfl
theorem g4 : Tryd.prog.globalNamed "winkle/inflate.leastBack" = some 4 := by kernel_rfl
theorem t0 : (Tryd.prog.globals[0]?).map (·.type) = some 130 := by kernel_rfl
theorem t1 : (Tryd.prog.globals[1]?).map (·.type) = some 130 := by kernel_rfl
theorem t2 : (Tryd.prog.globals[2]?).map (·.type) = some 67 := by kernel_rfl
theorem t3 : (Tryd.prog.globals[3]?).map (·.type) = some 132 := by kernel_rfl
theorem t4 : (Tryd.prog.globals[4]?).map (·.type) = some 132 := by kernel_rfl
theorem u29 : Tryd.prog.underlying 130 = some (.array 29 3) := by kernel_rfl
theorem u19 : Tryd.prog.underlying 67 = some (.array 19 3) := by kernel_rfl
theorem u30 : Tryd.prog.underlying 132 = some (.array 30 3) := by kernel_rfl
theorem z29 : Tryd.prog.cellsOf 130 = 29 := by kernel_rfl
theorem z19 : Tryd.prog.cellsOf 67 = 19 := by kernel_rfl
theorem z30 : Tryd.prog.cellsOf 132 = 30 := by kernel_rfl
theorem zi : Tryd.prog.cellsOf 3 = 1 := by kernel_rfl
theorem lt_of_cell {w : World} {b i : Nat} {v : Value} (h : w.cell? ⟨b, i, none⟩ = some v) : b < w.heap.size := by
  rcases Nat.lt_or_ge b w.heap.size with h1 | h1
  · exact h1
  · have h2 : w.heap[b]? = none := Array.getElem?_eq_none h1
    unfold World.cell? at h
    simp [h2] at h
theorem gt_of_vars {w : World} {ps : List MemPlace} (h : DataW.LaidVars Tryd.prog w [("winkle/inflate.leastLength", Lib.tabData .i64 (zof lL)), ("winkle/inflate.moreLength", Lib.tabData .i64 (zof mL)), ("winkle/inflate.leastBack", Lib.tabData .i64 (zof lB)), ("winkle/inflate.moreBack", Lib.tabData .i64 (zof mB)), ("winkle/inflate.lengthsOrder", Lib.tabData .i64 (zof ord))] ps) : Gt w [] := by
  obtain ⟨a1, q1, h⟩ := tab_of_vars g1 t1 u29 Tryd.underlying3 zi z29 h
  obtain ⟨a0, q0, h⟩ := tab_of_vars g0 t0 u29 Tryd.underlying3 zi z29 h
  obtain ⟨a4, q4, h⟩ := tab_of_vars g4 t4 u30 Tryd.underlying3 zi z30 h
  obtain ⟨a3, q3, h⟩ := tab_of_vars g3 t3 u30 Tryd.underlying3 zi z30 h
  obtain ⟨a2, q2, h⟩ := tab_of_vars g2 t2 u19 Tryd.underlying3 zi z19 h
  exact ⟨tab_cell a0 g0, tab_cell a1 g1, tab_cell a2 g2, tab_cell a3 g3, tab_cell a4 g4, lt_of_cell (tab_cell a4 g4 0 1 rfl), fun b _ hm => (by cases hm)⟩
theorem gt_of_laid {w : World} (h : laidMetH Tryd.prog Rows.inflateNobodyRow.laid w) : Gt w [] := by
  have h1 : laidMet Tryd.prog Rows.inflateNobodyRow.laid w := h
  obtain ⟨ps, h2, _⟩ := h1
  exact gt_of_vars (ps := ps) h2
def layT (l : List Nat) : Obj → Obj
  | .cells _ t f => .cells (ints l).toArray t f
  | o => o
/-- The settled world, the tables laid. -/
noncomputable def laidWorld (os : Os) : World :=
  { World.holding Tryd.prog os ⟨#[], #[], []⟩ with heap := (((((World.holding Tryd.prog os ⟨#[], #[], []⟩).heap.modify 0 (layT mL)).modify 1 (layT lL)).modify 2 (layT ord)).modify 3 (layT mB)).modify 4 (layT lB) }
end Go.Proofs.YtdpnlmofkkdioaaDoor.Hf
