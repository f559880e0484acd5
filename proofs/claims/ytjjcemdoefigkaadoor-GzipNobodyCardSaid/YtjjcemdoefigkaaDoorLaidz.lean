/- The package's tables out of what a row lists; a world for the witness. -/
import Derived.Test.YtjjcemdoefigkaaDoorIz
import Derived.Test.YtjjcemdoefigkaaDoorGe
import Derived.Test.YtjjcemdoefigkaaDoorRows
import Derived.OpenShut
import Derived.ProofKit
import Derived.Deep.DeepHandedRow
import Derived.Lib.LaidTab
namespace Go.Proofs.YtjjcemdoefigkaaDoor.Hf
set_option linter.unusedVariables false
set_option linter.unusedSimpArgs false
open Go.RowKit Go.Proofs.YtjjcemdoefigkaaDoor.W

def zof (l : List Nat) : List Int := l.map fun n : Nat => (n : Int)
theorem tab_of_vars {P : Program} {w : World} {name : String} {k : IntKind} {zs : List Int} {rest : List (String × DataW Unit)} {g : Nat} {t e : TypeId} {n : Nat} {ps : List MemPlace}
    (hg : P.globalNamed name = some g) (hty : (P.globals[g]?).map (·.type) = some t) (ht : P.underlying t = some (.array n e)) (he : P.underlying e = some (.int k)) (hce : P.cellsOf e = 1) (hct : P.cellsOf t = n)
    (h : DataW.LaidVars P w ((name, Lib.tabData k zs) :: rest) ps) : Lib.TabIs P w name k zs ∧ ∃ q, DataW.LaidVars P w rest q := by
  obtain ⟨g', t', cs, fuel, p, q, hg', ht', hvar, hd, hr, _⟩ := h
  obtain rfl := Option.some.inj (hg.symm.trans hg')
  obtain rfl := Option.some.inj (hty.symm.trans ht')
  refine ⟨?_, q, hr⟩
  unfold Lib.TabIs
  rw [hvar, ← Lib.cells_of_tab ht he hce hct hd]
theorem tab_cell {w : World} {name : String} {l : List Nat} {g : Nat} (h : Lib.TabIs Tryd.prog w name .i64 (zof l)) (hg : Tryd.prog.globalNamed name = some g) (i v : Nat) (hi : l[i]? = some v) : w.cell? ⟨g, i, none⟩ = some (.int .i64 (v : Nat)) := by
  have h1 : i < (zof l).length := by unfold zof; rw [List.length_map]; exact (List.getElem?_eq_some_iff.1 hi).1
  rw [h.cell hg i h1]
  unfold zof
  rw [List.getD_eq_getElem?_getD, List.getElem?_map, hi]
  rfl
theorem g0 : Tryd.prog.globalNamed "winkle/inflate.moreLength" = some 1 := by kernel_rfl
theorem g1 : Tryd.prog.globalNamed "winkle/inflate.leastLength" = some 2 := by kernel_rfl
theorem g2 : Tryd.prog.globalNamed "winkle/inflate.lengthsOrder" = some 3 := by kernel_rfl
theorem g3 : Tryd.prog.globalNamed "winkle/inflate.moreBack" = some 4 := by kernel_rfl
theorem g4 : Tryd.prog.globalNamed "winkle/inflate.leastBack" = some 5 := by kernel_rfl
theorem t0 : (Tryd.prog.globals[1]?).map (·.type) = some 87 := by kernel_rfl
theorem t1 : (Tryd.prog.globals[2]?).map (·.type) = some 87 := by kernel_rfl
theorem t2 : (Tryd.prog.globals[3]?).map (·.type) = some 50 := by kernel_rfl
theorem t3 : (Tryd.prog.globals[4]?).map (·.type) = some 89 := by kernel_rfl
theorem t4 : (Tryd.prog.globals[5]?).map (·.type) = some 89 := by kernel_rfl
theorem g5 : Tryd.prog.globalNamed "winkle/crc.quarter" = some 0 := by kernel_rfl
theorem t5 : (Tryd.prog.globals[0]?).map (·.type) = some 54 := by kernel_rfl
theorem u16 : Tryd.prog.underlying 54 = some (.array 16 33) := by kernel_rfl
theorem z16 : Tryd.prog.cellsOf 54 = 16 := by kernel_rfl
theorem zu : Tryd.prog.cellsOf 33 = 1 := by kernel_rfl
theorem u29 : Tryd.prog.underlying 87 = some (.array 29 3) := by kernel_rfl
theorem u19 : Tryd.prog.underlying 50 = some (.array 19 3) := by kernel_rfl
theorem u30 : Tryd.prog.underlying 89 = some (.array 30 3) := by kernel_rfl
theorem z29 : Tryd.prog.cellsOf 87 = 29 := by kernel_rfl
theorem z19 : Tryd.prog.cellsOf 50 = 19 := by kernel_rfl
theorem z30 : Tryd.prog.cellsOf 89 = 30 := by kernel_rfl
theorem zi : Tryd.prog.cellsOf 3 = 1 := by kernel_rfl
theorem lt_of_cell {w : World} {b i : Nat} {v : Value} (h : w.cell? ⟨b, i, none⟩ = some v) : b < w.heap.size := by
  rcases Nat.lt_or_ge b w.heap.size with h1 | h1
  · exact h1
  · have h2 : w.heap[b]? = none := Array.getElem?_eq_none h1
    unfold World.cell? at h
    simp [h2] at h
theorem tab_cell32 {w : World} {name : String} {l : List Nat} {g : Nat} (h : Lib.TabIs Tryd.prog w name .u32 (zof l)) (hg : Tryd.prog.globalNamed name = some g) (i v : Nat) (hi : l[i]? = some v) : w.cell? ⟨g, i, none⟩ = some (.int .u32 (v : Nat)) := by
  have h1 : i < (zof l).length := by unfold zof; rw [List.length_map]; exact (List.getElem?_eq_some_iff.1 hi).1
  rw [h.cell hg i h1]
  unfold zof
  rw [List.getD_eq_getElem?_getD, List.getElem?_map, hi]
  rfl
theorem gt_of_vars {w : World} {rest : List (String × DataW Unit)} {ps : List MemPlace} (h : DataW.LaidVars Tryd.prog w (("winkle/crc.quarter", Lib.tabData .u32 (zof quarterL)) :: ("winkle/inflate.leastLength", Lib.tabData .i64 (zof lL)) :: ("winkle/inflate.moreLength", Lib.tabData .i64 (zof mL)) :: ("winkle/inflate.leastBack", Lib.tabData .i64 (zof lB)) :: ("winkle/inflate.moreBack", Lib.tabData .i64 (zof mB)) :: ("winkle/inflate.lengthsOrder", Lib.tabData .i64 (zof ord)) :: rest) ps) : (Gt w [] ∧ Gq w) ∧ ∃ q, DataW.LaidVars Tryd.prog w rest q := by
  obtain ⟨a5, q5, h⟩ := tab_of_vars g5 t5 u16 Tryd.underlying33 zu z16 h
  obtain ⟨a1, q1, h⟩ := tab_of_vars g1 t1 u29 Tryd.underlying3 zi z29 h
  obtain ⟨a0, q0, h⟩ := tab_of_vars g0 t0 u29 Tryd.underlying3 zi z29 h
  obtain ⟨a4, q4, h⟩ := tab_of_vars g4 t4 u30 Tryd.underlying3 zi z30 h
  obtain ⟨a3, q3, h⟩ := tab_of_vars g3 t3 u30 Tryd.underlying3 zi z30 h
  obtain ⟨a2, q2, h⟩ := tab_of_vars g2 t2 u19 Tryd.underlying3 zi z19 h
  exact ⟨⟨⟨tab_cell a0 g0, tab_cell a1 g1, tab_cell a2 g2, tab_cell a3 g3, tab_cell a4 g4, lt_of_cell (tab_cell a4 g4 0 1 rfl), fun b _ hm => (by cases hm)⟩, tab_cell32 a5 g5⟩, _, h⟩
theorem gt_of_laid {w : World} (h : laidMetH Tryd.prog Rows.gzipNobodyRow.laid w) : Gt w [] ∧ Gq w := by
  have h1 : laidMet Tryd.prog Rows.gzipNobodyRow.laid w := h
  obtain ⟨ps, h2, _⟩ := h1
  exact (gt_of_vars (rest := []) (ps := ps) h2).1
def layT (l : List Nat) : Obj → Obj
  | .cells _ t f => .cells (ints l).toArray t f
  | o => o
def lay32 (l : List Nat) : Obj → Obj
  | .cells _ t f => .cells (l.map fun n : Nat => Value.int .u32 (n : Int)).toArray t f
  | o => o
/-- The settled world, the tables laid. -/
noncomputable def laidWorld (os : Os) : World :=
  { World.holding Tryd.prog os ⟨#[], #[], []⟩ with heap := ((((((World.holding Tryd.prog os ⟨#[], #[], []⟩).heap.modify 0 (lay32 quarterL)).modify 1 (layT mL)).modify 2 (layT lL)).modify 3 (layT ord)).modify 4 (layT mB)).modify 5 (layT lB) }
end Go.Proofs.YtjjcemdoefigkaaDoor.Hf
