/- The library's tables out of what a row lists; a world for the witness. -/
import Derived.Test.YtgjningfpkoooaaDoorOm
import Derived.Test.YtgjningfpkoooaaDoorRows
import Derived.OpenShut
import Derived.ProofKit
import Derived.Deep.DeepHandedRow
import Derived.Stop.LaidErr
import Derived.Lib.LaidTab
namespace Go.Proofs.YtgjningfpkoooaaDoor.Ro
set_option linter.unusedVariables false
set_option linter.unusedSimpArgs false
open Go.RowKit Go.Proofs.YtgjningfpkoooaaDoor.W Go.ChangeShapes

theorem h0 : Tryd.prog.globalNamed "strconv.ErrSyntax" = some 0 := by kernel_rfl
theorem h1 : Tryd.prog.globalNamed "strconv.ErrRange" = some 1 := by kernel_rfl
theorem h7 : Tryd.prog.globalNamed "math/bits.deBruijn64tab" = some 7 := by kernel_rfl
theorem y0 : (Tryd.prog.globals[0]?).map (·.type) = some 52 := by kernel_rfl
theorem y1 : (Tryd.prog.globals[1]?).map (·.type) = some 52 := by kernel_rfl
theorem y2 : (Tryd.prog.globals[2]?).map (·.type) = some 115 := by kernel_rfl
theorem y7 : (Tryd.prog.globals[7]?).map (·.type) = some 133 := by kernel_rfl
theorem z20 : Tryd.prog.cellsOf 115 = 20 := by kernel_rfl
theorem z64 : Tryd.prog.cellsOf 133 = 64 := by kernel_rfl
theorem zu64 : Tryd.prog.cellsOf 60 = 1 := by kernel_rfl
theorem zu8 : Tryd.prog.cellsOf 5 = 1 := by kernel_rfl
/-- A listed error: its variable holds an interface value. -/
theorem laid_err {n nm : String} {d : DataW Unit} {r : List (String × DataW Unit)} {W : World} {g : Nat} {ti : TypeId} {ms : Array (String × TypeId)}
    (h : laidMet Tryd.prog ((n, .iface nm d) :: r) W) (hg : Tryd.prog.globalNamed n = some g) (ht : (Tryd.prog.globals[g]?).map (·.type) = some ti) (hi : Tryd.prog.underlying ti = some (.interface ms)) :
    ∃ t p, W.cell? ⟨g, 0, none⟩ = some (.iface t p) := by
  obtain ⟨ps, ⟨g0, t0, cs0, f0, p0, q0, hg0, ht0, hv0, hd0, _, e0⟩, _, hrows⟩ := h
  obtain rfl := Option.some.inj (hg.symm.trans hg0)
  obtain rfl := Option.some.inj (ht.symm.trans ht0)
  have hc := World.var?_cell hg0 hv0 0
  cases f0 with
  | zero => simp [DataW.trod] at hd0
  | succ f0 =>
    rcases cs0 with ⟨l0⟩
    rcases l0 with _ | ⟨v, l1⟩
    · simp [DataW.trod, hi] at hd0
    · rcases l1 with _ | ⟨v2, l2⟩
      · cases v <;> simp [DataW.trod, hi] at hd0 <;> first | exact ⟨_, _, hc⟩ | (rename_i x; cases x <;> simp at hd0)
      · cases v <;> simp [DataW.trod, hi] at hd0
theorem gw_of_laid {w : World} (h : laidMetH Tryd.prog Rows.routeStandsRow.laid w) (hs : w.ShapedOpen Tryd.prog) : Gw w := by
  have k0 : laidMet Tryd.prog Rows.routeStandsRow.laid w := h
  have k1 := k0.tail
  have k2 := k1.tail
  have k4 := k2.tail.tail
  have k5 := k4.tail
  have hp : Lib.TabIs Tryd.prog w "internal/strconv.uint64pow10" .u64 Lib.pow10Tab := Lib.tabIs_of_head (k := .u64) (zs := Lib.pow10Tab) g2 y2 Tryd.underlying115 Tryd.underlying60 zu64 z20 k2
  have hb : Lib.TabIs Tryd.prog w "math/bits.deBruijn64tab" .u8 [0, 1, 56, 2, 57, 49, 28, 3, 61, 58, 42, 50, 38, 29, 17, 4, 62, 47, 59, 36, 45, 43, 51, 22, 53, 39, 33, 30, 24, 18, 12, 5, 63, 55, 48, 27, 60, 41, 37, 16, 46, 35, 44, 21, 52, 32, 23, 11, 54, 26, 40, 15, 34, 20, 31, 10, 25, 14, 19, 9, 13, 8, 7, 6] := Lib.tabIs_of_head (k := .u8) h7 y7 Tryd.underlying133 Tryd.underlying5 zu8 z64 k1
  refine ⟨hp, Tryd.laysM146.s1_3 w hs, laid_err k5 h0 y0 Tryd.underlying52, laid_err k4 h1 y1 Tryd.underlying52, ?_⟩
  exact World.block_lt_of_cell? w ⟨7, 0, none⟩ (hb.cell h7 0 (by decide))
def layC (l : List Value) : Obj → Obj
  | .cells _ t f => .cells l.toArray t f
  | o => o
def u8z (l : List Int) : List Value := l.map fun z => .int .u8 z
noncomputable def low : Nat := (World.holding Tryd.prog default ⟨#[], #[], []⟩).heap.size
/-- The settled world, the tables laid. -/
noncomputable def laidWorld (os : Os) : World :=
  let w0 := World.holding Tryd.prog os ⟨#[.cells #[.string ⟨#[118, 97, 108, 117, 101, 32, 111, 117, 116, 32, 111, 102, 32, 114, 97, 110, 103, 101]⟩] 123, .cells #[.string ⟨#[105, 110, 118, 97, 108, 105, 100, 32, 115, 121, 110, 116, 97, 120]⟩] 123], #[], []⟩
  { w0 with heap := ((((((w0.heap.modify 0 (layC [.iface 121 (.pointer (some ⟨low + 1, 0, none⟩))])).modify 1 (layC [.iface 121 (.pointer (some ⟨low, 0, none⟩))])).modify 2 (layC (Lib.pow10Tab.map fun z => .int .u64 z))).modify 4 (layC (u8z [240, 240, 240, 240, 240, 240, 240, 240, 240, 240, 240, 240, 240, 240, 240, 240, 240, 240, 240, 240, 240, 240, 240, 240, 240, 240, 240, 240, 240, 240, 240, 240, 240, 240, 240, 240, 240, 240, 240, 240, 240, 240, 240, 240, 240, 240, 240, 240, 240, 240, 240, 240, 240, 240, 240, 240, 240, 240, 240, 240, 240, 240, 240, 240, 240, 240, 240, 240, 240, 240, 240, 240, 240, 240, 240, 240, 240, 240, 240, 240, 240, 240, 240, 240, 240, 240, 240, 240, 240, 240, 240, 240, 240, 240, 240, 240, 240, 240, 240, 240, 240, 240, 240, 240, 240, 240, 240, 240, 240, 240, 240, 240, 240, 240, 240, 240, 240, 240, 240, 240, 240, 240, 240, 240, 240, 240, 240, 240, 241, 241, 241, 241, 241, 241, 241, 241, 241, 241, 241, 241, 241, 241, 241, 241, 241, 241, 241, 241, 241, 241, 241, 241, 241, 241, 241, 241, 241, 241, 241, 241, 241, 241, 241, 241, 241, 241, 241, 241, 241, 241, 241, 241, 241, 241, 241, 241, 241, 241, 241, 241, 241, 241, 241, 241, 241, 241, 241, 241, 241, 241, 241, 241, 241, 241, 2, 2, 2, 2, 2, 2, 2, 2, 2, 2, 2, 2, 2, 2, 2, 2, 2, 2, 2, 2, 2, 2, 2, 2, 2, 2, 2, 2, 2, 2, 19, 3, 3, 3, 3, 3, 3, 3, 3, 3, 3, 3, 3, 35, 3, 3, 52, 4, 4, 4, 68, 241, 241, 241, 241, 241, 241, 241, 241, 241, 241, 241]))).modify 5 (layC (u8z [128, 191, 160, 191, 128, 159, 144, 191, 128, 143, 0, 0, 0, 0, 0, 0, 0, 0, 0, 0, 0, 0, 0, 0, 0, 0, 0, 0, 0, 0, 0, 0]))).modify 6 (layC (u8z [0, 1, 28, 2, 29, 14, 24, 3, 30, 22, 20, 15, 25, 17, 4, 8, 31, 27, 13, 23, 21, 19, 16, 7, 26, 12, 18, 6, 11, 5, 10, 9]))).modify 7 (layC (u8z [0, 1, 56, 2, 57, 49, 28, 3, 61, 58, 42, 50, 38, 29, 17, 4, 62, 47, 59, 36, 45, 43, 51, 22, 53, 39, 33, 30, 24, 18, 12, 5, 63, 55, 48, 27, 60, 41, 37, 16, 46, 35, 44, 21, 52, 32, 23, 11, 54, 26, 40, 15, 34, 20, 31, 10, 25, 14, 19, 9, 13, 8, 7, 6])) }
theorem laid_world (os : Os) (args : Array Value) : laidMet Tryd.prog Rows.routeStandsRow.laid ((laidWorld os).forCall (fun _ _ => 0) ⟨#[], args, []⟩).memory :=
  laidMet_of_run' 8 (by kernel_rfl) (by kernel_rfl)
end Go.Proofs.YtgjningfpkoooaaDoor.Ro
