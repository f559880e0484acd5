/- How an argument that is a slice of structs of two bytes is opened. -/
import Derived.Test.YtdpnlmofkkdioaaDoorArgs
import Derived.Deep.SlicePairs
namespace Go.Proofs.YtdpnlmofkkdioaaDoor.W
set_option linter.unusedVariables false
set_option linter.unusedSimpArgs false
open Go.RowKit Go.ChangeShapes Go.WideShapes

/-- A slice of pairs of bytes, as it is read. -/
def RP2 (w : World) (A : Option Addr) (ps : List (Int × Int)) : Prop :=
  ∀ i k b, ps[i]? = some (k, b) → ∃ blk off, A = some ⟨blk, off, none⟩ ∧ blk < w.heap.size ∧ w.cell? ⟨blk, off + i * 2, none⟩ = some (.int .u8 k) ∧ w.cell? ⟨blk, off + i * 2 + 1, none⟩ = some (.int .u8 b) ∧ (0 ≤ k ∧ k < 256) ∧ (0 ≤ b ∧ b < 256)
theorem arg_acts {H : Type} {enc : TypeId × Value → H} {P : Program} {W : World} {b0 base : Nat} {spare : Nat → Bool} {held : Bool} {r : Reach} {t e : TypeId} {f0 f1 : Field} {v : Value} {d : DataW H} {ps : List MemPlace} {ts : List TypeId} {ds : List (DataW H)} {j : Nat}
    (hsz : (DataW.weightsEach P ts ds).all (· ≤ reachBytes) = true) (ht : ts[j]? = some t) (hd : ds[j]? = some d) (hu : P.underlying t = some (.slice e)) (he : P.underlying e = some (.struct #[f0, f1])) (hce : P.cellsOf e = 2) (o0 : f0.offset = 0) (o1 : f1.offset = 1)
    (c0 : P.cellsOf f0.type = 1) (c1 : P.cellsOf f1.type = 1) (t0 : P.underlying f0.type = some (.int .u8)) (t1 : P.underlying f1.type = some (.int .u8)) (hB : P.bytesOf e = 2) (hv : Value.okWide P W r b0 t v) (h : DataW.Trod enc P W base spare held t v d ps) :
    ∃ (A : Option Addr) (n c : Nat) (l : List (Int × Int)), v = .slice A n c ∧ l.length = n ∧ n ≤ c ∧ n ≤ 140737488351232 ∧ RP2 W A l ∧ n ≤ Rows.uptoBulk d := by
  obtain ⟨A, n, c, rfl⟩ := okWide_slice hu hv
  obtain ⟨fuel, hf⟩ := h
  rcases Go.Deep.open_slice_pairs hu he hce o0 o1 c0 c1 hf with ⟨hcs, _⟩ | ⟨a, len, cap, m, n', V0, V1, D0, D1, P0, P1, hcs, _, hl, _, hm, hx, hcell⟩
  · simp [Value.cells] at hcs
    obtain ⟨rfl, rfl, rfl⟩ := hcs
    exact ⟨none, 0, 0, [], rfl, rfl, Nat.le_refl _, by simp, fun i k b h => by simp at h, Nat.zero_le _⟩
  · simp [Value.cells] at hcs
    obtain ⟨rfl, rfl, rfl⟩ := hcs
    obtain ⟨hx, _⟩ := Prod.mk.inj hx
    subst hx
    have z := sized_slice hsz ht hd hu
    rw [hB] at z
    have hnm : n ≤ m := by rw [hm]; split <;> omega
    have key : ∀ i, ∃ q : Int × Int, i < n → V0 i = .int .u8 q.1 ∧ V1 i = .int .u8 q.2 ∧ (0 ≤ q.1 ∧ q.1 < 256) ∧ (0 ≤ q.2 ∧ q.2 < 256) := fun i => by
      by_cases hi : i < n
      · obtain ⟨_, _, g0, g1⟩ := hcell i (by omega)
        obtain ⟨x0, e0, _, w0⟩ := DataW.trod_int t0 g0
        obtain ⟨x1, e1, _, w1⟩ := DataW.trod_int t1 g1
        have b0 := bounds_u8 w0
        have b1 := bounds_u8 w1
        refine ⟨(x0, x1), fun _ => ⟨by injection e0, by injection e1, by dsimp only; omega, by dsimp only; omega⟩⟩
      · exact ⟨(0, 0), fun h => absurd h hi⟩
    obtain ⟨q, hq⟩ : ∃ q : Nat → Int × Int, ∀ i, i < n → V0 i = .int .u8 (q i).1 ∧ V1 i = .int .u8 (q i).2 ∧ (0 ≤ (q i).1 ∧ (q i).1 < 256) ∧ (0 ≤ (q i).2 ∧ (q i).2 < 256) := ⟨fun i => (key i).choose, fun i => (key i).choose_spec⟩
    refine ⟨some a, n, c, (List.range n).map q, rfl, by simp, hl, ?_, fun i k b hi => ?_, Nat.le_trans (by simp) (bulk_slice _ _)⟩
    · simp only [List.length_map, List.length_range, reachBytes] at z
      omega
    · have hin : i < n := by
        rcases Nat.lt_or_ge i n with h2 | h2
        · exact h2
        · rw [List.getElem?_eq_none (by simp; omega)] at hi; cases hi
      have hqi : q i = (k, b) := by simpa [hin] using hi
      obtain ⟨h1, h2, h3, h4⟩ := hq i hin
      rw [hqi] at h1 h2 h3 h4
      obtain ⟨g0, g1, _, _⟩ := hcell i (by omega)
      rw [h1] at g0
      rw [h2] at g1
      obtain ⟨b1, off, spot⟩ := a
      have hspot : spot = none := by
        obtain ⟨g00, _⟩ := hcell 0 (by omega)
        simpa [Addr.add] using World.cell?_spot g00
      subst hspot
      rw [Go.WideShapes.add_plain] at g0 g1
      exact ⟨b1, off, rfl, World.block_lt_of_cell? W ⟨b1, off + i * 2, none⟩ g0, g0, by rw [Nat.add_assoc]; exact g1, h3, h4⟩
end Go.Proofs.YtdpnlmofkkdioaaDoor.W
