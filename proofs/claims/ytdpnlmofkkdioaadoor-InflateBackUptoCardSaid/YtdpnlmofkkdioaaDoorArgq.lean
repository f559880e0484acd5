/- How an argument that is a slice of structs of a byte, a u16 and two bools is opened. -/
import Derived.Test.YtdpnlmofkkdioaaDoorArgs
import Derived.Test.YtdpnlmofkkdioaaDoorVl
import Derived.Deep.SlicePairs
namespace Go.Proofs.YtdpnlmofkkdioaaDoor.W
set_option linter.unusedVariables false
set_option linter.unusedSimpArgs false
open Go.RowKit Go.ChangeShapes Go.WideShapes

theorem arg_plan {H : Type} {enc : TypeId × Value → H} {P : Program} {W : World} {b0 base : Nat} {spare : Nat → Bool} {held : Bool} {r : Reach} {t e : TypeId} {f0 f1 f2 f3 : Field} {v : Value} {d : DataW H} {ps : List MemPlace} {ts : List TypeId} {ds : List (DataW H)} {j : Nat}
    (hsz : (DataW.weightsEach P ts ds).all (· ≤ reachBytes) = true) (ht : ts[j]? = some t) (hd : ds[j]? = some d) (hu : P.underlying t = some (.slice e)) (he : P.underlying e = some (.struct #[f0, f1, f2, f3])) (hce : P.cellsOf e = 4) (o0 : f0.offset = 0) (o1 : f1.offset = 1) (o2 : f2.offset = 2) (o3 : f3.offset = 3)
    (c0 : P.cellsOf f0.type = 1) (c1 : P.cellsOf f1.type = 1) (c2 : P.cellsOf f2.type = 1) (c3 : P.cellsOf f3.type = 1) (t0 : P.underlying f0.type = some (.int .u8)) (t1 : P.underlying f1.type = some (.int .u16)) (t2 : P.underlying f2.type = some .bool) (t3 : P.underlying f3.type = some .bool) (hB : P.bytesOf e = 6) (hv : Value.okWide P W r b0 t v) (h : DataW.Trod enc P W base spare held t v d ps) :
    ∃ (A : Option Addr) (n c : Nat) (l : List (Int × Int × Bool × Bool)), v = .slice A n c ∧ l.length = n ∧ n ≤ c ∧ n ≤ 140737488351232 ∧ Hf.RP4 W A l ∧ n ≤ Rows.uptoBulk d := by
  obtain ⟨A, n, c, rfl⟩ := okWide_slice hu hv
  obtain ⟨fuel, hf⟩ := h
  rcases Go.Deep.open_slice hu hf with ⟨hcs, _⟩ | ⟨a, len, cap, m, n', D, Pl, hcs, _, hl, _, hm, hx, hcell⟩
  · simp [Value.cells] at hcs
    obtain ⟨rfl, rfl, rfl⟩ := hcs
    exact ⟨none, 0, 0, [], rfl, rfl, Nat.le_refl _, by simp, fun i k b c r h => by simp at h, Nat.zero_le _⟩
  · simp [Value.cells] at hcs
    obtain ⟨rfl, rfl, rfl⟩ := hcs
    obtain ⟨hx, _⟩ := Prod.mk.inj hx
    subst hx
    have z := sized_slice hsz ht hd hu
    rw [hB] at z
    have hnm : n ≤ m := by rw [hm]; split <;> omega
    rw [hce] at hcell
    have key : ∀ i, ∃ q : Int × Int × Bool × Bool, i < n → W.cell? (a.add (i * 4)) = some (.int .u8 q.1) ∧ W.cell? (a.add (i * 4 + 1)) = some (.int .u16 q.2.1) ∧ W.cell? (a.add (i * 4 + 2)) = some (.bool q.2.2.1) ∧ W.cell? (a.add (i * 4 + 3)) = some (.bool q.2.2.2) ∧ (0 ≤ q.1 ∧ q.1 < 256) ∧ (0 ≤ q.2.1 ∧ q.2.1 < 65536) := fun i => by
      by_cases hi : i < n
      · obtain ⟨cs', h1, h2⟩ := hcell i (by omega)
        obtain ⟨_, hlen, hc⟩ := World.cells?_some h1
        obtain ⟨xs, k, hk, hxy, _, hxl, hff⟩ := DataW.trod_struct he h2
        match xs, hxl, cs', hlen with
        | [y0, y1, y2, y3], _, [v0, v1, v2, v3], _ =>
          have g0 := hff 0 f0 rfl
          have g1 := hff 1 f1 rfl
          have g2 := hff 2 f2 rfl
          have g3 := hff 3 f3 rfl
          simp [o0, o1, o2, o3, c0, c1, c2, c3] at g0 g1 g2 g3
          have e0 := hc 0 (by omega)
          have e1 := hc 1 (by omega)
          have e2 := hc 2 (by omega)
          have e3 := hc 3 (by omega)
          rw [Go.Deep.add_add] at e0 e1 e2 e3
          obtain ⟨x0, q0, _, w0⟩ := DataW.trod_int t0 g0
          obtain ⟨x1, q1, _, w1⟩ := DataW.trod_int t1 g1
          obtain ⟨x2, q2, _⟩ := DataW.trod_bool t2 g2
          obtain ⟨x3, q3, _⟩ := DataW.trod_bool t3 g3
          injection q0 with q0
          injection q1 with q1
          injection q2 with q2
          injection q3 with q3
          subst q0 q1 q2 q3
          have b0 := bounds_u8 w0
          have b1 := bounds_u16 w1
          exact ⟨(x0, x1, x2, x3), fun _ => ⟨by simpa using e0, by simpa using e1, by simpa using e2, by simpa using e3, by dsimp only; omega, by dsimp only; omega⟩⟩
      · exact ⟨(0, 0, false, false), fun h => absurd h hi⟩
    obtain ⟨q, hq⟩ : ∃ q : Nat → Int × Int × Bool × Bool, ∀ i, i < n → W.cell? (a.add (i * 4)) = some (.int .u8 (q i).1) ∧ W.cell? (a.add (i * 4 + 1)) = some (.int .u16 (q i).2.1) ∧ W.cell? (a.add (i * 4 + 2)) = some (.bool (q i).2.2.1) ∧ W.cell? (a.add (i * 4 + 3)) = some (.bool (q i).2.2.2) ∧ (0 ≤ (q i).1 ∧ (q i).1 < 256) ∧ (0 ≤ (q i).2.1 ∧ (q i).2.1 < 65536) := ⟨fun i => (key i).choose, fun i => (key i).choose_spec⟩
    refine ⟨some a, n, c, (List.range n).map q, rfl, by simp, hl, ?_, fun i k nb cc rr hi => ?_, Nat.le_trans (by simp) (bulk_slice _ _)⟩
    · simp only [List.length_map, List.length_range, reachBytes] at z
      omega
    · have hin : i < n := by
        rcases Nat.lt_or_ge i n with h2 | h2
        · exact h2
        · rw [List.getElem?_eq_none (by simp; omega)] at hi; cases hi
      have hqi : q i = (k, nb, cc, rr) := by simpa [hin] using hi
      obtain ⟨g0, g1, g2, g3, h3, h4⟩ := hq i hin
      rw [hqi] at g0 g1 g2 g3 h3 h4
      obtain ⟨b1, off, spot⟩ := a
      have hspot : spot = none := by
        obtain ⟨g00, _⟩ := hq 0 (by omega)
        simpa [Addr.add] using World.cell?_spot g00
      subst hspot
      rw [Go.WideShapes.add_plain] at g0 g1 g2 g3
      exact ⟨b1, off, rfl, World.block_lt_of_cell? W ⟨b1, off + i * 4, none⟩ g0, g0, by rw [Nat.add_assoc]; exact g1, by rw [Nat.add_assoc]; exact g2, by rw [Nat.add_assoc]; exact g3, h3, h4⟩
end Go.Proofs.YtdpnlmofkkdioaaDoor.W
