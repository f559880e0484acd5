/- How a [2][]byte argument of a row is opened. -/
import Derived.Test.YtmalacamfjdimaaArgs
import Derived.Laws.IdiomArrays
import Derived.Deep.Matrix
namespace Go.Proofs.Ytmalacamfjdimaa.W
open Go.RowKit Go.ChangeShapes Go.WideShapes Go.Deep

/-- Bytes that came in. -/
structure SlArg (w : World) (A : Option Addr) (n c : Nat) (l : List Int) : Prop where
  len : l.length = n
  cap : n ≤ c
  by_ : Bytes l
  rb : RB w A l
theorem arg_sl {H : Type} {enc : TypeId × Value → H} {P : Program} {W : World} {base : Nat} {spare : Nat → Bool} {held : Bool} {e q : TypeId} {v : Value} {y : DataW H × List MemPlace} {m : Nat}
    (he : P.underlying e = some (.slice q)) (hq : P.underlying q = some (.int .u8)) (cq : P.cellsOf q = 1) (h : DataW.trod enc P W base spare held m e [v] = some y) :
    ∃ (A : Option Addr) (n c : Nat) (l : List Int), v = .slice A n c ∧ SlArg W A n c l ∧ n ≤ Rows.uptoBulk y.1 := by
  rcases open_ints he hq cq h with ⟨hcs, _⟩ | ⟨x, l, c', zs, hcs, _, hl, _, hz, hx, hcell, hwf⟩
  · simp at hcs
    subst hcs
    exact ⟨none, 0, 0, [], rfl, ⟨rfl, Nat.le_refl _, (fun x hx => by cases hx), RV.nil _ _⟩, Nat.zero_le _⟩
  · simp at hcs
    subst hcs hx
    have hl2 : l ≤ zs.length := by
      rw [hz]
      split
      · exact hl
      · exact Nat.le_refl _
    refine ⟨some x, l, c', zs.take l, rfl, ⟨by simp; omega, hl, bytes_wf (fun z hz => hwf z (List.mem_of_mem_take hz)), fun i u hi => ?_⟩, Nat.le_trans (by simp [lits]; omega) (bulk_slice _ _)⟩
    unfold u8s at hi
    have hin : i < l := by
      rcases Nat.lt_or_ge i l with h2 | h2
      · exact h2
      · rw [List.getElem?_eq_none (by simp; omega)] at hi; cases hi
    obtain ⟨b, off, rfl, hc⟩ := ints_at hcell (by omega)
    have hci := hc i (by omega)
    refine ⟨b, off, rfl, World.block_lt_of_cell? W ⟨b, off + i, none⟩ hci, ?_⟩
    rw [hci, ← hi, List.getElem?_map, List.getElem?_take, if_pos hin, List.getElem?_eq_getElem (show i < zs.length by omega)]
    simp [List.getD, List.getElem?_eq_getElem (show i < zs.length by omega)]
theorem trod_array2 {H : Type} {enc : TypeId × Value → H} {P : Program} {w : World} {base : Nat} {spare : Nat → Bool} {held : Bool} {t e : TypeId} {fuel : Nat} {c0 c1 : Value} {x : DataW H × List MemPlace} (ht : P.underlying t = some (.array 2 e)) (hce : P.cellsOf e = 1)
    (h : DataW.trod enc P w base spare held fuel t [c0, c1] = some x) :
    ∃ y0 y1 n, x = (.agg [y0.1, y1.1], y0.2 ++ y1.2) ∧ DataW.trod enc P w base spare held n e [c0] = some y0 ∧ DataW.trod enc P w base spare held n e [c1] = some y1 := by
  cases fuel with
  | zero => simp [DataW.trod] at h
  | succ n =>
    unfold DataW.trod at h
    rw [ht] at h
    have r2 : List.range 2 = [0, 1] := rfl
    simp [r2, hce] at h
    obtain ⟨_, h⟩ := h
    cases h0 : DataW.trod enc P w base spare held n e [c0] with
    | none => simp [h0] at h
    | some y0 =>
      cases h1 : DataW.trod enc P w base spare held n e [c1] with
      | none => simp [h0, h1] at h
      | some y1 =>
        simp [h0, h1] at h
        exact ⟨y0, y1, n, h.symm, h0, h1⟩
theorem arg_pair {H : Type} {enc : TypeId × Value → H} {P : Program} {W : World} {b0 base : Nat} {spare : Nat → Bool} {held : Bool} {r : Reach} {t e q : TypeId} {v : Value} {d : DataW H} {ps : List MemPlace}
    (hu : P.underlying t = some (.array 2 e)) (he : P.underlying e = some (.slice q)) (hq : P.underlying q = some (.int .u8)) (ce : P.cellsOf e = 1) (cq : P.cellsOf q = 1) (ct : P.cellsOf t = 2)
    (hv : Value.okWide P W r b0 t v) (h : DataW.Trod enc P W base spare held t v d ps) :
    ∃ (A0 : Option Addr) (n0 c0 : Nat) (l0 : List Int) (A1 : Option Addr) (n1 c1 : Nat) (l1 : List Int), v = .agg #[.slice A0 n0 c0, .slice A1 n1 c1] ∧ SlArg W A0 n0 c0 l0 ∧ SlArg W A1 n1 c1 l1 ∧ n0 + n1 ≤ Rows.uptoBulk d := by
  obtain ⟨fuel, hf⟩ := h
  have hv2 := hv
  simp only [Value.okWide, hu] at hv2
  obtain ⟨cs, rfl, h2, _⟩ := hv2
  rw [ct] at h2
  obtain ⟨v0, v1, rfl⟩ : ∃ v0 v1, cs = #[v0, v1] := by
    obtain ⟨l⟩ := cs
    match l, h2 with
    | [a, b], _ => exact ⟨a, b, rfl⟩
  obtain ⟨y0, y1, n, hx, h0, h1⟩ := trod_array2 hu ce (by simpa [Value.cells] using hf)
  obtain ⟨A0, n0, c0, l0, rfl, s0, b0⟩ := arg_sl he hq cq h0
  obtain ⟨A1, n1, c1, l1, rfl, s1, b1⟩ := arg_sl he hq cq h1
  simp only [Prod.mk.injEq] at hx
  obtain ⟨rfl, _⟩ := hx
  refine ⟨A0, n0, c0, l0, A1, n1, c1, l1, rfl, s0, s1, ?_⟩
  simp only [Rows.uptoBulk, Rows.uptoBulkAll]
  omega
end Go.Proofs.Ytmalacamfjdimaa.W
