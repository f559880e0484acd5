/- The timed events, byte for byte (plain). -/
import Derived.Test.YtmalacamfjdimaaRn
namespace Go.Proofs.Ytmalacamfjdimaa.Pt
open Go.RowKit Go.Proofs.Ytmalacamfjdimaa.W

section
variable {W : ByteArray} {l : List Int}
theorem T_pre (i : Nat) : ∀ d, ∃ r, T W l (i + d) = T W l i ++ r ∧ ∀ t ∈ r, i ≤ t.1 := by
  intro d
  induction d with
  | zero => exact ⟨[], by simp, fun t h => by cases h⟩
  | succ d ih =>
    obtain ⟨r, h1, h2⟩ := ih
    refine ⟨r ++ (nxt W l (i + d)).out.map (fun e => (i + d, e)), ?_, fun t ht => ?_⟩
    · rw [← Nat.add_assoc, T, h1, List.append_assoc]
    · rcases List.mem_append.1 ht with h | h
      · exact h2 t h
      · obtain ⟨e, _, rfl⟩ := List.mem_map.1 h
        show i ≤ i + d
        omega
theorem T_at {i n : Nat} (hi : i ≤ n) : ∃ r, T W l (n + 1) = T W l i ++ ((nxt W l i).out.map fun e => (i, e)) ++ r ∧ ∀ t ∈ r, i + 1 ≤ t.1 := by
  obtain ⟨r, h1, h2⟩ := T_pre (W := W) (l := l) (i + 1) (n - i)
  rw [show i + 1 + (n - i) = n + 1 by omega] at h1
  exact ⟨r, by rw [h1, T], h2⟩
theorem T_ev {i n j : Nat} {e : Ev} (hi : i ≤ n) (h : (nxt W l i).out[j]? = some e) : (T W l (n + 1))[(T W l i).length + j]? = some (i, e) := by
  obtain ⟨r, h1, _⟩ := T_at (W := W) (l := l) hi
  have hj := (List.getElem?_eq_some_iff.1 h).1
  rw [h1, List.getElem?_append_left (by simp; omega), List.getElem?_append_right (by omega), show (T W l i).length + j - (T W l i).length = j by omega, List.getElem?_map, h]
  rfl
theorem T_end {i n t : Nat} {e : Ev} (hi : i ≤ n) (h : (T W l (n + 1))[(T W l i).length + (nxt W l i).out.length]? = some (t, e)) : t ≠ i := by
  obtain ⟨r, h1, h2⟩ := T_at (W := W) (l := l) hi
  rw [h1, List.getElem?_append_right (by simp)] at h
  have := h2 _ (List.mem_of_getElem? h)
  dsimp only at this
  omega
theorem T_le {i n : Nat} (hi : i ≤ n) : (T W l i).length + (nxt W l i).out.length ≤ (T W l (n + 1)).length := by
  obtain ⟨r, h1, _⟩ := T_at (W := W) (l := l) hi
  rw [h1]; simp
theorem T_len_succ (i : Nat) : (T W l i).length + (nxt W l i).out.length = (T W l (i + 1)).length := by rw [T]; simp

theorem Inv.cong {s t : St} (h : Inv s) (h1 : t.want = s.want) (h2 : t.at_ = s.at_) (h3 : t.hold = s.hold) (h4 : t.step = s.step) : Inv t := by
  obtain ⟨a, b, c, d, e⟩ := h
  exact ⟨by rw [h1]; exact a, by rw [h1]; exact b, by rw [h2]; exact c, by rw [h3]; exact d, by rw [h4, h3, h2, h1]; exact e⟩
theorem Inv.fin {s : St} (h : Inv s) : Inv s.fin8 := by
  have h1 : Inv s.e1 := h.cong rfl rfl rfl rfl
  have h2 : Inv s.e2 := by
    unfold St.e2
    split
    · exact Inv.delim h.want0 h.want
    · exact Inv.free h.want0 h.want h.at_
  unfold St.fin8
  split
  · exact h
  · split
    · exact h1
    · split
      · exact h2.cong rfl rfl rfl rfl
      · exact h2
/-- A state behind the end. -/
theorem end_facts (h0 : 0 < W.size) (h1 : W.size ≤ 72) (hl : Bytes l) : Inv (stAt W l (l.length + 1)).1 ∧ (stAt W l (l.length + 1)).1.ended = true ∧ (nxt W l l.length).told = 0 ∧ Inv (nxt W l l.length) := by
  have hm := Ms.all h0 h1 hl l.length (Nat.le_refl _)
  have hn : nxt W l l.length = (stAt W l l.length).1.fin8 := by unfold nxt; rw [List.getElem?_eq_none (Nat.le_refl _)]
  have hI : Inv (nxt W l l.length) := by rw [hn]; exact hm.inv'.fin
  have hen : (nxt W l l.length).ended = true := by
    rw [hn]
    unfold St.fin8
    rw [if_neg (by rw [hm.ended, hm.told]; simp)]
    split
    · rfl
    · split
      · unfold St.e2; split <;> rfl
      · unfold St.e2; split <;> rfl
  obtain ⟨h4, _, _⟩ := fin_facts (stAt W l l.length).2 hm.ended hm.told (opn_ne h0 h1 hl _ (Nat.le_refl _)) hm.inv'.ok.hold
  rw [stAt_succ (Nat.le_refl _)]
  exact ⟨hI.drain, hen, by rw [hn]; exact h4, hI⟩
theorem byte_facts (h0 : 0 < W.size) (h1 : W.size ≤ 72) (hl : Bytes l) {i : Nat} {x : Int} (hx : l[i]? = some x) :
    (stAt W l i).1.put x = (true, nxt W l i) ∧ (stAt W l i).1.Ok ∧ (stAt W l i).1.told ≤ 96 + (stAt W l i).1.out.length ∧ (nxt W l i).told = 0 ∧ Inv (nxt W l i) ∧ (stAt W l (i + 1)).1.reason = 0 := by
  have hi := (List.getElem?_eq_some_iff.1 hx).1
  have hm := Ms.all h0 h1 hl i (by omega)
  obtain ⟨h2, h3, h4, h5, _, _, _⟩ := put_facts (stAt W l i).2 (hl x (List.mem_of_getElem? hx)) hm.inv' hm.ended hm.told (opn_ne h0 h1 hl i (by omega))
  have hn : nxt W l i = ((stAt W l i).1.put x).2 := by unfold nxt; rw [hx]
  rw [stAt_succ (by omega)]
  refine ⟨by rw [hn, ← h2], hm.inv'.ok, by rw [hm.told]; omega, by rw [hn]; exact h3, by rw [hn]; exact h5, ?_⟩
  unfold St.reason
  rw [if_pos (by rw [show (nxt W l i).drain.ended = (nxt W l i).ended from rfl, hn, h4]; rfl)]
end
end Go.Proofs.Ytmalacamfjdimaa.Pt
