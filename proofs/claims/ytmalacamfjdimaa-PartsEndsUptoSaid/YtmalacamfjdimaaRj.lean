/- What is true of the machine's timed events, and of its reason at the end (plain). -/
import Derived.Test.YtmalacamfjdimaaRh
namespace Go.Proofs.Ytmalacamfjdimaa.Pt
open Go.RowKit Go.Proofs.Ytmalacamfjdimaa.W

/-- Bytes are told of a part that was opened alone. -/
def PB (es : List (Nat × Ev)) : Prop := ∀ j t b, es[j]? = some (t, Ev.by_ b) → ((es.take j).map Prod.snd).foldl addEv [] ≠ []
section
variable {W : ByteArray} {l : List Int}
theorem Ms.inv' {i : Nat} (hm : Ms W l i) : Inv (stAt W l i).1 := ⟨hm.ok.inv.want0, hm.ok.inv.want, hm.ok.inv.at_, hm.ok.inv.by_, hm.ok.inv.step⟩
theorem opn_ne (h0 : 0 < W.size) (h1 : W.size ≤ 72) (hl : Bytes l) : ∀ i, i ≤ l.length → (stAt W l i).1.opn = true → (stAt W l i).2 ≠ [] := by
  intro i
  induction i with
  | zero => intro _ h; simp [stAt, runB, St.new] at h
  | succ i ih =>
    intro hi h
    have hm := Ms.all h0 h1 hl i (by omega)
    obtain ⟨x, hx⟩ : ∃ x, l[i]? = some x := ⟨_, List.getElem?_eq_getElem (by omega)⟩
    obtain ⟨_, _, _, _, _, h6, _⟩ := put_facts (stAt W l i).2 (hl x (List.mem_of_getElem? hx)) hm.inv' hm.ended hm.told (ih (by omega))
    have hn : nxt W l i = ((stAt W l i).1.put x).2 := by unfold nxt; rw [hx]
    rw [stAt_succ (by omega), hn] at h ⊢
    exact h6 h
theorem nxt_by (h0 : 0 < W.size) (h1 : W.size ≤ 72) (hl : Bytes l) {i : Nat} (hi : i ≤ l.length) : (noBy (nxt W l i).out ∨ (stAt W l i).2 ≠ []) ∧ (nxt W l i).out.length ≤ 100 := by
  have hm := Ms.all h0 h1 hl i hi
  have ho := opn_ne h0 h1 hl i hi
  unfold nxt
  cases hx : l[i]? with
  | some x =>
    obtain ⟨_, _, _, _, h5, _, h7⟩ := put_facts (stAt W l i).2 (hl x (List.mem_of_getElem? hx)) hm.inv' hm.ended hm.told ho
    exact ⟨h5, h7⟩
  | none =>
    obtain ⟨_, h2, h3⟩ := fin_facts (stAt W l i).2 hm.ended hm.told ho hm.inv'.ok.hold
    exact ⟨h2, h3⟩
theorem T_by (h0 : 0 < W.size) (h1 : W.size ≤ 72) (hl : Bytes l) : ∀ i, i ≤ l.length + 1 → PB (T W l i) := by
  intro i
  induction i with
  | zero => intro _ j t b h; simp [T] at h
  | succ i ih =>
    intro hi j t b h
    rw [T] at h ⊢
    rw [List.getElem?_append] at h
    rw [List.take_append]
    by_cases hj : j < (T W l i).length
    · rw [if_pos hj] at h
      rw [show j - (T W l i).length = 0 by omega, List.take_zero, List.append_nil]
      exact ih (by omega) j t b h
    · rw [if_neg hj] at h
      rw [List.take_of_length_le (by omega), List.map_append, List.foldl_append, ← T_parts (by omega)]
      refine fold_ne ?_
      rcases (nxt_by h0 h1 hl (i := i) (by omega)).1 with h2 | h2
      · obtain ⟨e, he, hee⟩ := List.mem_map.1 (List.mem_of_getElem? h)
        injection hee with _ hee
        subst hee
        exact absurd he (h2 b)
      · exact h2
theorem T_len (h0 : 0 < W.size) (h1 : W.size ≤ 72) (hl : Bytes l) : ∀ i, i ≤ l.length + 1 → (T W l i).length ≤ 100 * i := by
  intro i
  induction i with
  | zero => intro _; simp [T]
  | succ i ih =>
    intro hi
    rw [T, List.length_append, List.length_map]
    have := (nxt_by h0 h1 hl (i := i) (by omega)).2
    have := ih (by omega)
    omega
theorem whole_reason (h0 : 0 < W.size) (h1 : W.size ≤ 72) (hl : Bytes l) : (whole W l).1.reason = if (whole W l).1.over then 0 else 33 := by
  have hm := Ms.all h0 h1 hl l.length (Nat.le_refl _)
  have e : whole W l = stAt W l (l.length + 1) := by rw [stAt, if_neg (by omega)]
  have hn : nxt W l l.length = (stAt W l l.length).1.fin8 := by unfold nxt; rw [List.getElem?_eq_none (Nat.le_refl _)]
  have hen : (nxt W l l.length).ended = true := by
    rw [hn]
    unfold St.fin8
    rw [if_neg (by rw [hm.ended, hm.told]; simp)]
    split
    · rfl
    · split
      · unfold St.e2; split <;> rfl
      · unfold St.e2; split <;> rfl
  rw [e, stAt_succ (Nat.le_refl _)]
  unfold St.reason
  show (if (!(nxt W l l.length).ended || decide ((nxt W l l.length).out.length < (nxt W l l.length).out.length) || (nxt W l l.length).over) = true then (0 : Int) else 33) = if (nxt W l l.length).over = true then 0 else 33
  rw [hen]
  simp
theorem whole_parts : (whole W l).2 = ((T W l (l.length + 1)).map Prod.snd).foldl addEv [] := by
  rw [← T_parts (Nat.le_refl _), stAt, if_neg (by omega)]
end
theorem want_head (b : ByteArray) : (strL (⟨#[45, 45]⟩ ++ b)).head? = some 45 := by
  unfold strL
  rw [ByteArray.data_append]
  simp
end Go.Proofs.Ytmalacamfjdimaa.Pt
