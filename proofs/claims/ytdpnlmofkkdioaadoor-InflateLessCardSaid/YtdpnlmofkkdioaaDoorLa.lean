/- Fewer bytes are asked for (plain). -/
import Derived.Test.YtdpnlmofkkdioaaDoorMd
namespace Go.Proofs.YtdpnlmofkkdioaaDoor.Hf
set_option linter.unusedVariables false
set_option linter.unusedSimpArgs false

theorem Res.len_le {s0 : St} {bs : List Bool} {n : Nat} {o : List Int} {ts : List Nat} {a w : Nat} {e : Bool} (h : Res s0 bs n o ts a w e) : o.length ≤ n := by
  cases h with
  | dead p hd hn => exact hn
  | cut p hl hx hn => exact hn
  | much p hx ho hn => omega
/-- As many as there are: the same. -/
theorem Res.all {s0 : St} {bs : List Bool} {n k : Nat} {o o' : List Int} {ts ts' : List Nat} {a a' w w' : Nat} {e e' : Bool} (h : Res s0 bs n o ts a w e) (h' : Res s0 bs k o' ts' a' w' e') (hk : k = o.length) (hw : w ≠ 62) : o' = o ∧ a' = a ∧ w' = w := by
  have h2 : Res s0 bs k o ts a w e := by
    cases h with
    | dead p hd hn => exact .dead p hd (by omega)
    | cut p hl hx hn => exact .cut p hl hx (by omega)
    | much p hx ho hn => exact absurd rfl hw
  obtain ⟨h3, _, h4, h5, _⟩ := h'.uniq h2
  exact ⟨h3, h4, h5⟩
theorem St.final_out {bs : List Bool} {s0 t : St} (p : Path bs s0 t) (hx : next bs t = none) {u : St} (p2 : Path bs s0 u) : u.out.length ≤ t.out.length := (p.final hx p2).out.1.length_le
/-- Fewer: the first ones, and that there are more. -/
theorem Res.few {s0 : St} {bs : List Bool} {n k : Nat} {o o' : List Int} {ts ts' : List Nat} {a a' w w' : Nat} {e e' : Bool} (h : Res s0 bs n o ts a w e) (h' : Res s0 bs k o' ts' a' w' e') (hk : k < o.length) (hp0 : s0.pos ≤ bs.length) : w' = 62 ∧ o' = o.take k ∧ a' ≤ a := by
  obtain ⟨v, pv, ho, hva⟩ : ∃ v, Path bs s0 v ∧ v.out = o ∧ (v.pos - 1) / 8 ≤ a := by
    cases h with
    | dead p hd hn => exact ⟨_, p, rfl, Nat.le_refl _⟩
    | cut p hl hx hn => exact ⟨_, p, rfl, by have := (p.pos hp0).2; omega⟩
    | much p hx ho hn => exact ⟨_, p, rfl, by have := (next_pos (p.pos hp0).2 hx).1; omega⟩
  subst ho
  cases h' with
  | dead p hd hn => exact absurd (St.final_out p (dead_next hd) pv) (by omega)
  | cut p hl hx hn => exact absurd (St.final_out p hx pv) (by omega)
  | @much u t x p hx ho hn =>
    rcases p.linear pv with q | q
    · cases q with
      | refl => omega
      | cons h1 q1 =>
        rw [hx] at h1
        injection h1 with h1
        subst h1
        have q2 := ((Path.one hx).trans q1).out.1
        refine ⟨rfl, ?_, ?_⟩
        · rw [← hn]; exact List.prefix_iff_eq_take.1 q2
        · have := (q1.pos ((next_pos (p.pos hp0).2 hx).2)).1
          omega
    · have := q.out.1.length_le
      omega
end Go.Proofs.YtdpnlmofkkdioaaDoor.Hf
