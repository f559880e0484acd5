/- InflatePlays: the object under whatever calls. -/
import Derived.Test.YtdpnlmofkkdioaaDoorUc
namespace Go.Proofs.YtdpnlmofkkdioaaDoor.Hf
set_option linter.unusedVariables false
set_option linter.unusedSimpArgs false
open Go.RowKit Go.Proofs.YtdpnlmofkkdioaaDoor.W

structure Px (wx : World) (d r p q g : Nat) (inn : List Int) (t : St) (rdy : Bool) (o : Int) (ol : List Int) (ended : Bool) : Prop where
  pn : Pn inn t t.m rdy o ol
  inf : ∃ mp b0, Inf wx d r p q g mp t.out b0 rdy o ∧ Ok mp t.out ∧ (ended = false → Rel t.m mp ∧ (rdy = true ∨ Live mp → b0 = (bits8 inn).drop t.pos)) ∧ (ended = true → Live t.m ∧ rdy = false ∧ mp.fin = false ∧ mp.why = 1)
section
variable {w w' : World} {d r p q g : Nat} {inn : List Int} {t : St} {mp : M} {rdy : Bool} {o : Int} {ol : List Int} {ended : Bool}
theorem Pn.canon (h : Pn inn t mp rdy o ol) : Pn inn t t.m rdy o ol := ⟨h.path, Rel.refl _, h.no, h.yes, h.near, h.fresh⟩
theorem Px.of_sx (h : Sx w d r p q g inn t mp rdy o ol) : Px w d r p q g inn t rdy o ol false := by
  obtain ⟨b0, h1, h2⟩ := h.inf
  exact ⟨h.pn.canon, mp, b0, h1, h.ok, fun _ => ⟨h.pn.rel, h2⟩, fun h => (by cases h)⟩
theorem Px.sx (h : Px w d r p q g inn t rdy o ol false) : ∃ mp, Sx w d r p q g inn t mp rdy o ol := by
  obtain ⟨mp, b0, h1, h2, h3, _⟩ := h.inf
  obtain ⟨h4, h5⟩ := h3 rfl
  exact ⟨mp, ⟨h.pn.path, h4, h.pn.no, h.pn.yes, h.pn.near, h.pn.fresh⟩, ⟨b0, h1, h5⟩, h2⟩
theorem Px.keep (h : Px w d r p q g inn t rdy o ol ended) (hk : Kp [] w w') : Px w' d r p q g inn t rdy o ol ended := by
  obtain ⟨mp, b0, h1, h2, h3, h4⟩ := h.inf
  exact ⟨h.pn, mp, b0, h1.row' hk (fun k hk => (by cases hk)) (fun k _ hk => (by cases hk)), h2, h3, h4⟩
/-- What grows a row of bytes that is not the object's leaves it. -/
theorem Px.row (h : Px w d r p q g inn t rdy o ol ended) {T : List Nat} (hk : Kp T w w') (hT : ∀ k ∈ T, ∃ cs, w.heap[k]? = some (.cells cs 5 (0, 0))) (hD : ∀ k ∈ [d, r, p, q, g], k ∉ T) : Px w' d r p q g inn t rdy o ol ended := by
  obtain ⟨mp, b0, h1, h2, h3, h4⟩ := h.inf
  exact ⟨h.pn, mp, b0, h1.row' hk hT hD, h2, h3, h4⟩
theorem Px.not_ended (h : Px w d r p q g inn t true o ol ended) : ended = false := by
  obtain ⟨mp, b0, h1, h2, h3, h4⟩ := h.inf
  cases ended with
  | false => rfl
  | true => exact absurd (h4 rfl).2.1 (by simp)
theorem px_next (h : Px w d r p q g inn t true o ol false) (hG : Gt w [d, r, p, q, g]) :
    Calls Tryd.prog 19 #[.pointer (some ⟨d, 0, none⟩)] w fun e w' => e = .returned (.tuple #[.int .u8 o, .bool true]) ∧ ∃ t' rdy' o', Px w' d r p q g inn t' rdy' o' (ol ++ [o]) false ∧ Kp [d, r, p, q, g] w w' := by
  obtain ⟨mp, hs⟩ := h.sx
  refine (c_next_any hs hG).mono ?_
  rintro e w' ⟨rfl, t', mp', rdy', o', h1, h2, _⟩
  exact ⟨rfl, t', rdy', o', .of_sx h1, h2⟩
theorem px_next_no (h : Px w d r p q g inn t false o ol ended) : Calls Tryd.prog 19 #[.pointer (some ⟨d, 0, none⟩)] w fun e w' => e = .returned (.tuple #[.int .u8 0, .bool false]) ∧ w = w' := by
  obtain ⟨mp, b0, h1, _⟩ := h.inf
  exact c_next_no h1
/-- Is more taken? -/
def Open (t : St) (rdy ended : Bool) : Prop := rdy = false ∧ ended = false ∧ Live t.m
theorem Px.shut (h : Px w d r p q g inn t rdy o ol ended) (hn : ¬ Open t rdy ended) {mp : M} (h3 : ended = false → Rel t.m mp) (h4 : ended = true → mp.why = 1) : Shut mp rdy := by
  cases hr : rdy with
  | true => exact .inl rfl
  | false =>
    refine .inr fun hl => ?_
    cases he : ended with
    | true => have := h4 he; have := hl.1; omega
    | false => exact hn ⟨hr, he, (h3 he).live.1 hl⟩
theorem px_end_no (h : Px w d r p q g inn t rdy o ol ended) (hn : ¬ Open t rdy ended) : Calls Tryd.prog 20 #[.pointer (some ⟨d, 0, none⟩)] w fun e w' => e = .returned (.tuple #[]) ∧ w = w' := by
  obtain ⟨mp, b0, h1, h2, h3, h4⟩ := h.inf
  exact c_end_no h1 (h.shut hn (fun he => (h3 he).1) (fun he => (h4 he).2.2.2))
theorem px_end_yes (h : Px w d r p q g inn t false o ol false) (hl : Live t.m) : Calls Tryd.prog 20 #[.pointer (some ⟨d, 0, none⟩)] w fun e w' => e = .returned (.tuple #[]) ∧ Px w' d r p q g inn t false 0 ol true ∧ Kp [d, r, p, q, g] w w' := by
  obtain ⟨mp, b0, h1, h2, h3, h4⟩ := h.inf
  obtain ⟨hn1, hn2, hn3⟩ := h.pn.no rfl
  subst hn3
  have hlm := (h3 rfl).1.live.2 hl
  refine (c_end_yes h1 hlm).mono ?_
  rintro e w' ⟨rfl, h5, h6⟩
  exact ⟨rfl, ⟨⟨h.pn.path, Rel.refl _, fun _ => ⟨hn1, hn2, rfl⟩, fun h => (by cases h), fun h => (by cases h), h.pn.fresh⟩, _, b0, h5, h2.stop (by decide), fun h => (by cases h), fun _ => ⟨hl, rfl, hlm.2, rfl⟩⟩, h6.mono (by simp)⟩
theorem px_reset (h : Px w d r p q g inn t rdy o ol ended) : Calls Tryd.prog 21 #[.pointer (some ⟨d, 0, none⟩)] w fun e w' => e = .returned (.tuple #[]) ∧ Px w' d r p q g [] st0 false 0 [] false ∧ Kp [d, r, p, q, g] w w' := by
  obtain ⟨mp, b0, h1, h2, h3, h4⟩ := h.inf
  refine (c_reset h1).mono ?_
  rintro e w' ⟨rfl, h5, h6⟩
  exact ⟨rfl, ⟨⟨.refl _, Rel.refl _, fun _ => ⟨next_none.2 fun _ => rfl, rfl, rfl⟩, fun h => (by cases h), fun h => (by cases h), Nat.le_refl _⟩, _, [], h5, h2.reset, fun _ => ⟨Rel.reset mp, fun _ => rfl⟩, fun h => (by cases h)⟩, h6⟩
theorem px_put_no (x : Int) (h : Px w d r p q g inn t rdy o ol ended) (hn : ¬ Open t rdy ended) : Calls Tryd.prog 18 #[.pointer (some ⟨d, 0, none⟩), .int .u8 x] w fun e w' => e = .returned (.bool false) ∧ w = w' := by
  obtain ⟨mp, b0, h1, h2, h3, h4⟩ := h.inf
  exact c_put_no x h1 (h.shut hn (fun he => (h3 he).1) (fun he => (h4 he).2.2.2))
theorem px_put (x : Int) (h : Px w d r p q g inn t false o ol false) (hl : Live t.m) (hB : 0 ≤ x ∧ x < 256) (hG : Gt w [d, r, p, q, g]) :
    Calls Tryd.prog 18 #[.pointer (some ⟨d, 0, none⟩), .int .u8 x] w fun e w' => e = .returned (.bool true) ∧ ∃ t' rdy' o', Px w' d r p q g (inn ++ [x]) t' rdy' o' ol false ∧ Kp [d, r, p, q, g] w w' := by
  obtain ⟨mp, b0, h1, h2, h3, h4⟩ := h.inf
  obtain ⟨hr, hb⟩ := h3 rfl
  obtain ⟨hn1, hn2, hn3⟩ := h.pn.no rfl
  subst hn3 hn2
  have hlm := hr.live.2 hl
  have hpw : Pw inn t mp := ⟨h.pn.path, hn1, hr⟩
  have hsm := hpw.small hl
  rw [hb (.inr hlm)] at h1
  refine (c_put_yes x h1 hlm (by rw [List.length_drop, bits8_length]; omega) h2 hG hB.1 hB.2).mono ?_
  rintro e w' ⟨rfl, ha⟩
  obtain ⟨t', mp', rdy', o', k1, k2, k3, k4, _⟩ := hpw.put hlm ha
  exact ⟨rfl, t', rdy', o', .of_sx ⟨k1, ⟨_, k2, fun _ => rfl⟩, k3⟩, k4⟩
theorem px_done (h : Px w d r p q g inn t rdy o ol ended) : Calls Tryd.prog 16 #[.pointer (some ⟨d, 0, none⟩)] w fun e w' => e = .returned (.bool (t.m.fin && !rdy)) ∧ w = w' := by
  obtain ⟨mp, b0, h1, h2, h3, h4⟩ := h.inf
  have hd := c_done h1
  have e : mp.fin = t.m.fin := by
    cases ended with
    | false => exact (h3 rfl).1.fin
    | true => obtain ⟨k1, _, k3, _⟩ := h4 rfl; rw [k3, k1.2]
  rw [e] at hd
  exact hd
theorem px_reason (h : Px w d r p q g inn t rdy o ol ended) : Calls Tryd.prog 17 #[.pointer (some ⟨d, 0, none⟩)] w fun e w' => e = .returned (.int .i64 ((if rdy then 0 else if ended then 1 else t.m.why : Nat) : Int)) ∧ w = w' := by
  obtain ⟨mp, b0, h1, h2, h3, h4⟩ := h.inf
  have hd := c_reason h1
  have e : mp.why = if ended then 1 else t.m.why := by
    cases ended with
    | false => exact (h3 rfl).1.why
    | true => exact (h4 rfl).2.2.2
  rw [e] at hd
  exact hd
end
section
variable {inn : List Int} {t : St} {mp : M} {o : Int} {ol : List Int} {N : Nat} {out : List Int} {ts : List Nat} {a why : Nat} {e : Bool}
theorem Pn.known' (h : Pn inn t mp true o ol) (hR : Res st0 (bits8 inn) N out ts a why e) (hw : why ≠ 62) : out[ol.length]? = some o ∧ ol.length < out.length := by
  obtain ⟨u, u1, u2, u3, u4⟩ := h.yes rfl
  obtain ⟨f, f1, rfl⟩ : ∃ f, Path (bits8 inn) t f ∧ f.out = out := by
    cases hR with
    | dead p hd hn => exact ⟨_, p.final (dead_next hd) h.path, rfl⟩
    | cut p hl hx hn => exact ⟨_, p.final hx h.path, rfl⟩
    | much p hx ho hn => exact absurd rfl hw
  obtain ⟨tl, htl⟩ := f1.out.1
  rw [← htl, u3, u4]
  refine ⟨?_, by simp⟩
  rw [List.append_assoc, List.getElem?_append_right (Nat.le_refl _), Nat.sub_self]
  rfl
/-- What stands with the object: it waits to be asked; it takes more; no more comes; it has ended; it was stopped. -/
inductive Cs (t : St) (rdy ended : Bool) (ol out : List Int) (why : Nat) (en : Bool) : Prop where
  | ready (o : Int) (h1 : rdy = true) (h2 : ended = false) (h3 : out[ol.length]? = some o) (h4 : ol.length < out.length)
  | live (h1 : rdy = false) (h2 : ended = false) (h3 : Live t.m) (h4 : out = ol) (h5 : why = 1) (h6 : en = false)
  | over (h1 : rdy = false) (h2 : ended = true) (h3 : Live t.m) (h4 : out = ol) (h5 : why = 1) (h6 : en = false)
  | fin (h1 : rdy = false) (h2 : ended = false) (h3 : ¬ Live t.m) (h4 : out = ol) (h5 : why = 0) (h6 : en = true) (h7 : t.m.fin = true) (h8 : t.m.why = 0)
  | stop (h1 : rdy = false) (h2 : ended = false) (h3 : ¬ Live t.m) (h4 : out = ol) (h5 : why ≠ 0) (h6 : en = false) (h7 : t.m.fin = false) (h8 : t.m.why = why) (h9 : why ≠ 1)
theorem Px.cs {w : World} {d r p q g : Nat} {rdy ended : Bool} (h : Px w d r p q g inn t rdy o ol ended) (hR : Res st0 (bits8 inn) N out ts a why e) (hw : why ≠ 62) : Cs t rdy ended ol out why e ∧ (rdy = true → out[ol.length]? = some o) := by
  cases rdy with
  | true =>
    obtain ⟨h1, h2⟩ := h.pn.known' hR hw
    exact ⟨.ready o rfl h.not_ended h1 h2, fun _ => h1⟩
  | false =>
    refine ⟨?_, fun h => (by cases h)⟩
    have hpw := h.pn.over
    obtain ⟨q1, q2, q3, q4⟩ := hpw.last hR (fun h => absurd h hw)
    have hwy := hpw.path.wy wy0
    have hol := (h.pn.no rfl).2.1
    rw [← hol] at q1
    obtain ⟨mp', b0, h1, h2, h3, h4⟩ := h.inf
    by_cases hl : Live t.m
    · obtain ⟨k1, k2⟩ := q3 hl
      cases ended with
      | false => exact .live rfl rfl hl q1 k1 k2
      | true => exact .over rfl rfl hl q1 k1 k2
    · obtain ⟨k1, k2⟩ := q4 hl
      have he : ended = false := by
        cases ended with
        | false => rfl
        | true => exact absurd (h4 rfl).1 hl
      cases hf : t.m.fin with
      | true =>
        have h0 := hwy.1 hf
        exact .fin rfl he hl q1 (by rw [k1, h0]) (by rw [k2, hf]) hf h0
      | false =>
        have h0 : t.m.why ≠ 0 := fun h9 => hl ⟨h9, hf⟩
        exact .stop rfl he hl q1 (by rw [k1]; exact h0) (by rw [k2, hf]) hf k1.symm (by rw [k1]; exact hwy.2.1)
end
end Go.Proofs.YtdpnlmofkkdioaaDoor.Hf
