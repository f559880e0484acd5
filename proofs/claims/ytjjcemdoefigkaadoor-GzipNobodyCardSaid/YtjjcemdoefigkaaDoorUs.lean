/- The object of bytes put in one at a time: the contracts of Put and Next. -/
import Derived.Test.YtjjcemdoefigkaaDoorUa
namespace Go.Proofs.YtjjcemdoefigkaaDoor.Hf
set_option linter.unusedVariables false
set_option linter.unusedSimpArgs false
open Go.RowKit Go.Proofs.YtjjcemdoefigkaaDoor.W

/-- The machine's object, and what was told of the bytes put in. -/
structure Sx (wx : World) (d r p q g : Nat) (l' : List Int) (t : St) (mp : M) (rdy : Bool) (o : Int) (ol : List Int) : Prop where
  pn : Pn l' t mp rdy o ol
  inf : ∃ b0, Inf wx d r p q g mp t.out b0 rdy o ∧ (rdy = true ∨ Live mp → b0 = (bits8 l').drop t.pos)
  ok : Ok mp t.out
theorem Sx.keep {wx w' : World} {d r p q g : Nat} {l' : List Int} {t : St} {mp : M} {rdy : Bool} {o : Int} {ol : List Int} (h : Sx wx d r p q g l' t mp rdy o ol) (hk : Kp [] wx w') : Sx w' d r p q g l' t mp rdy o ol :=
  ⟨h.pn, by obtain ⟨b0, h1, h2⟩ := h.inf; exact ⟨b0, h1.row' hk (fun k hk => (by cases hk)) (fun k _ hk => (by cases hk)), h2⟩, h.ok⟩
def PutP (w : World) (d r p q g : Nat) (l' : List Int) (x : Int) (ol : List Int) (yes : Bool) (e : Ending) (w' : World) : Prop :=
  e = .returned (.bool yes) ∧ ∃ t mp rdy o, Sx w' d r p q g (l' ++ [x]) t mp rdy o ol ∧ Kp [d, r, p, q, g] w w'
/-- A byte is put in, or the object takes no more. -/
theorem c_put_any {w : World} {d r p q g : Nat} {l : List Int} {i : Nat} {s : St} {mp : M} {o x : Int} (h : Sx w d r p q g (l.take i) s mp false o s.out) (hx : l[i]? = some x) (hB : 0 ≤ x ∧ x < 256) (hG : Gt w [d, r, p, q, g]) {yes : Bool} (hy : Live s.m ↔ yes = true) :
    Calls Tryd.prog 72 #[.pointer (some ⟨d, 0, none⟩), .int .u8 x] w (PutP w d r p q g (l.take i) x s.out yes) := by
  obtain ⟨hi, he⟩ := List.getElem?_eq_some_iff.1 hx
  have hsn : l.take (i + 1) = l.take i ++ [x] := by rw [List.take_succ_eq_append_getElem hi, he]
  have hpw := h.pn.over
  have ho := (h.pn.no rfl).2.2
  obtain ⟨b0, hif, hb0⟩ := h.inf
  by_cases hl : Live s.m
  · have hlm := hpw.rel.live.2 hl
    rw [hy.1 hl]
    have hsm := hpw.small hl
    rw [ho, hb0 (.inr hlm)] at hif
    refine (c_put_yes x hif hlm (by rw [List.length_drop, bits8_length]; omega) h.ok hG hB.1 hB.2).mono ?_
    rintro e w' ⟨rfl, ha⟩
    obtain ⟨t, mp', rdy, o', h1, h2, h3, h4, _⟩ := hpw.put hlm ha
    exact ⟨rfl, t, mp', rdy, o', ⟨h1, ⟨_, h2, fun _ => rfl⟩, h3⟩, h4⟩
  · have hyf : yes = false := by cases yes with
      | false => rfl
      | true => exact absurd (hy.2 rfl) hl
    rw [hyf]
    have hlm : ¬ Live mp := fun hm => hl (hpw.rel.live.1 hm)
    refine (c_put_no x hif (.inr hlm)).mono ?_
    rintro e w' ⟨rfl, rfl⟩
    have hst := hpw.stay (by omega) hl
    rw [hsn] at hst
    rw [ho] at hif
    exact ⟨rfl, s, mp, false, 0, ⟨hst, ⟨b0, hif, fun hc => hc.elim (fun h => by cases h) (fun h => absurd h hlm)⟩, h.ok⟩, Kp.refl _ _⟩
def NextP (w : World) (d r p q g : Nat) (l' : List Int) (o : Int) (ol : List Int) (M0 : Nat) (e : Ending) (w' : World) : Prop :=
  e = .returned (.tuple #[.int .u8 o, .bool true]) ∧ ∃ t mp rdy o', Sx w' d r p q g l' t mp rdy o' (ol ++ [o]) ∧ Kp [d, r, p, q, g] w w' ∧ 2 * t.meas (bits8 l') + rdy.toNat < M0
theorem c_next_any {w : World} {d r p q g : Nat} {l' : List Int} {t : St} {mp : M} {o : Int} {ol : List Int} (h : Sx w d r p q g l' t mp true o ol) (hG : Gt w [d, r, p, q, g]) :
    Calls Tryd.prog 14 #[.pointer (some ⟨d, 0, none⟩)] w (NextP w d r p q g l' o ol (2 * t.meas (bits8 l') + 1)) := by
  obtain ⟨b0, hif, hb0⟩ := h.inf
  obtain rfl := hb0 (.inl rfl)
  have hne := h.pn.near rfl
  refine (c_next_yes hif (by rw [List.length_drop, bits8_length]; omega) h.ok hG).mono ?_
  rintro e w' ⟨rfl, ha⟩
  obtain ⟨t', mp', rdy', o', h1, h2, h3, h4, _, h5⟩ := h.pn.next ha
  exact ⟨rfl, t', mp', rdy', o', ⟨h1, ⟨_, h2, fun _ => rfl⟩, h3⟩, h4, h5⟩
section
variable {w : World} {d r p q g : Nat} {l' : List Int} {t : St} {mp : M} {rdy : Bool} {o : Int} {ol : List Int}
theorem c_next_none (h : Sx w d r p q g l' t mp false o ol) : Calls Tryd.prog 14 #[.pointer (some ⟨d, 0, none⟩)] w fun e w' => e = .returned (.tuple #[.int .u8 0, .bool false]) ∧ w = w' := by
  obtain ⟨b0, hif, _⟩ := h.inf
  exact c_next_no hif
theorem c_done_any (h : Sx w d r p q g l' t mp rdy o ol) : Calls Tryd.prog 18 #[.pointer (some ⟨d, 0, none⟩)] w fun e w' => e = .returned (.bool (t.m.fin && !rdy)) ∧ w = w' := by
  obtain ⟨b0, hif, _⟩ := h.inf
  have := c_done hif
  rw [h.pn.rel.fin] at this
  exact this
theorem c_reason_any (h : Sx w d r p q g l' t mp rdy o ol) : Calls Tryd.prog 17 #[.pointer (some ⟨d, 0, none⟩)] w fun e w' => e = .returned (.int .i64 ((if rdy then 0 else t.m.why : Nat) : Int)) ∧ w = w' := by
  obtain ⟨b0, hif, _⟩ := h.inf
  have := c_reason hif
  rw [h.pn.rel.why] at this
  exact this
end
end Go.Proofs.YtjjcemdoefigkaaDoor.Hf
