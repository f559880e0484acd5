/- InflateSteps: the contract of Put; the reference's run beside an elder object. -/
import Derived.Test.YtdpnlmofkkdioaaDoorUa
import Derived.Test.YtdpnlmofkkdioaaDoorLc
namespace Go.Proofs.YtdpnlmofkkdioaaDoor.Hf
set_option linter.unusedVariables false
set_option linter.unusedSimpArgs false
open Go.RowKit Go.Proofs.YtdpnlmofkkdioaaDoor.W

section
variable {w w' : World} {B rb : Nat} {S : Sr} {s : RS}
theorem Rn.c3 (h : Rn w B rb S s) : ∃ At ct, w.cell? ⟨rb, 3, none⟩ = some (.slice At s.ts.length ct) ∧ RV w At (ints s.ts) := by
  obtain ⟨Ao, At, co, ct, h1, h2, h3⟩ := h.ex
  exact ⟨At, ct, cell_of_row w rb 3 _ _ _ h1, RV.own h3⟩
theorem Rn.view (h : Rn w B rb S s) : ∃ Ao co At ct, w.cell? ⟨rb, 2, none⟩ = some (.slice Ao s.out.length co) ∧ w.cell? ⟨rb, 3, none⟩ = some (.slice At s.ts.length ct) ∧ s.out.length ≤ co ∧ s.ts.length ≤ ct ∧
    (∀ i v, s.out[i]? = some v → ∃ b off, Ao = some ⟨b, off, none⟩ ∧ B ≤ b ∧ b < w.heap.size ∧ w.cell? ⟨b, off + i, none⟩ = some (.int .u8 v)) ∧
    (∀ i v, s.ts[i]? = some v → ∃ b off, At = some ⟨b, off, none⟩ ∧ B ≤ b ∧ b < w.heap.size ∧ w.cell? ⟨b, off + i, none⟩ = some (.int .i64 (v : Nat))) := by
  obtain ⟨Ao, At, co, ct, h1, h2, h3⟩ := h.ex
  obtain ⟨_, _, e2, k2⟩ := slice_form h2
  obtain ⟨_, _, e3, k3⟩ := slice_form h3
  injection e2 with _ _ e2
  injection e3 with _ _ e3
  refine ⟨Ao, co, At, ct, cell_of_row w rb 2 _ _ _ h1, cell_of_row w rb 3 _ _ _ h1, by omega, by omega, fun i v hv => ?_, fun i v hv => ?_⟩
  · obtain ⟨b, off, hA, hb, hc⟩ := RB.get (RV.own h2) hv
    exact ⟨b, off, hA, (RV.own_block h2 hA).1, hb, hc⟩
  · obtain ⟨b, off, hA, hb, hc⟩ := RV.own h3 i (.int .i64 (v : Nat)) (by simp [ints, hv])
    exact ⟨b, off, hA, (RV.own_block h3 hA).1, hb, hc⟩
/-- What turned lies below the run. -/
theorem Rn.elder {T : List Nat} (h : Rn w B rb S s) (hk : Kp T w w') (hT : ∀ k ∈ T, k < B) (hr : RB w' S.A S.l) : Rn w' B rb S s := by
  obtain ⟨Ao, At, co, ct, h1, h2, h3⟩ := h.ex
  refine ⟨⟨Ao, At, co, ct, (hk.block rb h.lt fun hm => by have := hT rb hm; have := h.ge; omega).trans h1, own_same h2 fun k hk2 => hk.block k (h2.lt k hk2).2 fun hm => ?_, own_same h3 fun k hk2 => hk.block k (h3.lt k hk2).2 fun hm => ?_⟩, h.ge, Nat.le_trans h.sz hk.size, hr, h.old, h.len, h.byt, h.bitl⟩
  · have := hT k hm; have := (h2.lt k hk2).1; omega
  · have := hT k hm; have := (h3.lt k hk2).1; omega
end
theorem Res.tsl {bs : List Bool} {n : Nat} {o : List Int} {ts : List Nat} {a w : Nat} {e : Bool} (h : Res st0 bs n o ts a w e) : ts.length = o.length := by
  cases h with
  | dead p hd hn => exact (p.len rfl).symm
  | cut p hl hx hn => exact (p.len rfl).symm
  | much p hx ho hn => exact (p.len rfl).symm
/-- The machine's object, and what was told of the bytes put in. -/
structure Sx (wx : World) (d r p q g : Nat) (l' : List Int) (t : St) (mp : M) (rdy : Bool) (o : Int) (ol : List Int) : Prop where
  pn : Pn l' t mp rdy o ol
  inf : ∃ b0, Inf wx d r p q g mp t.out b0 rdy o ∧ (rdy = true ∨ Live mp → b0 = (bits8 l').drop t.pos)
  ok : Ok mp t.out
theorem Sx.keep {wx w' : World} {d r p q g : Nat} {l' : List Int} {t : St} {mp : M} {rdy : Bool} {o : Int} {ol : List Int} (h : Sx wx d r p q g l' t mp rdy o ol) (hk : Kp [] wx w') : Sx w' d r p q g l' t mp rdy o ol :=
  ⟨h.pn, by obtain ⟨b0, h1, h2⟩ := h.inf; exact ⟨b0, h1.row' hk (fun k hk => (by cases hk)) (fun k _ hk => (by cases hk)), h2⟩, h.ok⟩
def PutP (w : World) (d r p q g : Nat) (l' : List Int) (x : Int) (ol : List Int) (yes : Bool) (e : Ending) (w' : World) : Prop :=
  e = .returned (.bool yes) ∧ ∃ t mp rdy o, Sx w' d r p q g (l' ++ [x]) t mp rdy o ol ∧ Kp [d, r, p, q, g] w w'
/-- A byte is put in, or the object takes no more. -/
theorem c_put_any {w : World} {d r p q g : Nat} {l : List Int} {i : Nat} {s : St} {mp : M} {o x : Int} (h : Sx w d r p q g (l.take i) s mp false o s.out) (hx : l[i]? = some x) (hB : 0 ≤ x ∧ x < 256) (hG : Gt w [d, r, p, q, g]) {yes : Bool} (hy : Live s.m ↔ yes = true) :
    Calls Tryd.prog 18 #[.pointer (some ⟨d, 0, none⟩), .int .u8 x] w (PutP w d r p q g (l.take i) x s.out yes) := by
  obtain ⟨hi, he⟩ := List.getElem?_eq_some_iff.1 hx
  have hsn : l.take (i + 1) = l.take i ++ [x] := by rw [List.take_succ_eq_append_getElem hi, he]
  have hpw := h.pn.over
  have ho := (h.pn.no rfl).2.2
  obtain ⟨b0, hif, hb0⟩ := h.inf
  by_cases hl : Live s.m
  · have hlm := hpw.rel.live.2 hl
    rw [hy.1 hl]
    have hsm := hpw.small hl
    rw [ho, hb0 (.inr hlm)] at hif
    refine (c_put_yes x hif hlm (by rw [List.length_drop, bits8_length]; omega) h.ok hG hB.1 hB.2).mono ?_
    rintro e w' ⟨rfl, ha⟩
    obtain ⟨t, mp', rdy, o', h1, h2, h3, h4, _⟩ := hpw.put hlm ha
    exact ⟨rfl, t, mp', rdy, o', ⟨h1, ⟨_, h2, fun _ => rfl⟩, h3⟩, h4⟩
  · have hyf : yes = false := by cases yes with
      | false => rfl
      | true => exact absurd (hy.2 rfl) hl
    rw [hyf]
    have hlm : ¬ Live mp := fun hm => hl (hpw.rel.live.1 hm)
    refine (c_put_no x hif (.inr hlm)).mono ?_
    rintro e w' ⟨rfl, rfl⟩
    have hst := hpw.stay (by omega) hl
    rw [hsn] at hst
    rw [ho] at hif
    exact ⟨rfl, s, mp, false, 0, ⟨hst, ⟨b0, hif, fun hc => hc.elim (fun h => by cases h) (fun h => absurd h hlm)⟩, h.ok⟩, Kp.refl _ _⟩
def NextP (w : World) (d r p q g : Nat) (l' : List Int) (o : Int) (ol : List Int) (M0 : Nat) (e : Ending) (w' : World) : Prop :=
  e = .returned (.tuple #[.int .u8 o, .bool true]) ∧ ∃ t mp rdy o', Sx w' d r p q g l' t mp rdy o' (ol ++ [o]) ∧ Kp [d, r, p, q, g] w w' ∧ 2 * t.meas (bits8 l') + rdy.toNat < M0
theorem c_next_any {w : World} {d r p q g : Nat} {l' : List Int} {t : St} {mp : M} {o : Int} {ol : List Int} (h : Sx w d r p q g l' t mp true o ol) (hG : Gt w [d, r, p, q, g]) :
    Calls Tryd.prog 19 #[.pointer (some ⟨d, 0, none⟩)] w (NextP w d r p q g l' o ol (2 * t.meas (bits8 l') + 1)) := by
  obtain ⟨b0, hif, hb0⟩ := h.inf
  obtain rfl := hb0 (.inl rfl)
  have hne := h.pn.near rfl
  refine (c_next_yes hif (by rw [List.length_drop, bits8_length]; omega) h.ok hG).mono ?_
  rintro e w' ⟨rfl, ha⟩
  obtain ⟨t', mp', rdy', o', h1, h2, h3, h4, _, h5⟩ := h.pn.next ha
  exact ⟨rfl, t', mp', rdy', o', ⟨h1, ⟨_, h2, fun _ => rfl⟩, h3⟩, h4, h5⟩
section
variable {w : World} {d r p q g : Nat} {l' : List Int} {t : St} {mp : M} {rdy : Bool} {o : Int} {ol : List Int}
theorem c_next_none (h : Sx w d r p q g l' t mp false o ol) : Calls Tryd.prog 19 #[.pointer (some ⟨d, 0, none⟩)] w fun e w' => e = .returned (.tuple #[.int .u8 0, .bool false]) ∧ w = w' := by
  obtain ⟨b0, hif, _⟩ := h.inf
  exact c_next_no hif
theorem c_done_any (h : Sx w d r p q g l' t mp rdy o ol) : Calls Tryd.prog 16 #[.pointer (some ⟨d, 0, none⟩)] w fun e w' => e = .returned (.bool (t.m.fin && !rdy)) ∧ w = w' := by
  obtain ⟨b0, hif, _⟩ := h.inf
  have := c_done hif
  rw [h.pn.rel.fin] at this
  exact this
theorem c_reason_any (h : Sx w d r p q g l' t mp rdy o ol) : Calls Tryd.prog 17 #[.pointer (some ⟨d, 0, none⟩)] w fun e w' => e = .returned (.int .i64 ((if rdy then 0 else t.m.why : Nat) : Int)) ∧ w = w' := by
  obtain ⟨b0, hif, _⟩ := h.inf
  have := c_reason hif
  rw [h.pn.rel.why] at this
  exact this
end
/-- The object when no more bytes come. -/
def EndP (w : World) (d r p q g : Nat) (s : St) (e : Ending) (w' : World) : Prop :=
  e = .returned (.tuple #[]) ∧ ∃ mp b0, Inf w' d r p q g mp s.out b0 false 0 ∧ mp.fin = s.m.fin ∧ (Live s.m → mp.why = 1) ∧ (¬ Live s.m → mp.why = s.m.why) ∧ Kp [d] w w'
theorem c_end_any {w : World} {d r p q g : Nat} {l' : List Int} {s : St} {mp : M} {o : Int} {ol : List Int} (h : Sx w d r p q g l' s mp false o ol) : Calls Tryd.prog 20 #[.pointer (some ⟨d, 0, none⟩)] w (EndP w d r p q g s) := by
  obtain ⟨b0, hif, _⟩ := h.inf
  rw [(h.pn.no rfl).2.2] at hif
  by_cases hl : Live s.m
  · refine (c_end_yes hif (h.pn.rel.live.2 hl)).mono ?_
    rintro e w' ⟨rfl, h1, h2⟩
    exact ⟨rfl, _, _, h1, h.pn.rel.fin, fun _ => rfl, fun hd => absurd hl hd, h2⟩
  · refine (c_end_no hif (.inr fun hm => hl (h.pn.rel.live.1 hm))).mono ?_
    rintro e w' ⟨rfl, rfl⟩
    exact ⟨rfl, _, _, hif, h.pn.rel.fin, fun hd => absurd hd hl, fun _ => h.pn.rel.why, Kp.refl _ _⟩
end Go.Proofs.YtdpnlmofkkdioaaDoor.Hf
