/- Machines that go on alike; what is put in and told, byte by byte (plain). -/
import Derived.Test.YtjjcemdoefigkaaDoorIz
namespace Go.Proofs.YtjjcemdoefigkaaDoor.Hf
set_option linter.unusedVariables false
set_option linter.unusedSimpArgs false
open Go.RowKit Go.Proofs.YtjjcemdoefigkaaDoor.W

def RelPh (m m' : M) : Prop := match m.ph with
  | .head => True
  | .sth => True
  | .sto => m'.left = m.left
  | .cts => True
  | .lol => m'.fl = m.fl ∧ m'.order = m.order ∧ m'.left = m.left ∧ m'.lits = m.lits ∧ m'.wanted = m.wanted
  | .len => m'.cd = m.cd ∧ m'.row = m.row ∧ m'.lits = m.lits ∧ m'.wanted = m.wanted
  | .rep => m'.cd = m.cd ∧ m'.row = m.row ∧ m'.lits = m.lits ∧ m'.wanted = m.wanted ∧ m'.sym = m.sym
  | .lit => m'.lt = m.lt ∧ m'.ds = m.ds
  | .lbits => m'.lt = m.lt ∧ m'.ds = m.ds ∧ m'.sym = m.sym
  | .dst => m'.lt = m.lt ∧ m'.ds = m.ds ∧ m'.left = m.left
  | .dbits => m'.lt = m.lt ∧ m'.ds = m.ds ∧ m'.left = m.left ∧ m'.sym = m.sym
  | .cpy => m'.lt = m.lt ∧ m'.ds = m.ds ∧ m'.left = m.left ∧ m'.back = m.back
structure Rel (m m' : M) : Prop where
  ph : m'.ph = m.ph
  last : m'.last = m.last
  fin : m'.fin = m.fin
  why : m'.why = m.why
  more : m.why = 0 → RelPh m m'
theorem Rel.refl (m : M) : Rel m m := ⟨rfl, rfl, rfl, rfl, fun _ => by unfold RelPh; cases m.ph <;> simp⟩
def RelO : Option Out → Option Out → Prop
  | none, none => True
  | some r, some r' => Rel r.1 r'.1 ∧ r.2 = r'.2
  | _, _ => False
theorem RelO.ite {c : Prop} [Decidable c] {a b : Option Out} (h : c → RelO a b) : RelO (if c then a else none) (if c then b else none) := by
  by_cases hc : c
  · rw [if_pos hc, if_pos hc]; exact h hc
  · rw [if_neg hc, if_neg hc]; trivial
theorem Rel.stop {m m' : M} {why : Nat} (h1 : m'.ph = m.ph) (h2 : m'.last = m.last) (h3 : m'.fin = m.fin) (hw : why ≠ 0) : Rel (stopM m why) (stopM m' why) := ⟨h1, h2, h3, rfl, fun h => absurd h hw⟩
theorem Rel.lay {m m' : M} (n x : Nat) (h2 : m'.last = m.last) (h3 : m'.fin = m.fin) (h4 : m'.why = m.why) (h1 : m'.ph = m.ph) (hc : m'.cd = m.cd) (hr : m'.row = m.row) (hl : m'.lits = m.lits) (hw : m'.wanted = m.wanted) : Rel (layM m n x) (layM m' n x) := by
  unfold layM
  rw [hr, hw, hl]
  by_cases g1 : m.row.length + n > m.wanted
  · rw [if_pos g1, if_pos g1]; exact .stop h1 h2 h3 (by decide)
  · rw [if_neg g1, if_neg g1]
    dsimp only
    by_cases g2 : (m.row ++ List.replicate n x).length < m.wanted
    · rw [if_pos g2, if_pos g2]; exact ⟨rfl, h2, h3, h4, fun _ => ⟨hc, rfl, rfl, rfl⟩⟩
    · rw [if_neg g2, if_neg g2]
      by_cases g3 : (newOk ((m.row ++ List.replicate n x).take m.lits) && (newOk ((m.row ++ List.replicate n x).drop m.lits) && decide ((m.row ++ List.replicate n x).getD 256 0 ≠ 0))) = true
      · rw [if_pos g3, if_pos g3]; exact ⟨rfl, h2, h3, h4, fun _ => ⟨rfl, rfl⟩⟩
      · rw [if_neg g3, if_neg g3]; exact .stop h1 h2 h3 (by decide)
theorem Rel.step {m m' : M} (h : Rel m m') (h0 : m.why = 0) (out : List Int) (bs : List Bool) : RelO (Hf.step m out bs) (Hf.step m' out bs) := by
  obtain ⟨h1, h2, h3, h4, h5⟩ := h
  have hm := h5 h0
  unfold RelPh at hm
  unfold Hf.step
  rw [h1]
  cases hph : m.ph <;> rw [hph] at hm <;> dsimp only at hm ⊢
  case head =>
    refine RelO.ite fun _ => ?_
    unfold headM
    rcases num (bs.take 3) / 2 with _ | _ | _ | _
    · exact ⟨⟨rfl, rfl, h3, h4, fun _ => trivial⟩, rfl⟩
    · exact ⟨⟨rfl, rfl, h3, h4, fun _ => ⟨rfl, rfl⟩⟩, rfl⟩
    · exact ⟨⟨rfl, rfl, h3, h4, fun _ => trivial⟩, rfl⟩
    · exact ⟨⟨h1, rfl, h3, rfl, fun h => by cases h⟩, rfl⟩
  case sth =>
    refine RelO.ite fun _ => ⟨?_, rfl⟩
    unfold sthM
    dsimp only
    split
    · exact ⟨rfl, h2, h3, h4, fun _ => rfl⟩
    · exact ⟨h1, h2, h3, rfl, fun h => by cases h⟩
  case sto =>
    rw [hm]
    by_cases g : m.left = 0
    · rw [if_pos g, if_pos g]; exact ⟨⟨rfl, h2, h2, h4, fun _ => trivial⟩, rfl⟩
    · rw [if_neg g, if_neg g]
      refine RelO.ite fun _ => ⟨?_, rfl⟩
      unfold stoM
      rw [hm]
      by_cases g1 : m.left = 1
      · rw [if_pos g1, if_pos g1]; exact ⟨rfl, h2, h2, h4, fun _ => trivial⟩
      · rw [if_neg g1, if_neg g1]; exact ⟨h1, h2, h3, h4, fun _ => by unfold RelPh; dsimp only; rw [hph]⟩
  case cts =>
    refine RelO.ite fun _ => ⟨?_, rfl⟩
    unfold ctsM
    dsimp only
    split
    · exact ⟨h1, h2, h3, rfl, fun h => by cases h⟩
    · exact ⟨rfl, h2, h3, h4, fun _ => ⟨rfl, rfl, rfl, rfl, rfl⟩⟩
  case lol =>
    obtain ⟨a1, a2, a3, a4, a5⟩ := hm
    refine RelO.ite fun _ => ⟨?_, rfl⟩
    unfold lolM
    rw [a1, a2, a3]
    dsimp only
    split
    · exact ⟨h1, h2, h3, h4, fun _ => by unfold RelPh; dsimp only; rw [hph]; exact ⟨rfl, rfl, rfl, a4, a5⟩⟩
    · split
      · exact ⟨rfl, h2, h3, h4, fun _ => ⟨rfl, rfl, a4, a5⟩⟩
      · exact ⟨h1, h2, h3, rfl, fun h => by cases h⟩
  case len =>
    obtain ⟨a1, a2, a3, a4⟩ := hm
    rw [a1]
    cases hd : dec m.cd bs with
    | got s k =>
      refine ⟨?_, rfl⟩
      dsimp only
      unfold lenM
      rw [a2]
      split
      · exact Rel.lay 1 s h2 h3 h4 h1 a1 a2 a3 a4
      · split
        · exact .stop h1 h2 h3 (by decide)
        · exact ⟨rfl, h2, h3, h4, fun _ => ⟨a1, rfl, a3, a4, rfl⟩⟩
    | bad j => trivial
    | more => trivial
  case rep =>
    obtain ⟨a1, a2, a3, a4, a5⟩ := hm
    have hx : repX m' = repX m := by unfold repX; rw [a2, a5]
    rw [a5, hx]
    exact RelO.ite fun _ => ⟨Rel.lay _ _ h2 h3 h4 h1 a1 a2 a3 a4, rfl⟩
  case lit =>
    obtain ⟨a1, a2⟩ := hm
    rw [a1]
    cases hd : dec m.lt bs with
    | got s k =>
      unfold litM
      dsimp only
      split
      · exact ⟨.stop h1 h2 h3 (by decide), rfl⟩
      · split
        · exact ⟨⟨h1, h2, h3, h4, fun _ => by unfold RelPh; rw [hph]; exact ⟨a1, a2⟩⟩, rfl⟩
        · split
          · exact ⟨⟨rfl, h2, h2, h4, fun _ => trivial⟩, rfl⟩
          · exact ⟨⟨rfl, h2, h3, h4, fun _ => ⟨a1, a2, rfl⟩⟩, rfl⟩
    | bad j => exact ⟨.stop h1 h2 h3 (by decide), rfl⟩
    | more => trivial
  case lbits =>
    obtain ⟨a1, a2, a3⟩ := hm
    rw [a3]
    exact RelO.ite fun _ => ⟨⟨rfl, h2, h3, h4, fun _ => ⟨a1, a2, rfl⟩⟩, rfl⟩
  case dst =>
    obtain ⟨a1, a2, a3⟩ := hm
    rw [a2]
    cases hd : dec m.ds bs with
    | got s k =>
      refine ⟨?_, rfl⟩
      dsimp only
      unfold dstM
      split
      · exact .stop h1 h2 h3 (by decide)
      · exact ⟨rfl, h2, h3, h4, fun _ => ⟨a1, a2, a3, rfl⟩⟩
    | bad j => exact ⟨.stop h1 h2 h3 (by decide), rfl⟩
    | more => trivial
  case dbits =>
    obtain ⟨a1, a2, a3, a4⟩ := hm
    rw [a4]
    refine RelO.ite fun _ => ⟨?_, rfl⟩
    unfold dbM
    split
    · exact ⟨h1, h2, h3, rfl, fun h => by cases h⟩
    · exact ⟨rfl, h2, h3, h4, fun _ => ⟨a1, a2, a3, rfl⟩⟩
  case cpy =>
    obtain ⟨a1, a2, a3, a4⟩ := hm
    rw [a3, a4]
    refine ⟨⟨rfl, h2, h3, h4, fun _ => ?_⟩, rfl⟩
    unfold RelPh
    dsimp only
    by_cases g : m.left = 1
    · rw [if_pos g]; exact ⟨a1, a2⟩
    · rw [if_neg g]; exact ⟨a1, a2, rfl, rfl⟩
theorem Rel.live {m m' : M} (h : Rel m m') : Live m' ↔ Live m := by unfold Live; rw [h.why, h.fin]
theorem Rel.reset (m : M) : Rel m0 (resetM m) := ⟨rfl, rfl, rfl, rfl, fun _ => trivial⟩
theorem Ok.reset {m : M} {out : List Int} (h : Ok m out) : Ok (resetM m) [] := ⟨h.fll, h.fl, h.row, h.rowl, fun b hb => (by cases hb), fun _ => trivial⟩
theorem Adv.rel {mp m' : M} {out out' : List Int} {b b' : List Bool} {r : Bool} (h : Adv mp out b m' out' b' r) : ∀ m, Rel m mp → ∃ m2, Adv m out b m2 out' b' r ∧ Rel m2 m' := by
  induction h with
  | dead h => intro m hr; exact ⟨m, .dead fun hl => h (hr.live.2 hl), hr⟩
  | @wait mp out bs hl h =>
    intro m hr
    have hl' := hr.live.1 hl
    have hs := hr.step hl'.1 out bs
    rw [h] at hs
    refine ⟨m, .wait hl' ?_, hr⟩
    cases hx : Hf.step m out bs with
    | none => rfl
    | some r => rw [hx] at hs; exact hs.elim
  | @give mp m' out bs b k hl h =>
    intro m hr
    have hl' := hr.live.1 hl
    have hs := hr.step hl'.1 out bs
    rw [h] at hs
    cases hx : Hf.step m out bs with
    | none => rw [hx] at hs; exact hs.elim
    | some r =>
      rw [hx] at hs
      obtain ⟨m2, ol, k2⟩ := r
      obtain ⟨h1, h2⟩ := hs
      injection h2 with h2 h3
      subst h2 h3
      exact ⟨m2, .give hl' hx, h1⟩
  | @go mp m' m2 out out2 bs bs2 k r hl h _ ih =>
    intro m hr
    have hl' := hr.live.1 hl
    have hs := hr.step hl'.1 out bs
    rw [h] at hs
    cases hx : Hf.step m out bs with
    | none => rw [hx] at hs; exact hs.elim
    | some r =>
      rw [hx] at hs
      obtain ⟨m3, ol, k2⟩ := r
      obtain ⟨h1, h2⟩ := hs
      injection h2 with h2 h3
      subst h2 h3
      obtain ⟨m4, h4, h5⟩ := ih m3 h1
      exact ⟨m4, .go hl' hx h4, h5⟩

/-! ### put in, told -/
structure Pw (l : List Int) (s : St) (mp : M) : Prop where
  path : Path (bits8 l) st0 s
  wait : next (bits8 l) s = none
  rel : Rel s.m mp
structure Pn (l : List Int) (t : St) (mp : M) (rdy : Bool) (o : Int) (ol : List Int) : Prop where
  path : Path (bits8 l) st0 t
  rel : Rel t.m mp
  no : rdy = false → next (bits8 l) t = none ∧ ol = t.out ∧ o = 0
  yes : rdy = true → ∃ u, Path (bits8 l) st0 u ∧ next (bits8 l) u = some t ∧ t.out = u.out ++ [o] ∧ ol = u.out
  near : rdy = true → 8 * l.length < t.pos + 8
  fresh : t.pos ≤ 8 * l.length
theorem Pw.start (mp : M) (h : Rel m0 mp) : Pw [] st0 mp := ⟨.refl _, next_none.2 fun _ => rfl, h⟩
theorem Pn.over {l : List Int} {t : St} {mp : M} {o : Int} {ol : List Int} (h : Pn l t mp false o ol) : Pw l t mp := ⟨h.path, (h.no rfl).1, h.rel⟩
theorem bits8_snoc (l : List Int) (x : Int) : bits8 (l ++ [x]) = bits8 l ++ byteB x := by unfold bits8; rw [List.flatMap_append]; simp
theorem path_snoc {l : List Int} {s t : St} (x : Int) (h : Path (bits8 l) s t) (hp : s.pos ≤ 8 * l.length) : Path (bits8 (l ++ [x])) s t := by
  have e : bits8 l = (bits8 (l ++ [x])).take (8 * l.length) := by rw [bits8_take]; simp
  rw [e] at h
  exact (h.of_take hp (by rw [bits8_length, List.length_append]; simp; omega) (by rw [bits8_length]; omega)).1
theorem Pw.small {l : List Int} {s : St} {mp : M} (h : Pw l s mp) (hl : Live s.m) : 8 * l.length - s.pos < 32 := by
  have h1 := wait_small (h.path.ok Ok.m0) hl.1 (next_none.1 h.wait hl)
  rw [List.length_drop, bits8_length] at h1
  exact h1
theorem Pw.put {w wy : World} {d r p q g : Nat} {l : List Int} {s : St} {mp : M} {x : Int} {en : Ending} (h : Pw l s mp) (hl : Live mp) (ha : AdvPost w d r p q g mp s.out ((bits8 l).drop s.pos ++ byteB x) en wy) :
    ∃ t mp' rdy o, Pn (l ++ [x]) t mp' rdy o s.out ∧ Inf wy d r p q g mp' t.out ((bits8 (l ++ [x])).drop t.pos) rdy o ∧ Ok mp' t.out ∧ Kp [d, r, p, q, g] w wy ∧ Path (bits8 (l ++ [x])) s t ∧ (¬ Live t.m → 8 * l.length < t.pos) := by
  obtain ⟨_, m', out', bs', rdy, o, h1, h2, h3, _, h5, h6, h7⟩ := ha
  have hp := (h.path.pos (Nat.zero_le _)).2
  rw [bits8_length] at hp
  have hlen := bits8_length (l ++ [x])
  have hlen2 : (l ++ [x]).length = l.length + 1 := by rw [List.length_append]; rfl
  have e1 : (bits8 l).drop s.pos ++ byteB x = (bits8 (l ++ [x])).drop s.pos := by rw [bits8_snoc, List.drop_append_of_le_length (by rw [bits8_length]; exact hp)]
  rw [e1] at h1
  obtain ⟨m2, h1, hrel⟩ := h1.rel s.m h.rel
  obtain ⟨t, t1, rfl, rfl, rfl, t5, t6⟩ := h1.path (bits8 (l ++ [x])) s rfl rfl rfl (by omega)
  have hps := path_snoc x h.path (Nat.zero_le _)
  have e2 : bits8 l = (bits8 (l ++ [x])).take (8 * l.length) := by rw [bits8_take]; simp
  have hbey : t ≠ s → 8 * l.length < t.pos := fun hne => wait_beyond (q := 8 * l.length) hp (by omega) (by omega) (by rw [← e2]; exact h.wait) t1 hne
  have hpos := (t1.pos (by omega)).2
  refine ⟨t, m', rdy, o, ⟨hps.trans t1, hrel, fun hr => ⟨(t5 hr).1, (t5 hr).2.symm, h6 hr⟩, fun hr => ?_, fun hr => ?_, by omega⟩, h2, h3, h5, t1, fun hd => hbey fun he => hd (by rw [he]; exact h.rel.live.1 hl)⟩
  · obtain ⟨y, u1, _, u, u2, u3, u4, _⟩ := t6 hr
    obtain ⟨o0, ho0⟩ := h7 hr
    have : s.out ++ [y] = o0 ++ [o] := u1.symm.trans ho0
    obtain ⟨_, h9⟩ := List.append_inj' this rfl
    injection h9 with h9
    exact ⟨u, hps.trans u2, u3, by rw [u1, u4, h9], u4.symm⟩
  · obtain ⟨y, u1, _⟩ := t6 hr
    have := hbey (fun he => by rw [he] at u1; have := congrArg List.length u1; rw [List.length_append] at this; simp at this)
    omega
theorem Pn.next {w wy : World} {d r p q g : Nat} {l : List Int} {t : St} {mp : M} {o : Int} {ol : List Int} {en : Ending} (h : Pn l t mp true o ol) (ha : AdvPost w d r p q g mp t.out ((bits8 l).drop t.pos) en wy) :
    ∃ t' mp' rdy' o', Pn l t' mp' rdy' o' (ol ++ [o]) ∧ Inf wy d r p q g mp' t'.out ((bits8 l).drop t'.pos) rdy' o' ∧ Ok mp' t'.out ∧ Kp [d, r, p, q, g] w wy ∧ Path (bits8 l) t t' ∧ 2 * t'.meas (bits8 l) + rdy'.toNat < 2 * t.meas (bits8 l) + 1 := by
  obtain ⟨_, m', out', bs', rdy, o1, h1, h2, h3, _, h5, h6, h7⟩ := ha
  have hlen := bits8_length l
  have hp := h.fresh
  obtain ⟨u0, v1, v2, v3, v4⟩ := h.yes rfl
  obtain ⟨m2, h1, hrel⟩ := h1.rel t.m h.rel
  obtain ⟨t', t1, rfl, rfl, rfl, t5, t6⟩ := h1.path (bits8 l) t rfl rfl rfl (by omega)
  have hpp := t1.pos (by omega)
  have hok := h.path.ok Ok.m0
  have hms := t1.meas hok (by omega)
  refine ⟨t', m', rdy, o1, ⟨h.path.trans t1, hrel, fun hr => ⟨(t5 hr).1, by rw [(t5 hr).2, v3, v4], h6 hr⟩, fun hr => ?_, fun hr => by have := h.near rfl; omega, by omega⟩, h2, h3, h5, t1, ?_⟩
  · obtain ⟨y, u1, _, u, u2, u3, u4, _⟩ := t6 hr
    obtain ⟨o0, ho0⟩ := h7 hr
    have : t.out ++ [y] = o0 ++ [o1] := u1.symm.trans ho0
    obtain ⟨_, h9⟩ := List.append_inj' this rfl
    injection h9 with h9
    exact ⟨u, h.path.trans u2, u3, by rw [u1, u4, h9], by rw [u4, v3, v4]⟩
  · cases hr : rdy with
    | false => simp only [Bool.toNat_false]; omega
    | true =>
      obtain ⟨y, u1, _, u, u2, u3, u4, _⟩ := t6 hr
      have h9 := u2.meas hok (by omega)
      have h10 := next_meas (u2.ok hok) (u2.pos (by omega)).2 u3
      simp only [Bool.toNat_true]
      omega
/-- Why it can be stopped. -/
def Wy (m : M) : Prop := (m.fin = true → m.why = 0) ∧ m.why ≠ 1 ∧ m.why ≠ 62
theorem Wy.lay {m : M} (n x : Nat) (h0 : m.why = 0) (hf : m.fin = false) : Wy (layM m n x) := by
  unfold layM Wy stopM
  dsimp only
  split
  · dsimp only; rw [hf]; simp
  · split
    · dsimp only; rw [hf, h0]; simp
    · split
      · dsimp only; rw [hf, h0]; simp
      · dsimp only; rw [hf]; simp
theorem Wy.step {m : M} {out : List Int} {bs : List Bool} {r : Out} (hl : Live m) (hs : Hf.step m out bs = some r) : Wy r.1 := by
  obtain ⟨h0, hf⟩ := hl
  have hif : ∀ {c : Prop} [Decidable c] {x : Out}, (if c then some x else none) = some r → Wy x.1 → Wy r.1 := fun h1 h2 => by
    split at h1
    · injection h1 with h1; subst h1; exact h2
    · cases h1
  have h00 : Wy m := by unfold Wy; rw [h0, hf]; simp
  have hov : Wy (overM m) := by unfold Wy overM; dsimp only; rw [h0]; simp
  have hst : ∀ why : Nat, why = 10 ∨ why = 11 ∨ why = 12 ∨ why = 13 ∨ why = 14 → Wy (stopM m why) := fun why hw => by unfold Wy stopM; dsimp only; rw [hf]; refine ⟨fun h => (by cases h), by omega, by omega⟩
  unfold Hf.step at hs
  cases hph : m.ph <;> rw [hph] at hs <;> dsimp only at hs
  case head =>
    refine hif hs ?_
    unfold headM
    rcases num (bs.take 3) / 2 with _ | _ | _ | _
    · exact h00
    · exact h00
    · exact h00
    · exact hst 10 (by omega)
  case sth =>
    refine hif hs ?_
    dsimp only
    unfold sthM
    split
    · exact h00
    · exact hst 11 (by omega)
  case sto =>
    split at hs
    · injection hs with hs; subst hs; exact hov
    · refine hif hs ?_
      dsimp only
      unfold stoM
      split
      · exact hov
      · exact h00
  case cts =>
    refine hif hs ?_
    dsimp only
    unfold ctsM
    dsimp only
    split
    · exact hst 12 (by omega)
    · exact h00
  case lol =>
    refine hif hs ?_
    dsimp only
    unfold lolM
    dsimp only
    split
    · exact h00
    · split
      · exact h00
      · exact hst 12 (by omega)
  case len =>
    split at hs
    · injection hs with hs
      subst hs
      dsimp only
      unfold lenM
      split
      · exact Wy.lay _ _ h0 hf
      · split
        · exact hst 12 (by omega)
        · exact h00
    · cases hs
  case rep => exact hif hs (Wy.lay _ _ h0 hf)
  case lit =>
    split at hs
    · injection hs with hs
      subst hs
      unfold litM
      split
      · exact hst 13 (by omega)
      · split
        · exact h00
        · split
          · exact hov
          · exact h00
    · injection hs with hs; subst hs; exact hst 13 (by omega)
    · cases hs
  case lbits => exact hif hs h00
  case dst =>
    split at hs
    · injection hs with hs
      subst hs
      dsimp only
      unfold dstM
      split
      · exact hst 13 (by omega)
      · exact h00
    · injection hs with hs; subst hs; exact hst 13 (by omega)
    · cases hs
  case dbits =>
    refine hif hs ?_
    dsimp only
    unfold dbM
    split
    · exact hst 14 (by omega)
    · exact h00
  case cpy => injection hs with hs; subst hs; exact h00
theorem Path.wy {bs : List Bool} {s t : St} (h : Path bs s t) (hw : Wy s.m) : Wy t.m := by
  induction h with
  | refl => exact hw
  | cons h _ ih =>
    obtain ⟨hl, r, hs, rfl⟩ := next_some h
    exact ih (Wy.step hl hs)
theorem wy0 : Wy st0.m := ⟨fun h => (by cases h), by decide, by decide⟩
end Go.Proofs.YtjjcemdoefigkaaDoor.Hf
/- What bits give against what was put in so far (plain). -/
namespace Go.Proofs.YtjjcemdoefigkaaDoor.Hf
set_option linter.unusedVariables false
set_option linter.unusedSimpArgs false
open Go.RowKit Go.Proofs.YtjjcemdoefigkaaDoor.W

theorem ts_ge {bs : List Bool} {s f : St} (h : Path bs s f) (hp : s.pos ≤ bs.length) : ∀ k x, s.ts.length ≤ k → f.ts[k]? = some x → (s.pos - 1) / 8 ≤ x := by
  induction h with
  | refl s => intro k x hk hx; have := (List.getElem?_eq_some_iff.1 hx).1; omega
  | @cons s t u h hp2 ih =>
    intro k x hk hx
    have h1 := next_pos hp h
    have hpre := hp2.out.2
    obtain ⟨hl, r, hs, rfl⟩ := next_some h
    by_cases hkt : k < (s.add r).ts.length
    · obtain ⟨tl, htl⟩ := hpre
      rw [← htl, List.getElem?_append_left hkt] at hx
      unfold St.add at hx
      dsimp only at hx
      rw [List.getElem?_append_right hk] at hx
      have := List.eq_of_mem_replicate (List.mem_of_getElem? hx)
      have h2 : s.pos ≤ s.pos + r.2.2 := h1.1
      omega
    · have := ih h1.2 k x (by omega) hx
      have h2 : s.pos ≤ (s.add r).pos := h1.1
      omega
theorem ts_wait {bs : List Bool} {s f : St} {i : Nat} (hp : s.pos ≤ 8 * i) (hi : 8 * i ≤ bs.length) (h8 : 8 * i % 8 = bs.length % 8) (hw : next (bs.take (8 * i)) s = none) (h : Path bs s f) {k x : Nat} (hk : s.ts.length ≤ k) (hx : f.ts[k]? = some x) : i ≤ x := by
  cases h with
  | refl => have := (List.getElem?_eq_some_iff.1 hx).1; omega
  | @cons _ t _ h hp2 =>
    have hne : t ≠ s := fun he => by
      subst he
      rw [next_take hp hi h8, h, Option.bind_some, if_pos hp] at hw
      cases hw
    have hb := wait_beyond hp hi h8 hw (.one h) hne
    have h1 := next_pos (by omega : s.pos ≤ bs.length) h
    have hpre := hp2.out.2
    have hge := ts_ge hp2 h1.2
    obtain ⟨hl, r, hs, rfl⟩ := next_some h
    by_cases hkt : k < (s.add r).ts.length
    · obtain ⟨tl, htl⟩ := hpre
      rw [← htl, List.getElem?_append_left hkt] at hx
      unfold St.add at hx hb
      dsimp only at hx hb
      rw [List.getElem?_append_right hk] at hx
      have := List.eq_of_mem_replicate (List.mem_of_getElem? hx)
      omega
    · have := hge k x (by omega) hx
      omega
section
variable {l : List Int} {i N : Nat} {s t : St} {mp : M} {out : List Int} {ts : List Nat} {a why : Nat} {e : Bool} {o : Int} {ol : List Int}
theorem take_bits (hi : i ≤ l.length) : bits8 (l.take i) = (bits8 l).take (8 * i) ∧ 8 * i ≤ (bits8 l).length ∧ 8 * i % 8 = (bits8 l).length % 8 := by
  have := bits8_length l
  exact ⟨(bits8_take l i).symm, by omega, by omega⟩
theorem path_full (hi : i ≤ l.length) (h : Path (bits8 (l.take i)) st0 s) : Path (bits8 l) st0 s ∧ s.pos ≤ 8 * i := by
  obtain ⟨e1, e2, e3⟩ := take_bits hi
  rw [e1] at h
  exact h.of_take (Nat.zero_le _) e2 e3
theorem dead_late (h : Path (bits8 (l.take i)) st0 s) (hd : ¬ Live s.m) : 0 < i := by
  rcases Nat.eq_zero_or_pos i with rfl | h0
  · exfalso
    rw [List.take_zero] at h
    have : s = st0 := h.stuck (next_none.2 fun _ => rfl)
    exact hd (by rw [this]; exact ⟨rfl, rfl⟩)
  · exact h0
/-- Is more taken? -/
theorem Pw.open (hi : i ≤ l.length) (h : Pw (l.take i) s mp) (hR : Res st0 (bits8 l) N out ts a why e) (hg : why = 62 → i ≤ a) :
    (Live s.m → i ≤ a) ∧ (¬ Live s.m → a < i ∧ out = s.out ∧ ts = s.ts ∧ why = s.m.why ∧ e = s.m.fin) := by
  obtain ⟨hps, hpos⟩ := path_full hi h.path
  obtain ⟨e1, e2, e3⟩ := take_bits hi
  have hw := h.wait
  rw [e1] at hw
  have hlen := bits8_length l
  constructor
  · intro hl
    cases hR with
    | dead p hd hn =>
      have := wait_beyond hpos e2 e3 hw (p.final (dead_next hd) hps) (fun he => hd (by rw [he]; exact hl))
      omega
    | cut p hl2 hx hn => omega
    | much p hx ho hn => exact hg rfl
  · intro hnl
    have h0 := dead_late h.path hnl
    cases hR with
    | dead p hd hn =>
      have := hps.uniq (dead_next hnl) p (dead_next hd)
      subst this
      exact ⟨by omega, rfl, rfl, rfl, rfl⟩
    | cut p hl2 hx hn =>
      have := hps.uniq (dead_next hnl) p hx
      subst this
      exact absurd hl2 hnl
    | much p hx ho hn =>
      have h1 := ((hps.final (dead_next hnl) (p.snoc hx)).pos (next_pos (p.pos (Nat.zero_le _)).2 hx).2).1
      have := hg rfl
      omega
/-- Where what is known by byte i stands in what all bytes give. -/
theorem reach (hi : i + 1 ≤ l.length) (h : Path (bits8 (l.take (i + 1))) st0 t) (hR : Res st0 (bits8 l) N out ts a why e) (hg : why = 62 → i < a) : ∃ f, Path (bits8 l) t f ∧ f.out = out ∧ f.ts = ts := by
  obtain ⟨hps, hpos⟩ := path_full hi h
  cases hR with
  | dead p hd hn => exact ⟨_, p.final (dead_next hd) hps, rfl, rfl⟩
  | cut p hl2 hx hn => exact ⟨_, p.final hx hps, rfl, rfl⟩
  | @much u t' x p hx ho hn =>
    have := hg rfl
    rcases p.linear hps with q | q
    · cases q with
      | refl => exact ⟨_, .refl _, rfl, rfl⟩
      | cons h1 q1 =>
        rw [hx] at h1
        injection h1 with h1
        subst h1
        have := (q1.pos (next_pos (p.pos (Nat.zero_le _)).2 hx).2).1
        omega
    · exact ⟨_, q, rfl, rfl⟩
theorem Pn.known (hi : i + 1 ≤ l.length) (h : Pn (l.take (i + 1)) t mp true o ol) (hR : Res st0 (bits8 l) N out ts a why e) (hg : why = 62 → i < a) : out[ol.length]? = some o ∧ ts[ol.length]? = some i ∧ ol.length < out.length := by
  obtain ⟨u, u1, u2, u3, u4⟩ := h.yes rfl
  obtain ⟨f, f1, rfl, rfl⟩ := reach hi h.path hR hg
  have hl1 : (l.take (i + 1)).length = i + 1 := by rw [List.length_take]; omega
  have hn := h.near rfl
  have hf := h.fresh
  rw [hl1] at hn hf
  have hut := u1.len rfl
  obtain ⟨hl, r, hs, rfl⟩ := next_some u2
  have hr1 : r.2.1 = [o] := List.append_cancel_left u3
  have e1 : (u.add r).out = u.out ++ [o] := u3
  have e2 : (u.add r).ts = u.ts ++ [i] := by
    show u.ts ++ List.replicate r.2.1.length ((u.pos + r.2.2 - 1) / 8) = _
    rw [hr1]
    show u.ts ++ [(u.pos + r.2.2 - 1) / 8] = _
    have h9 : (u.add r).pos = u.pos + r.2.2 := rfl
    rw [show (u.pos + r.2.2 - 1) / 8 = i by omega]
  subst u4
  obtain ⟨⟨t1, p1⟩, ⟨t2, p2⟩⟩ := f1.out
  rw [e1] at p1
  rw [e2] at p2
  rw [← p1, ← p2]
  refine ⟨?_, ?_, ?_⟩
  · rw [List.append_assoc, List.getElem?_append_right (Nat.le_refl _), Nat.sub_self]; rfl
  · rw [List.append_assoc, List.getElem?_append_right (by omega), show u.out.length - u.ts.length = 0 by omega]; rfl
  · simp
theorem Pw.later (hi : i + 1 ≤ l.length) (h : Pw (l.take (i + 1)) t mp) (hR : Res st0 (bits8 l) N out ts a why e) (hg : why = 62 → i < a) {x : Nat} (hx : ts[t.out.length]? = some x) : i + 1 ≤ x := by
  obtain ⟨f, f1, rfl, rfl⟩ := reach hi h.path hR hg
  obtain ⟨hps, hpos⟩ := path_full hi h.path
  obtain ⟨e1, e2, e3⟩ := take_bits hi
  have hw := h.wait
  rw [e1] at hw
  exact ts_wait hpos e2 e3 hw f1 (by rw [hps.len rfl]; exact Nat.le_refl _) hx
/-- All was put in. -/
theorem Pw.last (h : Pw l s mp) (hR : Res st0 (bits8 l) N out ts a why e) (hg : why = 62 → l.length ≤ a) : out = s.out ∧ why ≠ 62 ∧ (Live s.m → why = 1 ∧ e = false) ∧ (¬ Live s.m → why = s.m.why ∧ e = s.m.fin) := by
  have hlen := bits8_length l
  have hwy := h.path.wy wy0
  cases hR with
  | dead p hd hn =>
    have := h.path.uniq h.wait p (dead_next hd)
    subst this
    exact ⟨rfl, hwy.2.2, fun hl => absurd hl hd, fun _ => ⟨rfl, rfl⟩⟩
  | cut p hl2 hx hn =>
    have := h.path.uniq h.wait p hx
    subst this
    exact ⟨rfl, by decide, fun _ => ⟨rfl, rfl⟩, fun hd => absurd hl2 hd⟩
  | @much u t x p hx ho hn =>
    exfalso
    have h1 := (next_pos (p.pos (Nat.zero_le _)).2 hx).2
    have h2 := hg rfl
    have h3 : l.length = 0 := by omega
    have hl0 : l = [] := List.eq_nil_of_length_eq_zero h3
    subst hl0
    have : u = st0 := p.stuck (next_none.2 fun _ => rfl)
    subst this
    rw [show next (bits8 []) st0 = none from next_none.2 fun _ => rfl] at hx
    cases hx
/-- What is dead takes no more. -/
theorem Pw.stay (hi : i + 1 ≤ l.length) (h : Pw (l.take i) s mp) (hd : ¬ Live s.m) : Pn (l.take (i + 1)) s mp false 0 s.out := by
  obtain ⟨hps, hpos⟩ := path_full (by omega) h.path
  obtain ⟨e1, e2, e3⟩ := take_bits hi
  refine ⟨?_, h.rel, fun _ => ⟨dead_next hd, rfl, rfl⟩, fun h => (by cases h), fun h => (by cases h), by rw [List.length_take]; omega⟩
  rw [e1]
  exact hps.to_take (by omega) (Nat.zero_le _) e2 e3
end
theorem Res.at_le {bs : List Bool} {n : Nat} {o : List Int} {ts : List Nat} {a w : Nat} {e : Bool} (h : Res st0 bs n o ts a w e) : a ≤ bs.length / 8 := by
  cases h with
  | dead p hd hn => have := (p.pos (Nat.zero_le _)).2; omega
  | cut p hl hx hn => exact Nat.le_refl _
  | much p hx ho hn => have := (next_pos (p.pos (Nat.zero_le _)).2 hx).2; omega
def TrueP (w : World) (e : Ending) (w' : World) : Prop := e = .returned (.bool true) ∧ Below w.heap.size w w'
end Go.Proofs.YtjjcemdoefigkaaDoor.Hf
