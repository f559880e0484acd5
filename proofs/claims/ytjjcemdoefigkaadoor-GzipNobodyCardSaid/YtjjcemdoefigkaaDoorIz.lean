/- The inflater over whole bytes. -/
import Derived.Test.YtjjcemdoefigkaaDoorIx
import Derived.Test.YtjjcemdoefigkaaDoorMa
import Derived.Deep.CutBlock
import Derived.Deep.DeepCutAuto
namespace Go.Proofs.YtjjcemdoefigkaaDoor.Hf
set_option linter.unusedVariables false
set_option linter.unusedSimpArgs false
open Go.RowKit Go.Proofs.YtjjcemdoefigkaaDoor.W

/-- The bits of bytes. -/
def bits8 (l : List Int) : List Bool := l.flatMap byteB
theorem bits8_length (l : List Int) : (bits8 l).length = 8 * l.length := by
  unfold bits8
  induction l with
  | nil => rfl
  | cons x l ih => rw [List.flatMap_cons, List.length_append, byteB_length, ih, List.length_cons]; omega
theorem bits8_take : ∀ (l : List Int) (i : Nat), (bits8 l).take (8 * i) = bits8 (l.take i) := by
  intro l
  unfold bits8
  induction l with
  | nil => intro i; simp
  | cons x l ih =>
    intro i
    cases i with
    | zero => simp
    | succ i =>
      rw [List.take_succ_cons, List.flatMap_cons, List.flatMap_cons, List.take_append, byteB_length, List.take_of_length_le (by rw [byteB_length]; omega), show 8 * (i + 1) - 8 = 8 * i by omega, ih]
theorem bits8_next {l : List Int} {i : Nat} {x : Int} (h : l[i]? = some x) : (bits8 l).take (8 * (i + 1)) = (bits8 l).take (8 * i) ++ byteB x := by
  obtain ⟨h1, h2⟩ := List.getElem?_eq_some_iff.1 h
  rw [bits8_take, bits8_take, List.take_succ_eq_append_getElem h1, h2]
  unfold bits8
  rw [List.flatMap_append]
  simp
def st0 : St := ⟨m0, [], [], 0⟩
theorem more_len {lens : List Nat} {held : List Bool} (ht : Tab lens) (h : lookAt lens held = .more) : held.length ≤ 15 := by
  unfold lookAt at h
  split at h
  · cases h
  · split at h
    · rename_i ha
      obtain ⟨i, hi, hc⟩ := List.any_eq_true.1 ha
      rw [Bool.and_eq_true, decide_eq_true_iff, List.isPrefixOf_iff_prefix] at hc
      obtain ⟨k, hk, h3⟩ := (code_ne (by simpa using hi)).1 hc.1
      have h4 := hc.2.length_le
      rw [code_length h3] at h4
      have := ht.le k (List.mem_of_getElem? h3)
      omega
    · cases h
theorem dec_more_len {lens : List Nat} {bs : List Bool} (ht : Tab lens) (h : dec lens bs = .more) : bs.length ≤ 15 := by
  rcases dec_char (lens := lens) bs with ⟨h1, _⟩ | ⟨n, _, _, h1⟩
  · have := h1 bs.length (Nat.le_refl _)
    rw [List.take_length] at this
    exact more_len ht this
  · rcases h1 with ⟨s, _, h2⟩ | ⟨_, h2⟩ <;> (rw [h] at h2; cases h2)
/-- What waits holds few bits. -/
theorem wait_small {m : M} {out : List Int} {bs : List Bool} (hok : Ok m out) (h0 : m.why = 0) (h : step m out bs = none) : bs.length < 32 := by
  have hp := hok.ph h0
  unfold PhOk at hp
  unfold step at h
  have hif : ∀ {c : Prop} [Decidable c] {x : Out}, (if c then some x else none) = none → ¬ c := fun h1 => by
    split at h1
    · cases h1
    · assumption
  cases hph : m.ph with
  | head => rw [hph] at h; have := hif h; omega
  | sth => rw [hph] at h; have := hif h; omega
  | sto =>
    rw [hph] at h
    dsimp only at h
    split at h
    · cases h
    · have := hif h; omega
  | cts => rw [hph] at h; have := hif h; omega
  | lol => rw [hph] at h; have := hif h; omega
  | len =>
    rw [hph] at h hp
    dsimp only at h hp
    cases hd : dec m.cd bs with
    | got s k => rw [hd] at h; cases h
    | bad j => exact absurd hd (dec_full hp.tab hp.full bs j)
    | more => have := dec_more_len hp.tab hd; omega
  | rep =>
    rw [hph] at h
    have := hif h
    unfold repMore at this
    split at this
    · omega
    · split at this <;> omega
  | lit =>
    rw [hph] at h hp
    dsimp only at h hp
    cases hd : dec m.lt bs with
    | got s k => rw [hd] at h; cases h
    | bad j => rw [hd] at h; cases h
    | more => have := dec_more_len hp.lt hd; omega
  | lbits =>
    rw [hph] at h hp
    have h1 := hif h
    have hall : ∀ s : _root_.Fin 29, mL.getD s.val 0 ≤ 5 := by decide +kernel
    have h2 := hall ⟨m.sym, by have := hp.2; omega⟩
    dsimp only at h2
    omega
  | dst =>
    rw [hph] at h hp
    dsimp only at h hp
    cases hd : dec m.ds bs with
    | got s k => rw [hd] at h; cases h
    | bad j => rw [hd] at h; cases h
    | more => have := dec_more_len hp.1.ds hd; omega
  | dbits =>
    rw [hph] at h hp
    have h1 := hif h
    have hall : ∀ s : _root_.Fin 30, mB.getD s.val 0 ≤ 13 := by decide +kernel
    have h2 := hall ⟨m.sym, by have := hp.2.2; omega⟩
    dsimp only at h2
    omega
  | cpy => rw [hph] at h; cases h
theorem Path.meas {bs : List Bool} {s t : St} (h : Path bs s t) (hk : Ok s.m s.out) (hp : s.pos ≤ bs.length) : t.meas bs ≤ s.meas bs := by
  induction h with
  | refl => exact Nat.le_refl _
  | cons h hp2 ih =>
    have h1 := next_meas hk hp h
    have h2 := ih ((Path.one h).ok hk) (next_pos hp h).2
    omega
theorem own_kp2 {w w' : World} {base : Nat} {e : TypeId} {size n : Nat} {v : Value} {xs : List Value} {S : List Nat} (h : w.ownsRow base e size v n xs) (hk : Kp S w w') (hS : ∀ k ∈ S, k < base) : w'.ownsRow base e size v n xs := by
  obtain ⟨h1, h2⟩ := h
  refine ⟨h1, ?_⟩
  rcases h2 with h2 | ⟨g', cap', cur, hv, hb, hg', rest⟩
  · exact .inl h2
  · refine .inr ⟨g', cap', cur, hv, hb, ?_, rest⟩
    rw [hk.block g' (Array.getElem?_eq_some_iff.1 hg').1 (fun hm => by have := hS g' hm; omega)]
    exact hg'
theorem own_mono {w : World} {b1 b2 : Nat} {e : TypeId} {size n : Nat} {v : Value} {xs : List Value} (h : w.ownsRow b2 e size v n xs) (hb : b1 ≤ b2) : w.ownsRow b1 e size v n xs :=
  ⟨h.1, h.2.imp id fun ⟨g, cap, cur, hv, hb2, rest⟩ => ⟨g, cap, cur, hv, Nat.le_trans hb hb2, rest⟩⟩
theorem AdvPost.kp {w w' : World} {d r p q g : Nat} {m : M} {out : List Int} {bs : List Bool} {en : Ending} (h : AdvPost w d r p q g m out bs en w') : Kp [d, r, p, q, g] w w' := by
  obtain ⟨_, _, _, _, _, _, _, _, _, _, h5, _⟩ := h
  exact h5
theorem adv_path {bs : List Bool} {s : St} {q : Nat} (hp : Path bs st0 s) (hpos : s.pos ≤ q) (hq : q ≤ bs.length) (h8 : q % 8 = bs.length % 8) {m' : M} {out' : List Int} {b' : List Bool} {rdy : Bool} (ha : Adv s.m s.out ((bs.take q).drop s.pos) m' out' b' rdy) :
    ∃ t, t.m = m' ∧ t.out = out' ∧ b' = (bs.take q).drop t.pos ∧ Path bs st0 t ∧ Path bs s t ∧ t.pos ≤ q ∧ (rdy = false → next (bs.take q) t = none ∧ t.out = s.out) ∧ (rdy = true → ∃ x u, Path bs st0 u ∧ Path bs s u ∧ next bs u = some t ∧ t.out = u.out ++ [x] ∧ u.out = s.out) := by
  obtain ⟨t, h1, h2, h3, h4, h5, h6⟩ := ha.path (bs.take q) s rfl rfl rfl (by rw [List.length_take]; omega)
  have h7 := h1.of_take hpos hq h8
  refine ⟨t, h2, h3, h4, hp.trans h7.1, h7.1, h7.2, h5, fun hr => ?_⟩
  obtain ⟨x, hx, _, u, hu, hn, huo, _⟩ := h6 hr
  have h8' := hu.of_take hpos hq h8
  refine ⟨x, u, hp.trans h8'.1, h8'.1, ?_, by rw [hx, huo], huo⟩
  rw [next_take h8'.2 hq h8] at hn
  cases hnn : next bs u with
  | none => rw [hnn] at hn; cases hn
  | some v =>
    rw [hnn, Option.bind_some] at hn
    split at hn
    · injection hn with hn; rw [hn]
    · cases hn
structure Wo (w w2 wx : World) (d r p q g : Nat) (l : List Int) (n i : Nat) (A : Option Addr) (m c : Nat) (s : St) : Prop where
  inf : Inf wx d r p q g s.m s.out (((bits8 l).take (8 * i)).drop s.pos) false 0
  path : Path (bits8 l) st0 s
  pos : s.pos ≤ 8 * i
  wait : next ((bits8 l).take (8 * i)) s = none
  ok : Ok s.m s.out
  row : wx.ownsRow w2.heap.size 5 1 (.slice A m c) m (u8s s.out)
  kp : Kp [] w wx
  sz : w2.heap.size ≤ wx.heap.size
  small : s.out.length ≤ n
  dead : ¬ Live s.m → 0 < i ∧ 8 * (i - 1) < s.pos
structure Wn (w w2 wx : World) (d r p q g : Nat) (l : List Int) (n i : Nat) (A : Option Addr) (m c : Nat) (t : St) (rdy : Bool) (o : Int) (ol : List Int) : Prop where
  inf : Inf wx d r p q g t.m t.out (((bits8 l).take (8 * (i + 1))).drop t.pos) rdy o
  path : Path (bits8 l) st0 t
  pos : t.pos ≤ 8 * (i + 1)
  ok : Ok t.m t.out
  row : wx.ownsRow w2.heap.size 5 1 (.slice A m c) m (u8s ol)
  kp : Kp [] w wx
  sz : w2.heap.size ≤ wx.heap.size
  small : ol.length ≤ n
  no : rdy = false → next ((bits8 l).take (8 * (i + 1))) t = none ∧ ol = t.out
  yes : rdy = true → ∃ u, Path (bits8 l) st0 u ∧ next (bits8 l) u = some t ∧ t.out = u.out ++ [o] ∧ ol = u.out ∧ 8 * i < t.pos
  dead : ¬ Live t.m → 8 * i < t.pos
def WholePost (w : World) (l : List Int) (n : Nat) (e : Ending) (w' : World) : Prop :=
  ∃ (A : Option Addr) (m c : Nat) (ol : List Int) (ts : List Nat) (a why : Nat) (en : Bool), e = .returned (.tuple #[.slice A m c, .int .i64 ((min (a + 1) l.length : Nat) : Int), .int .i64 (why : Nat)]) ∧ Res st0 (bits8 l) n ol ts a why en ∧
    w'.ownsRow w.heap.size 5 1 (.slice A m c) m (u8s ol) ∧ Kp [] w w'
section
variable {w w2 wx wy : World} {d r p q g : Nat} {l : List Int} {n i : Nat} {A : Option Addr} {m c : Nat} {s t : St} {rdy : Bool} {o : Int} {ol : List Int}
/-- Over, at a byte's beginning. -/
theorem Wo.over (h : Wo w w2 wx d r p q g l n i A m c s) (hd : ¬ Live s.m) (hi : i ≤ l.length) (hw2 : w.heap.size ≤ w2.heap.size) : WholePost w l n (.returned (.tuple #[.slice A m c, .int .i64 (i : Nat), .int .i64 (s.m.why : Nat)])) wx := by
  have h1 := h.dead hd
  have h2 := h.pos
  refine ⟨A, m, c, s.out, s.ts, (s.pos - 1) / 8, s.m.why, s.m.fin, ?_, .dead h.path hd h.small, own_mono h.row hw2, h.kp⟩
  rw [show min ((s.pos - 1) / 8 + 1) l.length = i by omega]
/-- Over for the bytes' end. -/
theorem Wo.cut (h : Wo w w2 wx d r p q g l n l.length A m c s) (hd : Live s.m) (hw2 : w.heap.size ≤ w2.heap.size) (hk : Kp [] w wy) (hrow : wy.ownsRow w2.heap.size 5 1 (.slice A m c) m (u8s s.out)) : WholePost w l n (.returned (.tuple #[.slice A m c, .int .i64 (l.length : Nat), .int .i64 1])) wy := by
  have h1 := h.wait
  rw [← bits8_length, List.take_length] at h1
  refine ⟨A, m, c, s.out, s.ts, (bits8 l).length / 8, 1, false, ?_, .cut h.path hd h1 h.small, own_mono hrow hw2, hk⟩
  rw [bits8_length, show min (8 * l.length / 8 + 1) l.length = l.length by omega]
  rfl
/-- More than is asked for. -/
theorem Wn.over (h : Wn w w2 wx d r p q g l n i A m c t true o ol) (hn : n ≤ ol.length) (hi : i < l.length) (hw2 : w.heap.size ≤ w2.heap.size) (hk : Kp [] w wy) (hrow : wy.ownsRow w2.heap.size 5 1 (.slice A m c) m (u8s ol)) : WholePost w l n (.returned (.tuple #[.slice A m c, .int .i64 ((i + 1 : Nat) : Int), .int .i64 62])) wy := by
  obtain ⟨u, h1, h2, h3, rfl, h5⟩ := h.yes rfl
  have h6 := h.pos
  have h7 := h.small
  refine ⟨A, m, c, u.out, u.ts, (t.pos - 1) / 8, 62, false, ?_, .much h1 h2 h3 (by omega), own_mono hrow hw2, hk⟩
  rw [show min ((t.pos - 1) / 8 + 1) l.length = i + 1 by omega]
  rfl
theorem Wn.to (h : Wn w w2 wx d r p q g l n i A m c t false o ol) (ho : o = 0) : Wo w w2 wx d r p q g l n (i + 1) A m c t := by
  subst ho
  obtain ⟨h1, h2⟩ := h.no rfl
  subst h2
  exact ⟨h.inf, h.path, h.pos, h1, h.ok, h.row, h.kp, h.sz, h.small, fun hd => ⟨by omega, by have := h.dead hd; rw [Nat.add_sub_cancel]; exact this⟩⟩
/-- A byte is put. -/
theorem Wo.put {x : Int} (h : Wo w w2 wx d r p q g l n i A m c s) (hl : Live s.m) (hx : l[i]? = some x) (hD : ∀ k ∈ [d, r, p, q, g], w.heap.size ≤ k ∧ k < w2.heap.size)
    (ha : AdvPost wx d r p q g s.m s.out (((bits8 l).take (8 * i)).drop s.pos ++ byteB x) (.returned (.tuple #[])) wy) : ∃ t rdy o, (rdy = false → o = 0) ∧ Wn w w2 wy d r p q g l n i A m c t rdy o s.out := by
  obtain ⟨_, m', out', bs', rdy, o, h1, h2, h3, _, h5, h6, h7⟩ := ha
  have hi : i < l.length := (List.getElem?_eq_some_iff.1 hx).1
  have e1 : ((bits8 l).take (8 * i)).drop s.pos ++ byteB x = ((bits8 l).take (8 * (i + 1))).drop s.pos := by
    rw [bits8_next hx, List.drop_append_of_le_length]
    rw [List.length_take, bits8_length]
    have := h.pos
    omega
  rw [e1] at h1
  have hlen := bits8_length l
  have hp := h.pos
  obtain ⟨t, rfl, rfl, rfl, t1, t2, t3, t4, t5⟩ := adv_path h.path (by omega) (by omega) (by omega) h1
  have hne : s.out ≠ t.out ∨ ¬ Live t.m → t ≠ s := fun h9 h10 => by
    subst h10
    rcases h9 with h9 | h9
    · exact h9 rfl
    · exact h9 hl
  have hbey : s.out ≠ t.out ∨ ¬ Live t.m → 8 * i < t.pos := fun h9 => wait_beyond hp (by omega) (by omega) h.wait t2 (hne h9)
  refine ⟨t, rdy, o, h6, h2, t1, t3, h3, own_kp2 h.row h5 (fun k hk => (hD k hk).2), ((h.kp.mono (T := [d, r, p, q, g]) (by simp)).trans h5).mono (fun k hk => .inr (hD k hk).1), Nat.le_trans h.sz h5.size, h.small, fun hr => ⟨(t4 hr).1, (t4 hr).2.symm⟩, fun hr => ?_, fun hd => hbey (.inr hd)⟩
  · obtain ⟨y, u, u1, u2, u3, u4, u5⟩ := t5 hr
    obtain ⟨o0, ho0⟩ := h7 hr
    have : u.out ++ [y] = o0 ++ [o] := u4.symm.trans ho0
    obtain ⟨_, h9⟩ := List.append_inj' this rfl
    injection h9 with h9
    exact ⟨u, u1, u3, by rw [u4, h9], u5.symm, hbey (.inl (by rw [u4, u5]; simp))⟩
/-- The next byte is told, and looked for. -/
theorem Wn.next {A' : Option Addr} {m' c' : Nat} (h : Wn w w2 wx d r p q g l n i A m c t true o ol) (hi : i < l.length) (hD : ∀ k ∈ [d, r, p, q, g], w.heap.size ≤ k ∧ k < w2.heap.size) (hn : ol.length + 1 ≤ n) {wz : World}
    (ha : AdvPost wx d r p q g t.m t.out (((bits8 l).take (8 * (i + 1))).drop t.pos) (.returned (.tuple #[])) wy)
    (hz : ∀ m1 out1 bs1 rdy1 o1, Inf wy d r p q g m1 out1 bs1 rdy1 o1 → Inf wz d r p q g m1 out1 bs1 rdy1 o1) (hrow : wz.ownsRow w2.heap.size 5 1 (.slice A' m' c') m' (u8s (ol ++ [o]))) (hk : Kp [] w wy → Kp [] w wz) (hs : wy.heap.size ≤ wz.heap.size) :
    ∃ t' rdy' o', (rdy' = false → o' = 0) ∧ Wn w w2 wz d r p q g l n i A' m' c' t' rdy' o' (ol ++ [o]) ∧ 2 * t'.meas (bits8 l) + rdy'.toNat < 2 * t.meas (bits8 l) + 1 := by
  obtain ⟨_, m', out', bs', rdy, o1, h1, h2, h3, _, h5, h6, h7⟩ := ha
  have hlen := bits8_length l
  have hp := h.pos
  obtain ⟨u0, v1, v2, v3, v4, v5⟩ := h.yes rfl
  obtain ⟨t', rfl, rfl, rfl, t1, t2, t3, t4, t5⟩ := adv_path h.path (by omega) (by omega) (by omega) h1
  have hpp := (t2.pos (by omega)).1
  have hms := t2.meas h.ok (by omega)
  refine ⟨t', rdy, o1, h6, ⟨hz _ _ _ _ _ h2, t1, t3, h3, hrow, hk (((h.kp.mono (T := [d, r, p, q, g]) (by simp)).trans h5).mono (fun k hk => .inr (hD k hk).1)), Nat.le_trans (Nat.le_trans h.sz h5.size) hs, by rw [List.length_append]; exact hn, fun hr => ⟨(t4 hr).1, by rw [(t4 hr).2, v3, v4]⟩, fun hr => ?_, fun hd => by omega⟩, ?_⟩
  · obtain ⟨y, u, u1, u2, u3, u4, u5⟩ := t5 hr
    obtain ⟨o0, ho0⟩ := h7 hr
    have : u.out ++ [y] = o0 ++ [o1] := u4.symm.trans ho0
    obtain ⟨_, h9⟩ := List.append_inj' this rfl
    injection h9 with h9
    exact ⟨u, u1, u3, by rw [u4, h9], by rw [u5, v3, v4], by omega⟩
  · cases hr : rdy with
    | false => simp only [Bool.toNat_false]; omega
    | true =>
      obtain ⟨y, u, u1, u2, u3, u4, u5⟩ := t5 hr
      have h9 := u2.meas h.ok (by omega)
      have h10 := next_meas (u2.ok h.ok) (u2.pos (by omega)).2 u3
      simp only [Bool.toNat_true]
      omega
/-- What grows a row of bytes leaves the inflater as it was. -/
theorem Tb.row {S T : List Nat} {tt : Nat} {lens : List Nat} (h : Tb w S tt lens) (hk : Kp T w w2) (hT : ∀ k ∈ T, ∃ cs, w.heap[k]? = some (.cells cs 5 (0, 0))) : Tb w2 S tt lens := by
  obtain ⟨b, h1, h2, h3⟩ := h.mp
  obtain ⟨cs, hty⟩ := h.ty
  have ht : tt ∉ T := fun h4 => by
    obtain ⟨cs', h5⟩ := hT tt h4
    rw [hty] at h5
    injection h5 with h5
    injection h5 with h5 h6
    cases h6
  have hb : b ∉ T := fun h4 => by
    obtain ⟨cs', h5⟩ := hT b h4
    obtain ⟨es, ck, h6, _⟩ := h2
    rw [h6] at h5
    cases h5
  exact ⟨h.nums.kept hk ht, h.out, ⟨b, (World.cell?_of_block (a := ⟨tt, 1, none⟩) (hk.block tt h.nums.lt ht)).trans h1, h2.kept hk hb, h3⟩, ⟨cs, (hk.block tt h.nums.lt ht).trans hty⟩⟩
theorem Inf.row' {T : List Nat} {m : M} {out : List Int} {bs : List Bool} (h : Inf w d r p q g m out bs rdy o) (hk : Kp T w w2) (hT : ∀ k ∈ T, ∃ cs, w.heap[k]? = some (.cells cs 5 (0, 0))) (hD : ∀ k ∈ [d, r, p, q, g], k ∉ T) : Inf w2 d r p q g m out bs rdy o := by
  obtain ⟨l, e, c, hd, hT2⟩ := h.db
  obtain ⟨b0, hr, hb⟩ := h.rd
  refine ⟨⟨l, e, c, hd.kept hk (hD d (by simp)), ⟨fun hu => ?_, fun hu => ?_, fun hu => ?_⟩⟩, ⟨b0, hr.kept hk (hD r (by simp)), hb⟩, h.rg.kept hk (hD p (by simp)) (hD q (by simp)), own_kp h.row hk (hD g (by simp)), h.ne⟩
  · obtain ⟨t, h1, h2⟩ := hT2.l hu; exact ⟨t, h1, h2.row hk hT⟩
  · obtain ⟨t, h1, h2⟩ := hT2.e hu; exact ⟨t, h1, h2.row hk hT⟩
  · obtain ⟨t, h1, h2⟩ := hT2.c hu; exact ⟨t, h1, h2.row hk hT⟩
/-- A row of the call's own that grows. -/
theorem grown_kp {base : Nat} {v : Value} {nn : Nat} {xs : List Value} (hown : w.ownsRow base 5 1 v nn xs) (hg : w.grownBy w2 v.ownBlock) : ∃ T, Kp T w w2 ∧ (∀ k ∈ T, base ≤ k ∧ ∃ cs, w.heap[k]? = some (.cells cs 5 (0, 0))) := by
  rcases hown.2 with ⟨hv, _⟩ | ⟨g', cap', cur, hv, hb, hg', rest⟩
  · refine ⟨[], Kp.of_grown hg (fun k hk => ?_), fun k hk => (by cases hk)⟩
    rw [hv] at hk
    cases hk
  · refine ⟨[g'], Kp.of_grown hg (fun k hk => ?_), fun k hk => ?_⟩
    · rw [hv] at hk
      exact .inl (by rw [← Option.some.inj hk]; exact List.mem_cons_self ..)
    · rw [List.mem_singleton.1 hk]
      exact ⟨hb, cur, hg'⟩
end
end Go.Proofs.YtjjcemdoefigkaaDoor.Hf
