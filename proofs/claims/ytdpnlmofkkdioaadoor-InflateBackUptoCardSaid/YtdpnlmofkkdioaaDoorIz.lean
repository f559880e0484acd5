/- The inflater over whole bytes: the walk of Whole. -/
import Derived.Test.YtdpnlmofkkdioaaDoorIx
import Derived.Test.YtdpnlmofkkdioaaDoorMa
import Derived.Deep.CutBlock
import Derived.Deep.DeepCutAuto
namespace Go.Proofs.YtdpnlmofkkdioaaDoor.Hf
set_option linter.unusedVariables false
set_option linter.unusedSimpArgs false
open Go.RowKit Go.Proofs.YtdpnlmofkkdioaaDoor.W

/-- The bits of bytes. -/
def bits8 (l : List Int) : List Bool := l.flatMap byteB
theorem bits8_length (l : List Int) : (bits8 l).length = 8 * l.length := by
  unfold bits8
  induction l with
  | nil => rfl
  | cons x l ih => rw [List.flatMap_cons, List.length_append, byteB_length, ih, List.length_cons]; omega
theorem bits8_take : ∀ (l : List Int) (i : Nat), (bits8 l).take (8 * i) = bits8 (l.take i) := by
  intro l
  unfold bits8
  induction l with
  | nil => intro i; simp
  | cons x l ih =>
    intro i
    cases i with
    | zero => simp
    | succ i =>
      rw [List.take_succ_cons, List.flatMap_cons, List.flatMap_cons, List.take_append, byteB_length, List.take_of_length_le (by rw [byteB_length]; omega), show 8 * (i + 1) - 8 = 8 * i by omega, ih]
theorem bits8_next {l : List Int} {i : Nat} {x : Int} (h : l[i]? = some x) : (bits8 l).take (8 * (i + 1)) = (bits8 l).take (8 * i) ++ byteB x := by
  obtain ⟨h1, h2⟩ := List.getElem?_eq_some_iff.1 h
  rw [bits8_take, bits8_take, List.take_succ_eq_append_getElem h1, h2]
  unfold bits8
  rw [List.flatMap_append]
  simp
def st0 : St := ⟨m0, [], [], 0⟩
theorem more_len {lens : List Nat} {held : List Bool} (ht : Tab lens) (h : lookAt lens held = .more) : held.length ≤ 15 := by
  unfold lookAt at h
  split at h
  · cases h
  · split at h
    · rename_i ha
      obtain ⟨i, hi, hc⟩ := List.any_eq_true.1 ha
      rw [Bool.and_eq_true, decide_eq_true_iff, List.isPrefixOf_iff_prefix] at hc
      obtain ⟨k, hk, h3⟩ := (code_ne (by simpa using hi)).1 hc.1
      have h4 := hc.2.length_le
      rw [code_length h3] at h4
      have := ht.le k (List.mem_of_getElem? h3)
      omega
    · cases h
theorem dec_more_len {lens : List Nat} {bs : List Bool} (ht : Tab lens) (h : dec lens bs = .more) : bs.length ≤ 15 := by
  rcases dec_char (lens := lens) bs with ⟨h1, _⟩ | ⟨n, _, _, h1⟩
  · have := h1 bs.length (Nat.le_refl _)
    rw [List.take_length] at this
    exact more_len ht this
  · rcases h1 with ⟨s, _, h2⟩ | ⟨_, h2⟩ <;> (rw [h] at h2; cases h2)
/-- What waits holds few bits. -/
theorem wait_small {m : M} {out : List Int} {bs : List Bool} (hok : Ok m out) (h0 : m.why = 0) (h : step m out bs = none) : bs.length < 32 := by
  have hp := hok.ph h0
  unfold PhOk at hp
  unfold step at h
  have hif : ∀ {c : Prop} [Decidable c] {x : Out}, (if c then some x else none) = none → ¬ c := fun h1 => by
    split at h1
    · cases h1
    · assumption
  cases hph : m.ph with
  | head => rw [hph] at h; have := hif h; omega
  | sth => rw [hph] at h; have := hif h; omega
  | sto =>
    rw [hph] at h
    dsimp only at h
    split at h
    · cases h
    · have := hif h; omega
  | cts => rw [hph] at h; have := hif h; omega
  | lol => rw [hph] at h; have := hif h; omega
  | len =>
    rw [hph] at h hp
    dsimp only at h hp
    cases hd : dec m.cd bs with
    | got s k => rw [hd] at h; cases h
    | bad j => exact absurd hd (dec_full hp.tab hp.full bs j)
    | more => have := dec_more_len hp.tab hd; omega
  | rep =>
    rw [hph] at h
    have := hif h
    unfold repMore at this
    split at this
    · omega
    · split at this <;> omega
  | lit =>
    rw [hph] at h hp
    dsimp only at h hp
    cases hd : dec m.lt bs with
    | got s k => rw [hd] at h; cases h
    | bad j => rw [hd] at h; cases h
    | more => have := dec_more_len hp.lt hd; omega
  | lbits =>
    rw [hph] at h hp
    have h1 := hif h
    have hall : ∀ s : _root_.Fin 29, mL.getD s.val 0 ≤ 5 := by decide +kernel
    have h2 := hall ⟨m.sym, by have := hp.2; omega⟩
    dsimp only at h2
    omega
  | dst =>
    rw [hph] at h hp
    dsimp only at h hp
    cases hd : dec m.ds bs with
    | got s k => rw [hd] at h; cases h
    | bad j => rw [hd] at h; cases h
    | more => have := dec_more_len hp.1.ds hd; omega
  | dbits =>
    rw [hph] at h hp
    have h1 := hif h
    have hall : ∀ s : _root_.Fin 30, mB.getD s.val 0 ≤ 13 := by decide +kernel
    have h2 := hall ⟨m.sym, by have := hp.2.2; omega⟩
    dsimp only at h2
    omega
  | cpy => rw [hph] at h; cases h
theorem Path.meas {bs : List Bool} {s t : St} (h : Path bs s t) (hk : Ok s.m s.out) (hp : s.pos ≤ bs.length) : t.meas bs ≤ s.meas bs := by
  induction h with
  | refl => exact Nat.le_refl _
  | cons h hp2 ih =>
    have h1 := next_meas hk hp h
    have h2 := ih ((Path.one h).ok hk) (next_pos hp h).2
    omega
theorem own_kp2 {w w' : World} {base : Nat} {e : TypeId} {size n : Nat} {v : Value} {xs : List Value} {S : List Nat} (h : w.ownsRow base e size v n xs) (hk : Kp S w w') (hS : ∀ k ∈ S, k < base) : w'.ownsRow base e size v n xs := by
  obtain ⟨h1, h2⟩ := h
  refine ⟨h1, ?_⟩
  rcases h2 with h2 | ⟨g', cap', cur, hv, hb, hg', rest⟩
  · exact .inl h2
  · refine .inr ⟨g', cap', cur, hv, hb, ?_, rest⟩
    rw [hk.block g' (Array.getElem?_eq_some_iff.1 hg').1 (fun hm => by have := hS g' hm; omega)]
    exact hg'
theorem own_mono {w : World} {b1 b2 : Nat} {e : TypeId} {size n : Nat} {v : Value} {xs : List Value} (h : w.ownsRow b2 e size v n xs) (hb : b1 ≤ b2) : w.ownsRow b1 e size v n xs :=
  ⟨h.1, h.2.imp id fun ⟨g, cap, cur, hv, hb2, rest⟩ => ⟨g, cap, cur, hv, Nat.le_trans hb hb2, rest⟩⟩
theorem AdvPost.kp {w w' : World} {d r p q g : Nat} {m : M} {out : List Int} {bs : List Bool} {en : Ending} (h : AdvPost w d r p q g m out bs en w') : Kp [d, r, p, q, g] w w' := by
  obtain ⟨_, _, _, _, _, _, _, _, _, _, h5, _⟩ := h
  exact h5
theorem adv_path {bs : List Bool} {s : St} {q : Nat} (hp : Path bs st0 s) (hpos : s.pos ≤ q) (hq : q ≤ bs.length) (h8 : q % 8 = bs.length % 8) {m' : M} {out' : List Int} {b' : List Bool} {rdy : Bool} (ha : Adv s.m s.out ((bs.take q).drop s.pos) m' out' b' rdy) :
    ∃ t, t.m = m' ∧ t.out = out' ∧ b' = (bs.take q).drop t.pos ∧ Path bs st0 t ∧ Path bs s t ∧ t.pos ≤ q ∧ (rdy = false → next (bs.take q) t = none ∧ t.out = s.out) ∧ (rdy = true → ∃ x u, Path bs st0 u ∧ Path bs s u ∧ next bs u = some t ∧ t.out = u.out ++ [x] ∧ u.out = s.out) := by
  obtain ⟨t, h1, h2, h3, h4, h5, h6⟩ := ha.path (bs.take q) s rfl rfl rfl (by rw [List.length_take]; omega)
  have h7 := h1.of_take hpos hq h8
  refine ⟨t, h2, h3, h4, hp.trans h7.1, h7.1, h7.2, h5, fun hr => ?_⟩
  obtain ⟨x, hx, _, u, hu, hn, huo, _⟩ := h6 hr
  have h8' := hu.of_take hpos hq h8
  refine ⟨x, u, hp.trans h8'.1, h8'.1, ?_, by rw [hx, huo], huo⟩
  rw [next_take h8'.2 hq h8] at hn
  cases hnn : next bs u with
  | none => rw [hnn] at hn; cases hn
  | some v =>
    rw [hnn, Option.bind_some] at hn
    split at hn
    · injection hn with hn; rw [hn]
    · cases hn
structure Wo (w w2 wx : World) (d r p q g : Nat) (l : List Int) (n i : Nat) (A : Option Addr) (m c : Nat) (s : St) : Prop where
  inf : Inf wx d r p q g s.m s.out (((bits8 l).take (8 * i)).drop s.pos) false 0
  path : Path (bits8 l) st0 s
  pos : s.pos ≤ 8 * i
  wait : next ((bits8 l).take (8 * i)) s = none
  ok : Ok s.m s.out
  row : wx.ownsRow w2.heap.size 5 1 (.slice A m c) m (u8s s.out)
  kp : Kp [] w wx
  sz : w2.heap.size ≤ wx.heap.size
  small : s.out.length ≤ n
  dead : ¬ Live s.m → 0 < i ∧ 8 * (i - 1) < s.pos
structure Wn (w w2 wx : World) (d r p q g : Nat) (l : List Int) (n i : Nat) (A : Option Addr) (m c : Nat) (t : St) (rdy : Bool) (o : Int) (ol : List Int) : Prop where
  inf : Inf wx d r p q g t.m t.out (((bits8 l).take (8 * (i + 1))).drop t.pos) rdy o
  path : Path (bits8 l) st0 t
  pos : t.pos ≤ 8 * (i + 1)
  ok : Ok t.m t.out
  row : wx.ownsRow w2.heap.size 5 1 (.slice A m c) m (u8s ol)
  kp : Kp [] w wx
  sz : w2.heap.size ≤ wx.heap.size
  small : ol.length ≤ n
  no : rdy = false → next ((bits8 l).take (8 * (i + 1))) t = none ∧ ol = t.out
  yes : rdy = true → ∃ u, Path (bits8 l) st0 u ∧ next (bits8 l) u = some t ∧ t.out = u.out ++ [o] ∧ ol = u.out ∧ 8 * i < t.pos
  dead : ¬ Live t.m → 8 * i < t.pos
def WholePost (w : World) (l : List Int) (n : Nat) (e : Ending) (w' : World) : Prop :=
  ∃ (A : Option Addr) (m c : Nat) (ol : List Int) (ts : List Nat) (a why : Nat) (en : Bool), e = .returned (.tuple #[.slice A m c, .int .i64 ((min (a + 1) l.length : Nat) : Int), .int .i64 (why : Nat)]) ∧ Res st0 (bits8 l) n ol ts a why en ∧
    w'.ownsRow w.heap.size 5 1 (.slice A m c) m (u8s ol) ∧ Kp [] w w'
section
variable {w w2 wx wy : World} {d r p q g : Nat} {l : List Int} {n i : Nat} {A : Option Addr} {m c : Nat} {s t : St} {rdy : Bool} {o : Int} {ol : List Int}
/-- Over, at a byte's beginning. -/
theorem Wo.over (h : Wo w w2 wx d r p q g l n i A m c s) (hd : ¬ Live s.m) (hi : i ≤ l.length) (hw2 : w.heap.size ≤ w2.heap.size) : WholePost w l n (.returned (.tuple #[.slice A m c, .int .i64 (i : Nat), .int .i64 (s.m.why : Nat)])) wx := by
  have h1 := h.dead hd
  have h2 := h.pos
  refine ⟨A, m, c, s.out, s.ts, (s.pos - 1) / 8, s.m.why, s.m.fin, ?_, .dead h.path hd h.small, own_mono h.row hw2, h.kp⟩
  rw [show min ((s.pos - 1) / 8 + 1) l.length = i by omega]
/-- Over for the bytes' end. -/
theorem Wo.cut (h : Wo w w2 wx d r p q g l n l.length A m c s) (hd : Live s.m) (hw2 : w.heap.size ≤ w2.heap.size) (hk : Kp [] w wy) (hrow : wy.ownsRow w2.heap.size 5 1 (.slice A m c) m (u8s s.out)) : WholePost w l n (.returned (.tuple #[.slice A m c, .int .i64 (l.length : Nat), .int .i64 1])) wy := by
  have h1 := h.wait
  rw [← bits8_length, List.take_length] at h1
  refine ⟨A, m, c, s.out, s.ts, (bits8 l).length / 8, 1, false, ?_, .cut h.path hd h1 h.small, own_mono hrow hw2, hk⟩
  rw [bits8_length, show min (8 * l.length / 8 + 1) l.length = l.length by omega]
  rfl
/-- More than is asked for. -/
theorem Wn.over (h : Wn w w2 wx d r p q g l n i A m c t true o ol) (hn : n ≤ ol.length) (hi : i < l.length) (hw2 : w.heap.size ≤ w2.heap.size) (hk : Kp [] w wy) (hrow : wy.ownsRow w2.heap.size 5 1 (.slice A m c) m (u8s ol)) : WholePost w l n (.returned (.tuple #[.slice A m c, .int .i64 ((i + 1 : Nat) : Int), .int .i64 62])) wy := by
  obtain ⟨u, h1, h2, h3, rfl, h5⟩ := h.yes rfl
  have h6 := h.pos
  have h7 := h.small
  refine ⟨A, m, c, u.out, u.ts, (t.pos - 1) / 8, 62, false, ?_, .much h1 h2 h3 (by omega), own_mono hrow hw2, hk⟩
  rw [show min ((t.pos - 1) / 8 + 1) l.length = i + 1 by omega]
  rfl
theorem Wn.to (h : Wn w w2 wx d r p q g l n i A m c t false o ol) (ho : o = 0) : Wo w w2 wx d r p q g l n (i + 1) A m c t := by
  subst ho
  obtain ⟨h1, h2⟩ := h.no rfl
  subst h2
  exact ⟨h.inf, h.path, h.pos, h1, h.ok, h.row, h.kp, h.sz, h.small, fun hd => ⟨by omega, by have := h.dead hd; rw [Nat.add_sub_cancel]; exact this⟩⟩
/-- A byte is put. -/
theorem Wo.put {x : Int} (h : Wo w w2 wx d r p q g l n i A m c s) (hl : Live s.m) (hx : l[i]? = some x) (hD : ∀ k ∈ [d, r, p, q, g], w.heap.size ≤ k ∧ k < w2.heap.size)
    (ha : AdvPost wx d r p q g s.m s.out (((bits8 l).take (8 * i)).drop s.pos ++ byteB x) (.returned (.tuple #[])) wy) : ∃ t rdy o, (rdy = false → o = 0) ∧ Wn w w2 wy d r p q g l n i A m c t rdy o s.out := by
  obtain ⟨_, m', out', bs', rdy, o, h1, h2, h3, _, h5, h6, h7⟩ := ha
  have hi : i < l.length := (List.getElem?_eq_some_iff.1 hx).1
  have e1 : ((bits8 l).take (8 * i)).drop s.pos ++ byteB x = ((bits8 l).take (8 * (i + 1))).drop s.pos := by
    rw [bits8_next hx, List.drop_append_of_le_length]
    rw [List.length_take, bits8_length]
    have := h.pos
    omega
  rw [e1] at h1
  have hlen := bits8_length l
  have hp := h.pos
  obtain ⟨t, rfl, rfl, rfl, t1, t2, t3, t4, t5⟩ := adv_path h.path (by omega) (by omega) (by omega) h1
  have hne : s.out ≠ t.out ∨ ¬ Live t.m → t ≠ s := fun h9 h10 => by
    subst h10
    rcases h9 with h9 | h9
    · exact h9 rfl
    · exact h9 hl
  have hbey : s.out ≠ t.out ∨ ¬ Live t.m → 8 * i < t.pos := fun h9 => wait_beyond hp (by omega) (by omega) h.wait t2 (hne h9)
  refine ⟨t, rdy, o, h6, h2, t1, t3, h3, own_kp2 h.row h5 (fun k hk => (hD k hk).2), ((h.kp.mono (T := [d, r, p, q, g]) (by simp)).trans h5).mono (fun k hk => .inr (hD k hk).1), Nat.le_trans h.sz h5.size, h.small, fun hr => ⟨(t4 hr).1, (t4 hr).2.symm⟩, fun hr => ?_, fun hd => hbey (.inr hd)⟩
  · obtain ⟨y, u, u1, u2, u3, u4, u5⟩ := t5 hr
    obtain ⟨o0, ho0⟩ := h7 hr
    have : u.out ++ [y] = o0 ++ [o] := u4.symm.trans ho0
    obtain ⟨_, h9⟩ := List.append_inj' this rfl
    injection h9 with h9
    exact ⟨u, u1, u3, by rw [u4, h9], u5.symm, hbey (.inl (by rw [u4, u5]; simp))⟩
/-- The next byte is told, and looked for. -/
theorem Wn.next {A' : Option Addr} {m' c' : Nat} (h : Wn w w2 wx d r p q g l n i A m c t true o ol) (hi : i < l.length) (hD : ∀ k ∈ [d, r, p, q, g], w.heap.size ≤ k ∧ k < w2.heap.size) (hn : ol.length + 1 ≤ n) {wz : World}
    (ha : AdvPost wx d r p q g t.m t.out (((bits8 l).take (8 * (i + 1))).drop t.pos) (.returned (.tuple #[])) wy)
    (hz : ∀ m1 out1 bs1 rdy1 o1, Inf wy d r p q g m1 out1 bs1 rdy1 o1 → Inf wz d r p q g m1 out1 bs1 rdy1 o1) (hrow : wz.ownsRow w2.heap.size 5 1 (.slice A' m' c') m' (u8s (ol ++ [o]))) (hk : Kp [] w wy → Kp [] w wz) (hs : wy.heap.size ≤ wz.heap.size) :
    ∃ t' rdy' o', (rdy' = false → o' = 0) ∧ Wn w w2 wz d r p q g l n i A' m' c' t' rdy' o' (ol ++ [o]) ∧ 2 * t'.meas (bits8 l) + rdy'.toNat < 2 * t.meas (bits8 l) + 1 := by
  obtain ⟨_, m', out', bs', rdy, o1, h1, h2, h3, _, h5, h6, h7⟩ := ha
  have hlen := bits8_length l
  have hp := h.pos
  obtain ⟨u0, v1, v2, v3, v4, v5⟩ := h.yes rfl
  obtain ⟨t', rfl, rfl, rfl, t1, t2, t3, t4, t5⟩ := adv_path h.path (by omega) (by omega) (by omega) h1
  have hpp := (t2.pos (by omega)).1
  have hms := t2.meas h.ok (by omega)
  refine ⟨t', rdy, o1, h6, ⟨hz _ _ _ _ _ h2, t1, t3, h3, hrow, hk (((h.kp.mono (T := [d, r, p, q, g]) (by simp)).trans h5).mono (fun k hk => .inr (hD k hk).1)), Nat.le_trans (Nat.le_trans h.sz h5.size) hs, by rw [List.length_append]; exact hn, fun hr => ⟨(t4 hr).1, by rw [(t4 hr).2, v3, v4]⟩, fun hr => ?_, fun hd => by omega⟩, ?_⟩
  · obtain ⟨y, u, u1, u2, u3, u4, u5⟩ := t5 hr
    obtain ⟨o0, ho0⟩ := h7 hr
    have : u.out ++ [y] = o0 ++ [o1] := u4.symm.trans ho0
    obtain ⟨_, h9⟩ := List.append_inj' this rfl
    injection h9 with h9
    exact ⟨u, u1, u3, by rw [u4, h9], by rw [u5, v3, v4], by omega⟩
  · cases hr : rdy with
    | false => simp only [Bool.toNat_false]; omega
    | true =>
      obtain ⟨y, u, u1, u2, u3, u4, u5⟩ := t5 hr
      have h9 := u2.meas h.ok (by omega)
      have h10 := next_meas (u2.ok h.ok) (u2.pos (by omega)).2 u3
      simp only [Bool.toNat_true]
      omega
/-- What grows a row of bytes leaves the inflater as it was. -/
theorem Tb.row {S T : List Nat} {tt : Nat} {lens : List Nat} (h : Tb w S tt lens) (hk : Kp T w w2) (hT : ∀ k ∈ T, ∃ cs, w.heap[k]? = some (.cells cs 5 (0, 0))) : Tb w2 S tt lens := by
  obtain ⟨b, h1, h2, h3⟩ := h.mp
  obtain ⟨cs, hty⟩ := h.ty
  have ht : tt ∉ T := fun h4 => by
    obtain ⟨cs', h5⟩ := hT tt h4
    rw [hty] at h5
    injection h5 with h5
    injection h5 with h5 h6
    cases h6
  have hb : b ∉ T := fun h4 => by
    obtain ⟨cs', h5⟩ := hT b h4
    obtain ⟨es, ck, h6, _⟩ := h2
    rw [h6] at h5
    cases h5
  exact ⟨h.nums.kept hk ht, h.out, ⟨b, (World.cell?_of_block (a := ⟨tt, 1, none⟩) (hk.block tt h.nums.lt ht)).trans h1, h2.kept hk hb, h3⟩, ⟨cs, (hk.block tt h.nums.lt ht).trans hty⟩⟩
theorem Inf.row' {T : List Nat} {m : M} {out : List Int} {bs : List Bool} (h : Inf w d r p q g m out bs rdy o) (hk : Kp T w w2) (hT : ∀ k ∈ T, ∃ cs, w.heap[k]? = some (.cells cs 5 (0, 0))) (hD : ∀ k ∈ [d, r, p, q, g], k ∉ T) : Inf w2 d r p q g m out bs rdy o := by
  obtain ⟨l, e, c, hd, hT2⟩ := h.db
  obtain ⟨b0, hr, hb⟩ := h.rd
  refine ⟨⟨l, e, c, hd.kept hk (hD d (by simp)), ⟨fun hu => ?_, fun hu => ?_, fun hu => ?_⟩⟩, ⟨b0, hr.kept hk (hD r (by simp)), hb⟩, h.rg.kept hk (hD p (by simp)) (hD q (by simp)), own_kp h.row hk (hD g (by simp)), h.ne⟩
  · obtain ⟨t, h1, h2⟩ := hT2.l hu; exact ⟨t, h1, h2.row hk hT⟩
  · obtain ⟨t, h1, h2⟩ := hT2.e hu; exact ⟨t, h1, h2.row hk hT⟩
  · obtain ⟨t, h1, h2⟩ := hT2.c hu; exact ⟨t, h1, h2.row hk hT⟩
/-- A row of the call's own that grows. -/
theorem grown_kp {base : Nat} {v : Value} {nn : Nat} {xs : List Value} (hown : w.ownsRow base 5 1 v nn xs) (hg : w.grownBy w2 v.ownBlock) : ∃ T, Kp T w w2 ∧ (∀ k ∈ T, base ≤ k ∧ ∃ cs, w.heap[k]? = some (.cells cs 5 (0, 0))) := by
  rcases hown.2 with ⟨hv, _⟩ | ⟨g', cap', cur, hv, hb, hg', rest⟩
  · refine ⟨[], Kp.of_grown hg (fun k hk => ?_), fun k hk => (by cases hk)⟩
    rw [hv] at hk
    cases hk
  · refine ⟨[g'], Kp.of_grown hg (fun k hk => ?_), fun k hk => ?_⟩
    · rw [hv] at hk
      exact .inl (by rw [← Option.some.inj hk]; exact List.mem_cons_self ..)
    · rw [List.mem_singleton.1 hk]
      exact ⟨hb, cur, hg'⟩
end
set_option maxHeartbeats 4000000 in
set_option maxRecDepth 100000 in
theorem c_whole (A : Option Addr) (L c : Nat) (l : List Int) (nn : Int) (w : World) (hL : l.length = L) (hL2 : L ≤ 1152921504606846976) (hB : Bytes l) (hr : RB w A l) (hn : nn ≤ 1048576) (hn0 : -9223372036854775808 ≤ nn) (hG : Gt w []) :
    Calls Tryd.prog 10 #[.slice A L c, .int .i64 nn] w (WholePost w l nn.toNat) := by
  have CN := c_inew w
  unfold INew at CN
  have CN := Lib.hid CN
  have HL := Lib.hid hL
  have HB := Lib.hid hB
  have HR := Lib.hid hr
  have HG := Lib.hid hG
  clear hr hG hB hL
  go_enter Tryd.func10, Tryd.ntmps10
  go_upto_block 0 with (first
    | (go_at_call 15; go_must (refine CN.out.mono ?_); rintro en w2 ⟨d, r, p, q, g, rfl, hi, hk, hge⟩; have HI := Lib.hid hi; have HK := Lib.hid hk; have HGE := Lib.hid hge; clear hi hk hge))
  have HD := Lib.hid (show ∀ k ∈ [d, r, p, q, g], w.heap.size ≤ k ∧ k < w2.heap.size from fun k hk => ⟨HGE.out k hk, HI.out.lts k hk⟩)
  have HG2 := Lib.hid (show ∀ wz, Kp [] w wz → Gt wz [d, r, p, q, g] from fun wz hk => by
    have h1 := HG.out.kept hk (fun k hk => hk)
    exact ⟨h1.t0, h1.t1, h1.t2, h1.t3, h1.t4, h1.sz, fun b hb hm => by have h2 := HGE.out b hm; have h3 := HG.out.sz; omega⟩)
  have hw2 : w.heap.size ≤ w2.heap.size := HK.out.size
  have HLEN := Lib.hid (bits8_length l)
  go_wp2_with (fail)
  go_loopg [4, 5, 15] L (fun gk s4 s5 s15 wx => ∃ i A4 m4 c4 s, i + gk = L ∧ s15 = .int .i64 (i : Nat) ∧ s5 = .int .i64 (i : Nat) ∧ s4 = .slice A4 m4 c4 ∧ Wo w w2 wx d r p q g l nn.toNat i A4 m4 c4 s)
  case atStart =>
    refine ⟨0, none, 0, 0, st0, by omega, rfl, rfl, rfl, ⟨by simpa [st0] using HI.out, .refl _, Nat.le_refl _, next_none.2 fun _ => rfl, Ok.m0, World.ownsRow_nil _ _ _ _, HK.out, Nat.le_refl _, Nat.zero_le _, fun h => absurd ⟨rfl, rfl⟩ h⟩⟩
  case round =>
    obtain ⟨i, A4, m4, c4, s, hig, rfl, rfl, rfl, hW⟩ := hrel
    have HW := Lib.hid hW
    have HM4 := Lib.hid (show m4 = s.out.length by have h9 := hW.row.1; rw [u8s_length] at h9; omega)
    have hsm := hW.small
    clear hW
    cases gk with
    | zero =>
      obtain rfl : i = L := by omega
      have hk : ¬ (i : Int) < (i : Int) := by omega
      by_cases hlive : Live s.m
      · have CE := Lib.hid (c_end_yes HW.out.inf hlive)
        have HLV := Lib.hid hlive
        clear hlive
        go_wp2_with (first
          | (go_at_call 20; go_must (refine CE.out.mono ?_); rintro en w3 ⟨rfl, hi3, hk3⟩; have HI3 := Lib.hid hi3; have HK3 := Lib.hid hk3; clear hi3 hk3)
          | (go_at_call 17; go_must (refine (c_reason HI3.out).mono ?_); rintro en w4 ⟨rfl, rfl⟩))
        go_ret3
        have h9 := HW.out
        rw [← HL.out] at h9
        have h10 := h9.cut HLV.out hw2 (((HW.out.kp.mono (T := [d]) (by simp)).trans HK3.out).mono (fun k hk => .inr (by rw [List.mem_singleton.1 hk]; exact (HD.out d (by simp)).1))) (own_kp2 h9.row HK3.out (fun k hk => by rw [List.mem_singleton.1 hk]; exact (HD.out d (by simp)).2))
        rw [HL.out] at h10
        exact h10
      · have CE := Lib.hid (c_end_no HW.out.inf (.inr hlive))
        have CR := Lib.hid (c_reason HW.out.inf)
        have HLV := Lib.hid hlive
        clear hlive
        go_wp2_with (first
          | (go_at_call 20; go_must (refine CE.out.mono ?_); rintro en w3 ⟨rfl, rfl⟩)
          | (go_at_call 17; go_must (refine CR.out.mono ?_); rintro en w4 ⟨rfl, rfl⟩))
        go_ret3
        exact HW.out.over HLV.out (by rw [HL.out]; exact Nat.le_refl _) hw2
    | succ gk =>
      have hk : (i : Int) < (L : Int) := by omega
      obtain ⟨x, hx⟩ : ∃ x, l[i]? = some x := ⟨_, List.getElem?_eq_getElem (by rw [HL.out]; omega)⟩
      have hxb := HB.out x (List.mem_of_getElem? hx)
      obtain ⟨bA, off, rfl, hbA, hcA⟩ := RB.get (show RB wr A l from HR.out.kept HW.out.kp.size (fun ad hA hlt => HW.out.kp.block _ hlt (by simp))) hx
      have HX := Lib.hid hx
      clear hx
      have CD := Lib.hid (c_done HW.out.inf)
      have CR := Lib.hid (c_reason HW.out.inf)
      by_cases hlive : Live s.m
      · rw [hlive.2] at CD
        rw [hlive.1] at CR
        have HLV := Lib.hid hlive
        have hwt := wait_small HW.out.ok hlive.1 (by
          have h9 := next_none.1 HW.out.wait hlive
          exact h9)
        have CP := Lib.hid (c_put_yes x HW.out.inf hlive (by omega) HW.out.ok (HG2.out wr HW.out.kp) hxb.1 hxb.2)
        clear hlive hwt
        go_upto_block 1 with (fail)
        go_cut [4, 5] (fun s4 s5 wz => ∃ A6 m6 c6 t, s4 = .slice A6 m6 c6 ∧ s5 = .int .i64 ((i + 1 : Nat) : Int) ∧ Wo w w2 wz d r p q g l nn.toNat (i + 1) A6 m6 c6 t)
        case first =>
          go_upto_block 2 with (first
            | (go_at_call 16; go_must (refine CD.out.mono ?_); rintro en w3 ⟨rfl, rfl⟩)
            | (go_at_call 17; go_must (refine CR.out.mono ?_); rintro en w4 ⟨rfl, rfl⟩)
            | (go_at_call 18; go_must (refine CP.out.mono ?_); rintro en w5 ⟨rfl, hadv⟩; have HADV := Lib.hid hadv; clear hadv))
          obtain ⟨t, rdy, o, ho, hWn⟩ := HW.out.put HLV.out HX.out HD.out HADV.out
          have HWN0 := Lib.hid hWn
          have HO0 := Lib.hid ho
          have hiL : i < l.length := by rw [HL.out]; omega
          clear hWn ho
          go_wp2_with (fail)
          go_loopg [4, 5] (2 * t.meas (bits8 l) + rdy.toNat) (fun gj s4 s5 wx => ∃ A6 m6 c6 t rdy o ol, s4 = .slice A6 m6 c6 ∧ s5 = .int .i64 ((i + 1 : Nat) : Int) ∧ Wn w w2 wx d r p q g l nn.toNat i A6 m6 c6 t rdy o ol ∧ (rdy = false → o = 0) ∧ 2 * t.meas (bits8 l) + rdy.toNat ≤ gj)
          case atStart => exact ⟨_, _, _, t, rdy, o, s.out, rfl, by go_num, HWN0.out, HO0.out, Nat.le_refl _⟩
          case round =>
            obtain ⟨A6, m6, c6, t1, rdy1, o1, ol, rfl, rfl, hWn, ho, hms⟩ := hrel
            have HWN := Lib.hid hWn
            have HO := Lib.hid ho
            have HMS := Lib.hid hms
            have HM6 := Lib.hid (show m6 = ol.length by have h9 := hWn.row.1; rw [u8s_length] at h9; omega)
            have hm6 : m6 ≤ 1048576 := by rw [HM6.out]; have h9 := hWn.small; omega
            clear hWn ho hms
            cases rdy1 with
            | false =>
              have CX := Lib.hid (c_next_no HWN.out.inf)
              go_wp2_with (first
                | (go_at_call 19; go_must (refine CX.out.mono ?_); rintro en w7 ⟨rfl, rfl⟩))
              go_meet
              exact ⟨_, _, _, t1, rfl, rfl, HWN.out.to (HO.out trivial)⟩
            | true =>
              have CX := Lib.hid (c_next_yes HWN.out.inf (by
                obtain ⟨_, _, _, _, _, h9⟩ := HWN.out.yes rfl
                rw [List.length_drop, List.length_take]
                omega) HWN.out.ok (HG2.out _ HWN.out.kp))
              by_cases hfull : nn ≤ (m6 : Int)
              · have hfi : ¬ (m6 : Int) < nn := by omega
                go_wp2_with (first
                  | (go_at_call 19; go_must (refine CX.out.mono ?_); rintro en w7 ⟨rfl, hadv⟩; have HA7 := Lib.hid hadv; clear hadv))
                go_ret3
                exact HWN.out.over (by rw [← HM6.out]; omega) hiL hw2 (((HWN.out.kp.mono (T := [d, r, p, q, g]) (by simp)).trans HA7.out.kp).mono (fun k hk => .inr (HD.out k hk).1)) (own_kp2 HWN.out.row HA7.out.kp (fun k hk => (HD.out k hk).2))
              · have hfi : (m6 : Int) < nn := by omega
                go_wp2_with (first
                  | (go_at_call 19; go_must (refine CX.out.mono ?_); rintro en w7 ⟨rfl, hadv⟩; have HA7 := Lib.hid hadv; have HO7 := Lib.hid ((own_kp2 HWN.out.row hadv.kp (fun k hk => (HD.out k hk).2)).alloc (.cells #[.int .u8 o1] 5)); have HS7 := Lib.hid (show w2.heap.size ≤ w7.heap.size from Nat.le_trans HWN.out.sz hadv.kp.size); clear hadv)
                  | (at_builtin; refine wpList_ap el8 rfl (.tmp 48) (.tmp 50) rfl rfl HO7.out rfl rfl (RV.new (w := w7) #[.int .u8 o1] 5) (by intro u hu; simp at hu; subst hu; rfl) (by have : maxLen = 9223372036854775807 := rfl; omega) (by omega) (by have h9 := HS7.out; simp; omega) ?_; intro A8 c8 w8 hown hgrow _ _; have HOW8 := Lib.hid hown; have HGR8 := Lib.hid hgrow; clear hown hgrow))
                obtain ⟨T, hT1, hT2⟩ := grown_kp HO7.out HGR8.out
                have hal : Kp [] w7 (w7.alloc (.cells #[.int .u8 o1] 5)) := (Kp.refl _ _).alloc _
                have hrow8 : w8.ownsRow w2.heap.size 5 1 (.slice A8 (m6 + 1) c8) (m6 + 1) (u8s (ol ++ [o1])) := by rw [u8s_append]; exact HOW8.out
                obtain ⟨t2, rdy2, o2, h1, h2, h3⟩ := HWN.out.next hiL HD.out (by rw [← HM6.out]; omega) HA7.out (fun m1 out1 bs1 rdy1 o1' hi => (hi.row' hal (fun k hk => (by cases hk)) (fun k _ hk => (by cases hk))).row' hT1 (fun k hk => (hT2 k hk).2) (fun k hk hm => by have h8 := (HD.out k hk).2; have h9 := (hT2 k hm).1; omega)) hrow8 (fun hk => (((hk.trans hal).mono (T := T) (by simp)).trans hT1).mono (fun k hm => .inr (Nat.le_trans hw2 (hT2 k hm).1))) (Nat.le_trans hal.size hT1.size)
                have HN1 := Lib.hid h1
                have HN2 := Lib.hid h2
                have HN3 := Lib.hid h3
                clear h1 h2 h3 hT1 hT2 hal hrow8
                have hmm := HMS.out
                have hm3 := HN3.out
                go_roundg (2 * t2.meas (bits8 l) + rdy2.toNat)
                case measure => simp only [Bool.toNat_true] at hmm; omega
                case rel => exact ⟨_, _, _, t2, rdy2, o2, _, rfl, by go_num, HN2.out, HN1.out, Nat.le_refl _⟩
        case rest =>
          obtain ⟨A6, m6, c6, t1, rfl, rfl, hWo⟩ := hcut
          have HWO := Lib.hid hWo
          clear hWo
          go_wp2_with (fail)
          go_roundg gk
          case measure => omega
          case rel => exact ⟨i + 1, A6, m6, c6, t1, by omega, by go_num, by go_num, rfl, HWO.out⟩
      · have HLV := Lib.hid hlive
        by_cases hf : s.m.fin = true
        · rw [hf] at CD
          clear hlive
          go_wp2_with (first
            | (go_at_call 16; go_must (refine CD.out.mono ?_); rintro en w3 ⟨rfl, rfl⟩)
            | (go_at_call 17; go_must (refine CR.out.mono ?_); rintro en w4 ⟨rfl, rfl⟩))
          go_ret3
          exact HW.out.over HLV.out (by rw [HL.out]; omega) hw2
        · have hf2 : s.m.fin = false := by cases h9 : s.m.fin with
            | false => rfl
            | true => exact absurd h9 hf
          have hw : ¬ s.m.why = 0 := fun h9 => hlive ⟨h9, hf2⟩
          rw [hf2] at CD
          have hwz : ((s.m.why : Int) == 0) = false := W.eqF (by omega)
          have hwn : ((s.m.why : Int) != 0) = true := W.neT (by omega)
          clear hlive hf hf2 hw
          go_wp2_with (first
            | (go_at_call 16; go_must (refine CD.out.mono ?_); rintro en w3 ⟨rfl, rfl⟩)
            | (go_at_call 17; go_must (refine CR.out.mono ?_); rintro en w4 ⟨rfl, rfl⟩))
          go_ret3
          exact HW.out.over HLV.out (by rw [HL.out]; omega) hw2
end Go.Proofs.YtdpnlmofkkdioaaDoor.Hf
