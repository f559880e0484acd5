/- The walker of gzip files, as a machine (plain). -/
import Derived.Test.YtjjcemdoefigkaaDoorUa
import Derived.Test.YtjjcemdoefigkaaDoorGp
namespace Go.Proofs.YtjjcemdoefigkaaDoor.Hf
set_option linter.unusedVariables false
set_option linter.unusedSimpArgs false
open Go.RowKit Go.Proofs.YtjjcemdoefigkaaDoor.W

/-! ### what the inflater has come to -/
theorem F_ex (l : List Int) : ∃ t, Path (bits8 l) st0 t ∧ next (bits8 l) t = none := exists_final (st0.meas (bits8 l) + 1) st0 Ok.m0 (Nat.zero_le _) (Nat.lt_succ_self _)
/-- The inflater when l was put in, and all was told. -/
noncomputable def F (l : List Int) : St := Classical.choose (F_ex l)
theorem F_path (l : List Int) : Path (bits8 l) st0 (F l) := (Classical.choose_spec (F_ex l)).1
theorem F_none (l : List Int) : next (bits8 l) (F l) = none := (Classical.choose_spec (F_ex l)).2
theorem F_uniq {l : List Int} {t : St} (h : Path (bits8 l) st0 t) (hn : next (bits8 l) t = none) : t = F l := ((F_path l).uniq (F_none l) h hn)
theorem F_nil : F [] = st0 := (F_path []).stuck (next_none.2 fun _ => rfl)
theorem F_ok (l : List Int) : Ok (F l).m (F l).out := (F_path l).ok Ok.m0
theorem F_pos (l : List Int) : (F l).pos ≤ 8 * l.length := by have := ((F_path l).pos (Nat.zero_le _)).2; rwa [bits8_length] at this
theorem F_more (l : List Int) (x : Int) : Path (bits8 (l ++ [x])) (F l) (F (l ++ [x])) := (F_path _).final (F_none _) (path_snoc x (F_path l) (Nat.zero_le _))
theorem F_out (l : List Int) (x : Int) : (F l).out <+: (F (l ++ [x])).out := (F_more l x).out.1
theorem F_dead {l : List Int} (h : ¬ Live (F l).m) (x : Int) : F (l ++ [x]) = F l := (F_more l x).stuck (dead_next h)
theorem pn_known {l : List Int} {t : St} {mp : M} {rdy : Bool} {o : Int} {ol : List Int} (h : Pn l t mp rdy o ol) : (rdy = true → (F l).out[ol.length]? = some o) ∧ (rdy = false → t = F l ∧ ol = (F l).out) := by
  constructor
  · intro hr
    obtain ⟨u, u1, u2, u3, rfl⟩ := h.yes hr
    obtain ⟨tl, htl⟩ := ((F_path l).final (F_none l) h.path).out.1
    rw [← htl, u3, List.append_assoc, List.getElem?_append_right (Nat.le_refl _), Nat.sub_self]
    rfl
  · intro hr
    obtain ⟨h1, h2, _⟩ := h.no hr
    have := F_uniq h.path h1
    exact ⟨this, by rw [h2, this]⟩

/-! ### the walker -/
inductive Gp where
  | first | nought | fixed | exLen | exBytes | nameB | comB | hSum | defl | sums | sizes
/-- An event: its kind, byte, node, text. -/
structure Ev where
  kd : Nat
  by_ : Int
  nd : Nat
  tx : List Int
def ev0 : Ev := ⟨0, 0, 0, []⟩
def evOpen (s : List Int) : Ev := ⟨1, 0, 2, s⟩
def evByte (b : Int) : Ev := ⟨2, b, 0, []⟩
def evClose : Ev := ⟨3, 0, 0, []⟩
structure Z where
  ph : Gp
  ev : Ev
  has : Bool
  ended : Bool
  why : Nat
  data : Bool
  between : Bool
  fl : Nat
  n : Nat
  cnt : Nat
  head : Nat
  val : Nat
  nm : List Int
  l : List Int
  ol : List Int
def Z.begin (z : Z) : Z := { z with ph := .first, n := 0, head := 0, data := false, between := true, nm := [] }
/-- Anew. -/
def Z.fresh (l ol : List Int) : Z := ⟨.first, ev0, false, false, 0, false, false, 0, 0, 0, 0, 0, [], l, ol⟩
def z0 : Z := Z.fresh [] []
def Z.want (z : Z) (p : Gp) : Z := { z with ph := p, n := 0, val := 0 }
def Z.tell (z : Z) (e : Ev) : Z := { z with ev := e, has := true }
def Z.open_ (z : Z) : Z := Z.tell { z with data := true, ph := .defl, l := [], ol := [] } (evOpen z.nm)
def Z.summed (z : Z) : Z := if z.fl / 2 % 2 = 0 then z.open_ else z.want .hSum
def Z.commented (z : Z) : Z := if z.fl / 16 % 2 = 0 then Z.summed { z with cnt := 0 } else { z with cnt := 0, ph := .comB }
def Z.named (z : Z) : Z := if z.fl / 8 % 2 = 0 then z.commented else { z with ph := .nameB }
def Z.extra (z : Z) : Z := if z.fl / 4 % 2 = 0 then z.named else z.want .exLen
/-- A byte of a number. -/
def Z.num (z : Z) (x : Int) : Z := { z with val := z.val + x.toNat * 256 ^ z.n, n := z.n + 1 }
def Z.hd (z : Z) (x : Int) : Z := { z with head := crc1 z.head x.toNat }
def Z.stop (z : Z) (y : Nat) : Z := { z with why := y }
def Z.first (z : Z) (x : Int) : Z :=
  if x = 31 then { z with between := false, head := crc1 0 x.toNat, ph := .fixed, n := 1 } else
  if z.between = false then z.stop 40 else if x = 0 then { z with ph := .nought } else z.stop 47
def Z.nought (z : Z) (x : Int) : Z := if x = 0 then z else z.stop 47
def Z.fix1 (z : Z) (x : Int) : Z :=
  if z.n = 1 ∧ x ≠ 139 then z.stop 40 else if z.n = 2 ∧ x ≠ 8 then z.stop 41 else if z.n = 3 ∧ x / 32 ≠ 0 then z.stop 42 else if z.n = 3 then { z with fl := x.toNat } else z
def Z.fix2 (z : Z) : Z := if z.n = 10 ∧ z.why = 0 then z.extra else z
def Z.fixed (z : Z) (x : Int) : Z := Z.fix2 { Z.fix1 (z.hd x) x with n := z.n + 1 }
def Z.exl2 (z : Z) : Z := if z.val > 1024 then Z.stop { z with cnt := z.val } 46 else if z.val = 0 then Z.named { z with cnt := z.val, ph := .exBytes } else { z with cnt := z.val, ph := .exBytes }
def Z.exLen (z : Z) (x : Int) : Z := if z.n + 1 = 2 then Z.exl2 (Z.num (z.hd x) x) else Z.num (z.hd x) x
def Z.exBytes (z : Z) (x : Int) : Z := if z.cnt = 1 then Z.named { z.hd x with cnt := 0 } else { z.hd x with cnt := z.cnt - 1 }
def Z.nameB (z : Z) (x : Int) : Z := if x = 0 then Z.commented (z.hd x) else if z.nm.length = 256 then Z.stop (z.hd x) 46 else { z.hd x with nm := z.nm ++ [x] }
def Z.comB (z : Z) (x : Int) : Z := if x = 0 then Z.summed (z.hd x) else if z.cnt = 256 then Z.stop (z.hd x) 46 else { z.hd x with cnt := z.cnt + 1 }
def Z.hSum2 (z : Z) : Z := if z.val = z.head % 65536 then z.open_ else z.stop 43
def Z.hSum (z : Z) (x : Int) : Z := if z.n + 1 = 2 then Z.hSum2 (z.num x) else z.num x
def Z.defl (z : Z) (x : Int) : Z := { z with l := z.l ++ [x] }
def Z.sums2 (z : Z) : Z := if z.val = crcL z.ol then z.want .sizes else z.stop 44
def Z.sums (z : Z) (x : Int) : Z := if z.n + 1 = 4 then Z.sums2 (z.num x) else z.num x
def Z.sizes2 (z : Z) : Z := if z.val = z.ol.length % 4294967296 then Z.begin (z.tell evClose) else z.stop 45
def Z.sizes (z : Z) (x : Int) : Z := if z.n + 1 = 4 then Z.sizes2 (z.num x) else z.num x
def Z.step (z : Z) (x : Int) : Z := match z.ph with
  | .first => z.first x
  | .nought => z.nought x
  | .fixed => z.fixed x
  | .exLen => z.exLen x
  | .exBytes => z.exBytes x
  | .nameB => z.nameB x
  | .comB => z.comB x
  | .hSum => z.hSum x
  | .defl => z.defl x
  | .sums => z.sums x
  | .sizes => z.sizes x
/-- The inflater has nothing to tell. -/
noncomputable def Z.over (z : Z) : Z := if (F z.l).m.fin = true then Z.want { z with why := (F z.l).m.why, data := false } .sums else { z with why := (F z.l).m.why }
noncomputable def Z.settle (z : Z) : Z :=
  if z.data = false ∨ z.has = true then z else
  match (F z.l).out[z.ol.length]? with
  | some b => Z.tell { z with ol := z.ol ++ [b] } (evByte b)
  | none => z.over
noncomputable def Z.next (z : Z) : Z := Z.settle { z with ev := ev0, has := false }
noncomputable def Z.put (z : Z) (x : Int) : Z := (z.step x).settle
def Z.end_ (z : Z) : Z := if z.has = true ∨ z.ended = true ∨ z.why ≠ 0 then z else if z.between = true then { z with ended := true } else { z with ended := true, why := 1 }
/-- All that is known is told. -/
inductive Dr : Z → Z → List Ev → Prop where
  | rest {z : Z} (h : z.has = false) : Dr z z []
  | more {z z' : Z} {es : List Ev} (h : z.has = true) (hd : Dr z.next z' es) : Dr z z' (z.ev :: es)
theorem Dr.has {z z' : Z} {es : List Ev} (h : Dr z z' es) : z'.has = false := by
  induction h with
  | rest h => exact h
  | more _ _ ih => exact ih
theorem Dr.uniq {z z1 z2 : Z} {es1 es2 : List Ev} (h : Dr z z1 es1) (h2 : Dr z z2 es2) : z1 = z2 ∧ es1 = es2 := by
  induction h generalizing z2 es2 with
  | rest h =>
    cases h2 with
    | rest => exact ⟨rfl, rfl⟩
    | more h' => rw [h] at h'; cases h'
  | more h _ ih =>
    cases h2 with
    | rest h' => rw [h] at h'; cases h'
    | more _ hd => obtain ⟨e1, e2⟩ := ih hd; exact ⟨e1, by rw [e2]⟩
/-- Bytes that are given. -/
theorem Dr.data {es : List Int} : ∀ {z : Z}, z.data = true → z.has = false → z.ev = ev0 → (F z.l).out = z.ol ++ es → Dr z.settle (Z.over { z with ol := z.ol ++ es }) (es.map evByte) := by
  have hov : ∀ y : Z, y.has = false → y.over.has = false := fun y h => by unfold Z.over; split <;> exact h
  induction es with
  | nil =>
    intro z h1 h2 h3 h4
    have e : z.settle = z.over := by
      unfold Z.settle
      rw [if_neg (by rw [h1, h2]; simp), h4, List.append_nil, List.getElem?_eq_none (Nat.le_refl _)]
    rw [e, List.append_nil]
    exact .rest (hov _ h2)
  | cons b es ih =>
    intro z h1 h2 h3 h4
    have e : z.settle = Z.tell { z with ol := z.ol ++ [b] } (evByte b) := by
      unfold Z.settle
      rw [if_neg (by rw [h1, h2]; simp), h4, List.getElem?_append_right (Nat.le_refl _), Nat.sub_self]
      rfl
    rw [e]
    refine .more rfl ?_
    have h := ih (z := { z with ol := z.ol ++ [b] }) h1 h2 h3 (by rw [h4]; simp)
    have e2 : (Z.tell { z with ol := z.ol ++ [b] } (evByte b)).next = Z.settle { z with ol := z.ol ++ [b] } := by
      unfold Z.next Z.tell
      dsimp only
      rw [← h2, ← h3]
    rw [e2]
    simpa using h
/-- What holds of a walker's numbers. -/
structure Zn (z : Z) : Prop where
  head : z.head < 4294967296
  fl : z.fl < 256
  nm : z.nm.length ≤ 256
  nmb : Bytes z.nm
  n : z.n ≤ 10
  cnt : z.cnt ≤ 65536
  val : z.val < 4294967296
  olb : Bytes z.ol
def PhZ (z : Z) : Prop := match z.ph with
  | .fixed => 1 ≤ z.n ∧ z.n ≤ 9
  | .exLen => z.n ≤ 1 ∧ z.val < 256 ^ z.n
  | .hSum => z.n ≤ 1 ∧ z.val < 256 ^ z.n
  | .sums => z.n ≤ 3 ∧ z.val < 256 ^ z.n
  | .sizes => z.n ≤ 3 ∧ z.val < 256 ^ z.n
  | .exBytes => 1 ≤ z.cnt ∧ z.cnt ≤ 1024
  | .comB => z.cnt ≤ 256
  | _ => True
structure Zok (z : Z) : Prop where
  zn : Zn z
  ph : z.why = 0 → PhZ z
  dt : z.ph = .defl ↔ z.data = true
  pre : z.data = true → z.ol <+: (F z.l).out
  e0 : z.has = false → z.ev = ev0
/-- At rest all that the inflater gave is told. -/
def Zr (z : Z) : Prop := z.data = true → z.has = false → z.ol = (F z.l).out ∧ z.why = (F z.l).m.why ∧ (F z.l).m.fin = false
theorem Zok.z0 : Zok z0 := ⟨⟨by decide, by decide, Nat.zero_le _, fun x hx => (by cases hx), Nat.zero_le _, Nat.zero_le _, by decide, fun x hx => (by cases hx)⟩, fun _ => trivial, ⟨fun h => (by cases h), fun h => (by cases h)⟩, fun h => (by cases h), fun _ => rfl⟩
section
variable {z : Z}
theorem Zn.want (h : Zn z) (p : Gp) : Zn (z.want p) := ⟨h.head, h.fl, h.nm, h.nmb, Nat.zero_le _, h.cnt, (by show (0 : Nat) < 4294967296; omega), h.olb⟩
theorem Zn.open_ (h : Zn z) : Zok z.open_ := ⟨⟨h.head, h.fl, h.nm, h.nmb, h.n, h.cnt, h.val, fun x hx => (by cases hx)⟩, fun _ => trivial, ⟨fun _ => rfl, fun _ => rfl⟩, fun _ => List.nil_prefix, fun h => (by cases h)⟩
theorem Zn.wants (h : Zn z) (hd : z.data = false) (he : z.has = false → z.ev = ev0) {p : Gp} (hp : PhZ (z.want p)) (hn : p ≠ .defl) : Zok (z.want p) :=
  ⟨h.want p, fun _ => hp, ⟨fun h => absurd h hn, fun h2 => by rw [show (z.want p).data = z.data from rfl, hd] at h2; cases h2⟩, fun h2 => (by rw [show (z.want p).data = z.data from rfl, hd] at h2; cases h2), he⟩
theorem Zn.turn (h : Zn z) (hd : z.data = false) (he : z.has = false → z.ev = ev0) (hp : z.why = 0 → PhZ z) (hn : z.ph ≠ .defl) : Zok z := ⟨h, hp, ⟨fun h => absurd h hn, fun h2 => by rw [hd] at h2; cases h2⟩, fun h2 => (by rw [hd] at h2; cases h2), he⟩
theorem Zn.summed (h : Zn z) (hd : z.data = false) (he : z.has = false → z.ev = ev0) : Zok z.summed := by
  unfold Z.summed
  split
  · exact h.open_
  · exact h.wants hd he ⟨Nat.zero_le _, Nat.zero_lt_one⟩ (fun h => by cases h)
theorem Zn.commented (h : Zn z) (hd : z.data = false) (he : z.has = false → z.ev = ev0) : Zok z.commented := by
  unfold Z.commented
  have h1 : Zn { z with cnt := 0 } := ⟨h.head, h.fl, h.nm, h.nmb, h.n, Nat.zero_le _, h.val, h.olb⟩
  split
  · exact h1.summed hd he
  · exact Zn.turn ⟨h.head, h.fl, h.nm, h.nmb, h.n, Nat.zero_le _, h.val, h.olb⟩ hd he (fun _ => Nat.zero_le _) (fun h => by cases h)
theorem Zn.named (h : Zn z) (hd : z.data = false) (he : z.has = false → z.ev = ev0) : Zok z.named := by
  unfold Z.named
  split
  · exact h.commented hd he
  · exact Zn.turn ⟨h.head, h.fl, h.nm, h.nmb, h.n, h.cnt, h.val, h.olb⟩ hd he (fun _ => trivial) (fun h => by cases h)
theorem Zn.extra (h : Zn z) (hd : z.data = false) (he : z.has = false → z.ev = ev0) : Zok z.extra := by
  unfold Z.extra
  split
  · exact h.named hd he
  · exact h.wants hd he ⟨Nat.zero_le _, Nat.zero_lt_one⟩ (fun h => by cases h)
theorem Zn.hd (h : Zn z) {x : Int} (hx : 0 ≤ x ∧ x < 256) : Zn (z.hd x) := ⟨crc1_lt h.head (by omega), h.fl, h.nm, h.nmb, h.n, h.cnt, h.val, h.olb⟩
theorem nm_lt {v x n : Nat} (hv : v < 256 ^ n) (hx : x < 256) : v + x * 256 ^ n < 256 ^ (n + 1) := by
  rw [Nat.pow_succ]
  have : x * 256 ^ n ≤ 255 * 256 ^ n := Nat.mul_le_mul_right _ (by omega)
  omega
theorem pow_le {n : Nat} (h : n ≤ 4) : 256 ^ n ≤ 4294967296 := by
  have : 256 ^ n ≤ 256 ^ 4 := Nat.pow_le_pow_right (by omega) h
  exact this
theorem Zn.num (h : Zn z) {x : Int} (hx : 0 ≤ x ∧ x < 256) (hn : z.n ≤ 3) (hv : z.val < 256 ^ z.n) : Zn (z.num x) ∧ (z.num x).val < 256 ^ (z.n + 1) := by
  have h1 := nm_lt hv (show x.toNat < 256 by omega)
  have h2 := pow_le (show z.n + 1 ≤ 4 by omega)
  exact ⟨⟨h.head, h.fl, h.nm, h.nmb, (by show z.n + 1 ≤ 10; omega), h.cnt, (by show z.val + x.toNat * 256 ^ z.n < _; omega), h.olb⟩, h1⟩
theorem Zn.stop (h : Zn z) (hd : z.data = false) (he : z.has = false → z.ev = ev0) (hn : z.ph ≠ .defl) {y : Nat} (hy : y ≠ 0) : Zok (z.stop y) :=
  Zn.turn ⟨h.head, h.fl, h.nm, h.nmb, h.n, h.cnt, h.val, h.olb⟩ hd he (fun h0 => absurd h0 hy) hn
theorem Zok.step (h : Zok z) (h0 : z.why = 0) {x : Int} (hx : 0 ≤ x ∧ x < 256) : Zok (z.step x) := by
  have hp := h.ph h0
  have zn := h.zn
  have he := h.e0
  have hdf : z.ph ≠ .defl → z.data = false := fun hn => by
    cases hd : z.data with
    | false => rfl
    | true => exact absurd (h.dt.2 hd) hn
  unfold PhZ at hp
  unfold Z.step
  cases hph : z.ph with
  | first =>
    have hd := hdf (by rw [hph]; intro h; cases h)
    dsimp only
    unfold Z.first
    split
    · exact Zn.turn ⟨crc1_lt (by decide) (by omega), zn.fl, zn.nm, zn.nmb, (by show 1 ≤ 10; omega), zn.cnt, zn.val, zn.olb⟩ hd he (fun _ => (by show 1 ≤ 1 ∧ 1 ≤ 9; omega)) (fun h => by cases h)
    · split
      · exact zn.stop hd he (by rw [hph]; intro h; cases h) (by decide)
      · split
        · exact Zn.turn ⟨zn.head, zn.fl, zn.nm, zn.nmb, zn.n, zn.cnt, zn.val, zn.olb⟩ hd he (fun _ => trivial) (fun h => by cases h)
        · exact zn.stop hd he (by rw [hph]; intro h; cases h) (by decide)
  | nought =>
    have hd := hdf (by rw [hph]; intro h; cases h)
    dsimp only
    unfold Z.nought
    split
    · exact h
    · exact zn.stop hd he (by rw [hph]; intro h; cases h) (by decide)
  | fixed =>
    have hd := hdf (by rw [hph]; intro h; cases h)
    rw [hph] at hp
    dsimp only at hp ⊢
    have h1 := zn.hd hx
    have h2 : ∀ y : Z, y = Z.fix1 (z.hd x) x → Zn { y with n := z.n + 1 } ∧ y.data = false ∧ y.has = z.has ∧ y.ev = z.ev ∧ y.ph = .fixed := fun y hy => by
      subst hy
      have hq : ∀ k, Zn { (z.hd x).stop k with n := z.n + 1 } := fun k => ⟨h1.head, h1.fl, h1.nm, h1.nmb, (by show z.n + 1 ≤ 10; omega), h1.cnt, h1.val, h1.olb⟩
      unfold Z.fix1
      split
      · exact ⟨hq 40, hd, rfl, rfl, hph⟩
      · split
        · exact ⟨hq 41, hd, rfl, rfl, hph⟩
        · split
          · exact ⟨hq 42, hd, rfl, rfl, hph⟩
          · split
            · exact ⟨⟨h1.head, (by show x.toNat < 256; omega), h1.nm, h1.nmb, (by show z.n + 1 ≤ 10; omega), h1.cnt, h1.val, h1.olb⟩, hd, rfl, rfl, hph⟩
            · exact ⟨⟨h1.head, h1.fl, h1.nm, h1.nmb, (by show z.n + 1 ≤ 10; omega), h1.cnt, h1.val, h1.olb⟩, hd, rfl, rfl, hph⟩
    obtain ⟨a1, a2, a3, a4, a5⟩ := h2 _ rfl
    unfold Z.fixed
    generalize Z.fix1 (z.hd x) x = y at *
    unfold Z.fix2
    have he2 : y.has = false → y.ev = ev0 := by rw [a3, a4]; exact he
    split
    · exact Zn.extra a1 a2 he2
    · rename_i h9
      exact Zn.turn a1 a2 he2 (fun h0 => by
        unfold PhZ
        dsimp only
        rw [a5]
        dsimp only
        have : ¬ z.n + 1 = 10 := fun h10 => h9 ⟨h10, h0⟩
        omega) (by dsimp only; rw [a5]; intro h; cases h)
  | exLen =>
    have hd := hdf (by rw [hph]; intro h; cases h)
    rw [hph] at hp
    dsimp only at hp ⊢
    obtain ⟨h1, h2⟩ := (zn.hd hx).num (x := x) hx (show (z.hd x).n ≤ 3 by show z.n ≤ 3; omega) hp.2
    have h3 : Z.val (Z.num (z.hd x) x) < 65536 := by
      have h4 : (256 : Nat) ^ (z.n + 1) ≤ 256 ^ 2 := Nat.pow_le_pow_right (by omega) (by omega)
      have h5 : (256 : Nat) ^ 2 = 65536 := rfl
      have h6 : (z.hd x).n = z.n := rfl
      rw [h6] at h2
      omega
    unfold Z.exLen
    split
    · have e1 : (Z.num (z.hd x) x).data = false := hd
      have e2 : (Z.num (z.hd x) x).has = false → (Z.num (z.hd x) x).ev = ev0 := he
      have e3 : (Z.num (z.hd x) x).ph ≠ .defl := by show z.ph ≠ .defl; rw [hph]; intro h; cases h
      generalize Z.num (z.hd x) x = y at *
      unfold Z.exl2
      split
      · exact Zn.stop (z := { y with cnt := y.val }) ⟨h1.head, h1.fl, h1.nm, h1.nmb, h1.n, Nat.le_of_lt h3, h1.val, h1.olb⟩ e1 e2 e3 (by decide)
      · split
        · exact Zn.named (z := { y with cnt := y.val, ph := .exBytes }) ⟨h1.head, h1.fl, h1.nm, h1.nmb, h1.n, Nat.le_of_lt h3, h1.val, h1.olb⟩ e1 e2
        · exact Zn.turn ⟨h1.head, h1.fl, h1.nm, h1.nmb, h1.n, Nat.le_of_lt h3, h1.val, h1.olb⟩ e1 e2 (fun _ => (by show 1 ≤ y.val ∧ y.val ≤ 1024; omega)) (fun h => by cases h)
    · exact Zn.turn h1 hd he (fun _ => by
        show PhZ _
        unfold PhZ
        rw [show (Z.num (z.hd x) x).ph = z.ph from rfl, hph]
        exact ⟨(by show z.n + 1 ≤ 1; omega), h2⟩) (by show z.ph ≠ .defl; rw [hph]; intro h; cases h)
  | exBytes =>
    have hd := hdf (by rw [hph]; intro h; cases h)
    rw [hph] at hp
    dsimp only at hp ⊢
    have h1 := zn.hd hx
    unfold Z.exBytes
    split
    · exact Zn.named (z := { z.hd x with cnt := 0 }) ⟨h1.head, h1.fl, h1.nm, h1.nmb, h1.n, Nat.zero_le _, h1.val, h1.olb⟩ hd he
    · exact Zn.turn ⟨h1.head, h1.fl, h1.nm, h1.nmb, h1.n, (by show z.cnt - 1 ≤ 65536; omega), h1.val, h1.olb⟩ hd he (fun _ => by
        show PhZ _
        unfold PhZ
        rw [show ({ z.hd x with cnt := z.cnt - 1 } : Z).ph = z.ph from rfl, hph]
        show 1 ≤ z.cnt - 1 ∧ z.cnt - 1 ≤ 1024
        omega) (by show z.ph ≠ .defl; rw [hph]; intro h; cases h)
  | nameB =>
    have hd := hdf (by rw [hph]; intro h; cases h)
    dsimp only
    have h1 := zn.hd hx
    unfold Z.nameB
    split
    · exact Zn.commented h1 hd he
    · split
      · exact Zn.stop h1 hd he (by show z.ph ≠ .defl; rw [hph]; intro h; cases h) (by decide)
      · rename_i h9
        have h10 := zn.nm
        exact Zn.turn ⟨h1.head, h1.fl, (by show (z.nm ++ [x]).length ≤ 256; rw [List.length_append]; show z.nm.length + 1 ≤ 256; omega), (fun y hy => by
          rcases List.mem_append.1 hy with h2 | h2
          · exact zn.nmb y h2
          · rw [List.mem_singleton.1 h2]; exact hx), h1.n, h1.cnt, h1.val, h1.olb⟩ hd he (fun _ => by
          show PhZ _
          unfold PhZ
          rw [show ({ z.hd x with nm := z.nm ++ [x] } : Z).ph = z.ph from rfl, hph]
          trivial) (by show z.ph ≠ .defl; rw [hph]; intro h; cases h)
  | comB =>
    have hd := hdf (by rw [hph]; intro h; cases h)
    rw [hph] at hp
    dsimp only at hp ⊢
    have h1 := zn.hd hx
    unfold Z.comB
    split
    · exact Zn.summed h1 hd he
    · split
      · exact Zn.stop h1 hd he (by show z.ph ≠ .defl; rw [hph]; intro h; cases h) (by decide)
      · exact Zn.turn ⟨h1.head, h1.fl, h1.nm, h1.nmb, h1.n, (by show z.cnt + 1 ≤ 65536; omega), h1.val, h1.olb⟩ hd he (fun _ => by
          show PhZ _
          unfold PhZ
          rw [show ({ z.hd x with cnt := z.cnt + 1 } : Z).ph = z.ph from rfl, hph]
          show z.cnt + 1 ≤ 256
          omega) (by show z.ph ≠ .defl; rw [hph]; intro h; cases h)
  | hSum =>
    have hd := hdf (by rw [hph]; intro h; cases h)
    rw [hph] at hp
    dsimp only at hp ⊢
    obtain ⟨h1, h2⟩ := zn.num (x := x) hx (by omega) hp.2
    have e3 : (z.num x).ph ≠ .defl := by show z.ph ≠ .defl; rw [hph]; intro h; cases h
    unfold Z.hSum
    split
    · unfold Z.hSum2
      split
      · exact h1.open_
      · exact h1.stop hd he e3 (by decide)
    · exact Zn.turn h1 hd he (fun _ => by
        show PhZ _
        unfold PhZ
        rw [show (z.num x).ph = z.ph from rfl, hph]
        exact ⟨(by show z.n + 1 ≤ 1; omega), h2⟩) e3
  | defl =>
    dsimp only
    unfold Z.defl
    exact ⟨⟨zn.head, zn.fl, zn.nm, zn.nmb, zn.n, zn.cnt, zn.val, zn.olb⟩, fun _ => by unfold PhZ; dsimp only; rw [hph]; trivial, h.dt, fun hd => (h.pre hd).trans (F_out z.l x), he⟩
  | sums =>
    have hd := hdf (by rw [hph]; intro h; cases h)
    rw [hph] at hp
    dsimp only at hp ⊢
    obtain ⟨h1, h2⟩ := zn.num (x := x) hx (by omega) hp.2
    have e3 : (z.num x).ph ≠ .defl := by show z.ph ≠ .defl; rw [hph]; intro h; cases h
    unfold Z.sums
    split
    · unfold Z.sums2
      split
      · exact h1.wants hd he ⟨Nat.zero_le _, Nat.zero_lt_one⟩ (fun h => by cases h)
      · exact h1.stop hd he e3 (by decide)
    · exact Zn.turn h1 hd he (fun _ => by
        show PhZ _
        unfold PhZ
        rw [show (z.num x).ph = z.ph from rfl, hph]
        exact ⟨(by show z.n + 1 ≤ 3; omega), h2⟩) e3
  | sizes =>
    have hd := hdf (by rw [hph]; intro h; cases h)
    rw [hph] at hp
    dsimp only at hp ⊢
    obtain ⟨h1, h2⟩ := zn.num (x := x) hx (by omega) hp.2
    have e3 : (z.num x).ph ≠ .defl := by show z.ph ≠ .defl; rw [hph]; intro h; cases h
    unfold Z.sizes
    split
    · unfold Z.sizes2
      split
      · exact Zn.turn ⟨(by show (0 : Nat) < 4294967296; omega), h1.fl, Nat.zero_le _, fun x hx => (by cases hx), Nat.zero_le _, h1.cnt, h1.val, h1.olb⟩ rfl (fun h => by cases h) (fun _ => trivial) (fun h => by cases h)
      · exact h1.stop hd he e3 (by decide)
    · exact Zn.turn h1 hd he (fun _ => by
        show PhZ _
        unfold PhZ
        rw [show (z.num x).ph = z.ph from rfl, hph]
        exact ⟨(by show z.n + 1 ≤ 3; omega), h2⟩) e3
theorem Zok.settle (h : Zok z) : Zok z.settle ∧ Zr z.settle := by
  by_cases hc : z.data = false ∨ z.has = true
  · have e : z.settle = z := by unfold Z.settle; rw [if_pos hc]
    rw [e]
    refine ⟨h, fun h1 h2 => ?_⟩
    rcases hc with hc | hc
    · rw [hc] at h1; cases h1
    · rw [hc] at h2; cases h2
  · have hd : z.data = true := by cases hd : z.data with
      | true => rfl
      | false => exact absurd (.inl hd) hc
    have hh : z.has = false := by cases hh : z.has with
      | false => rfl
      | true => exact absurd (.inr hh) hc
    have hph := h.dt.2 hd
    obtain ⟨r, hr⟩ := h.pre hd
    have zn := h.zn
    cases r with
    | nil =>
      rw [List.append_nil] at hr
      have e : z.settle = z.over := by unfold Z.settle; rw [if_neg hc, ← hr, List.getElem?_eq_none (Nat.le_refl _)]
      rw [e]
      unfold Z.over
      split
      · exact ⟨Zn.wants (z := { z with why := (F z.l).m.why, data := false }) ⟨zn.head, zn.fl, zn.nm, zn.nmb, zn.n, zn.cnt, zn.val, zn.olb⟩ rfl h.e0 ⟨Nat.zero_le _, Nat.zero_lt_one⟩ (fun h => by cases h), fun h1 => (by cases h1)⟩
      · rename_i hf
        exact ⟨⟨⟨zn.head, zn.fl, zn.nm, zn.nmb, zn.n, zn.cnt, zn.val, zn.olb⟩, fun _ => by unfold PhZ; dsimp only; rw [hph]; trivial, h.dt, h.pre, h.e0⟩, fun _ _ => ⟨hr, rfl, by cases h9 : (F z.l).m.fin with
          | false => rfl
          | true => exact absurd h9 hf⟩⟩
    | cons b r =>
      have e : z.settle = Z.tell { z with ol := z.ol ++ [b] } (evByte b) := by unfold Z.settle; rw [if_neg hc, ← hr, List.getElem?_append_right (Nat.le_refl _), Nat.sub_self]; rfl
      rw [e]
      refine ⟨⟨⟨zn.head, zn.fl, zn.nm, zn.nmb, zn.n, zn.cnt, zn.val, fun y hy => ?_⟩, fun _ => ?_, h.dt, fun _ => ⟨r, by show z.ol ++ [b] ++ r = (F z.l).out; rw [← hr]; simp⟩, fun h => (by cases h)⟩, fun _ h => (by cases h)⟩
      · exact (F_ok z.l).bytes y (by
          rw [← hr]
          rcases List.mem_append.1 hy with h2 | h2
          · exact List.mem_append_left _ h2
          · exact List.mem_append_right _ (by rw [List.mem_singleton.1 h2]; exact List.mem_cons_self ..))
      · show PhZ _
        unfold PhZ
        rw [show (Z.tell { z with ol := z.ol ++ [b] } (evByte b)).ph = z.ph from rfl, hph]
        trivial
theorem Zok.next (h : Zok z) : Zok z.next ∧ Zr z.next := Zok.settle (z := { z with ev := ev0, has := false }) ⟨⟨h.zn.head, h.zn.fl, h.zn.nm, h.zn.nmb, h.zn.n, h.zn.cnt, h.zn.val, h.zn.olb⟩, h.ph, h.dt, h.pre, fun _ => rfl⟩
theorem Zok.put (h : Zok z) (h0 : z.why = 0) {x : Int} (hx : 0 ≤ x ∧ x < 256) : Zok (z.put x) ∧ Zr (z.put x) := (h.step h0 hx).settle
end
end Go.Proofs.YtjjcemdoefigkaaDoor.Hf
