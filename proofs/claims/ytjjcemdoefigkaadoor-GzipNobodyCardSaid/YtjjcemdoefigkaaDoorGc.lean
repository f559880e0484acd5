/- The walker over a header's bytes (plain). -/
import Derived.Test.YtjjcemdoefigkaaDoorGb
namespace Go.Proofs.YtjjcemdoefigkaaDoor.Hf
set_option linter.unusedVariables false
set_option linter.unusedSimpArgs false
open Go.RowKit Go.Proofs.YtjjcemdoefigkaaDoor.W

/-- The number of some bytes, the lowest first. -/
def numL : List Int → Nat
  | [] => 0
  | x :: l => x.toNat + 256 * numL l
theorem numL_snoc (l : List Int) (x : Int) : numL (l ++ [x]) = numL l + x.toNat * 256 ^ l.length := by
  induction l with
  | nil => simp [numL]
  | cons y l ih =>
    rw [List.cons_append]
    simp only [numL]
    rw [ih, List.length_cons, Nat.pow_succ, Nat.mul_add, ← Nat.add_assoc]
    congr 1
    rw [Nat.mul_left_comm, Nat.mul_comm 256 (256 ^ l.length)]
theorem numL_lt {l : List Int} (h : Bytes l) : numL l < 256 ^ l.length := by
  induction l with
  | nil => exact Nat.zero_lt_one
  | cons x l ih =>
    have h1 := ih fun y hy => h y (List.mem_cons_of_mem _ hy)
    have h2 := h x (List.mem_cons_self ..)
    simp only [numL]
    rw [List.length_cons, Nat.pow_succ]
    omega
/-- n bytes from i on. -/
def sl (l : List Int) (i n : Nat) : List Int := (l.drop i).take n
theorem sl_zero (l : List Int) (i : Nat) : sl l i 0 = [] := rfl
theorem sl_len {l : List Int} {i n : Nat} (h : i + n ≤ l.length) : (sl l i n).length = n := by unfold sl; rw [List.length_take, List.length_drop]; omega
theorem sl_get {l : List Int} {i n k : Nat} (h : k < n) : (sl l i n)[k]? = l[i + k]? := by unfold sl; rw [List.getElem?_take, if_pos h, List.getElem?_drop]
theorem sl_snoc {l : List Int} {i k : Nat} {x : Int} (h : l[i + k]? = some x) : sl l i (k + 1) = sl l i k ++ [x] := by
  unfold sl
  have h1 : (l.drop i)[k]? = some x := by rw [List.getElem?_drop]; exact h
  obtain ⟨h2, h3⟩ := List.getElem?_eq_some_iff.1 h1
  rw [List.take_succ_eq_append_getElem h2, h3]
theorem sl_bytes {l : List Int} (h : Bytes l) (i n : Nat) : Bytes (sl l i n) := fun x hx => h x (List.mem_of_mem_drop (List.mem_of_mem_take hx))
theorem crc_next {l : List Int} {fr i : Nat} {x : Int} (h : l[i]? = some x) (hf : fr ≤ i) : crcL (sl l fr (i + 1 - fr)) = crc1 (crcL (sl l fr (i - fr))) x.toNat := by
  rw [show i + 1 - fr = (i - fr) + 1 by omega, sl_snoc (show l[fr + (i - fr)]? = some x by rw [show fr + (i - fr) = i by omega]; exact h), crcL_snoc]
/-- The walker at i, just behind a chain that ended in y. -/
structure AtY (l : List Int) (i : Nat) (E0 : List (Nat × Ev)) (y : Z) : Prop where
  z : zAt l i = (Zq y).1
  e : eAt l i = E0 ++ (Zq y).2.map fun e => (i - 1, e)
theorem Zq_no {y : Z} (h : y.has = false) : Zq y = (y, []) := by unfold Zq; rw [h]; rfl
theorem AtY.no {l : List Int} {i : Nat} {E0 : List (Nat × Ev)} {y : Z} (h : AtY l i E0 y) (hh : y.has = false) : zAt l i = y ∧ eAt l i = E0 := by
  obtain ⟨h1, h2⟩ := h
  rw [Zq_no hh] at h1 h2
  exact ⟨h1, by simpa using h2⟩
theorem aty_step {l : List Int} (hb : Bytes l) {i : Nat} {z : Z} {x : Int} (hz : zAt l i = z) (h0 : z.why = 0) (hd : z.data = false) (hx : l[i]? = some x) : AtY l (i + 1) (eAt l i) (z.step x) := by
  obtain ⟨h1, h2⟩ := at_succ hx
  have hp := (Rz.at_ hb i).nodefl (by rw [hz]; exact hd)
  rw [hz] at h1 h2 hp
  rw [bz_head h0 hd hp] at h1 h2
  exact ⟨h1, h2⟩
/-- A header's state. -/
structure Ny (l : List Int) (fr i : Nat) (y : Z) : Prop where
  why : y.why = 0
  data : y.data = false
  has : y.has = false
  bet : y.between = false
  head : y.head = crcL (sl l fr (i - fr))
  le : fr ≤ i
/-- Stopped, at a byte or for the end. -/
def Stp (l : List Int) (E0 : List (Nat × Ev)) (why at_ : Nat) : Prop :=
  (why ≠ 0 ∧ at_ < l.length ∧ (zAt l at_).why = 0 ∧ (zAt l (at_ + 1)).why = why ∧ eAt l (at_ + 1) = E0) ∨
  (why = 1 ∧ at_ = l.length ∧ (zAt l l.length).why = 0 ∧ (zAt l l.length).between = false ∧ eAt l l.length = E0)
section
variable {l : List Int} {fr i : Nat} {E0 : List (Nat × Ev)} {y : Z}
theorem Stp.at {z : Z} {k why : Nat} (hw : why ≠ 0) (hk : k < l.length) (hz : zAt l k = z) (h0 : z.why = 0) {z2 : Z} (h1 : AtY l (k + 1) E0 (z2.stop why)) (hh : z2.has = false) : Stp l E0 why k := by
  obtain ⟨h2, h3⟩ := h1.no (show (z2.stop why).has = false from hh)
  exact .inl ⟨hw, hk, by rw [hz]; exact h0, by rw [h2]; rfl, h3⟩
theorem Stp.cut {z : Z} (hz : zAt l l.length = z) (h0 : z.why = 0) (hbt : z.between = false) (he : eAt l l.length = E0) : Stp l E0 1 l.length := .inr ⟨rfl, rfl, by rw [hz]; exact h0, by rw [hz]; exact hbt, he⟩
/-! ### the first ten bytes -/
def fz (y : Z) (l : List Int) (fr i : Nat) (n fl : Nat) : Z := { y with between := false, ph := .fixed, n := n, fl := fl, head := crcL (sl l fr (i - fr)) }
/-- A member's beginning: the first one, or one behind another. -/
structure Bg (z : Z) : Prop where
  ph : z.ph = .first
  why : z.why = 0
  data : z.data = false
  has : z.has = false
  nm : z.nm = []
theorem b_first (hb : Bytes l) (hz : zAt l i = y) (hy : Bg y) {x : Int} (hx : l[i]? = some x) :
    (x = 31 → AtY l (i + 1) (eAt l i) (fz y l i (i + 1) 1 y.fl)) ∧ (x ≠ 31 → y.between = false → Stp l (eAt l i) 40 i) ∧ (x ≠ 31 → y.between = true → x ≠ 0 → Stp l (eAt l i) 47 i) ∧ (x = 0 → y.between = true → AtY l (i + 1) (eAt l i) { y with ph := .nought }) := by
  have h := aty_step hb hz hy.why hy.data hx
  have hi := (List.getElem?_eq_some_iff.1 hx).1
  have e : y.step x = y.first x := by unfold Z.step; rw [hy.ph]
  rw [e] at h
  unfold Z.first at h
  refine ⟨fun h1 => ?_, fun h1 h2 => ?_, fun h1 h2 h3 => ?_, fun h1 h2 => ?_⟩
  · rw [if_pos h1] at h
    have e2 : fz y l i (i + 1) 1 y.fl = { y with between := false, head := crc1 0 x.toNat, ph := .fixed, n := 1 } := by
      unfold fz
      rw [crc_next hx (Nat.le_refl _), Nat.sub_self]
      rfl
    rw [e2]
    exact h
  · rw [if_neg h1, if_pos h2] at h
    exact .at (by decide) hi hz hy.why h hy.has
  · rw [if_neg h1, if_neg (by rw [h2]; simp), if_neg h3] at h
    exact .at (by decide) hi hz hy.why h hy.has
  · rw [if_neg (by omega), if_neg (by rw [h2]; simp), if_pos h1] at h
    exact h
theorem fz_step (hb : Bytes l) {n fl : Nat} (hz : zAt l i = fz y l fr i n fl) (h0 : y.why = 0) (hd : y.data = false) (hf : fr ≤ i) {x : Int} (hx : l[i]? = some x) :
    AtY l (i + 1) (eAt l i) (Z.fix2 { Z.fix1 (fz y l fr (i + 1) n fl) x with n := n + 1 }) := by
  have h := aty_step hb hz h0 hd hx
  have e : (fz y l fr i n fl).hd x = fz y l fr (i + 1) n fl := by unfold fz Z.hd; rw [crc_next hx hf]
  show AtY l (i + 1) (eAt l i) (Z.fix2 { Z.fix1 (fz y l fr (i + 1) n fl) x with n := (fz y l fr i n fl).n + 1 })
  rw [← e]
  exact h
theorem fix1_1 {n fl : Nat} {x : Int} {k : Nat} (hn : n = 1) (h : x ≠ 139) : ({ Z.fix1 (fz y l fr i n fl) x with n := k } : Z) = Z.stop (fz y l fr i k fl) 40 := by
  unfold Z.fix1
  rw [if_pos ⟨hn, h⟩]
  rfl
theorem fix1_2 {n fl : Nat} {x : Int} {k : Nat} (hn : n = 2) (h : x ≠ 8) : ({ Z.fix1 (fz y l fr i n fl) x with n := k } : Z) = Z.stop (fz y l fr i k fl) 41 := by
  subst hn
  unfold Z.fix1
  rw [if_neg (show ¬ ((fz y l fr i 2 fl).n = 1 ∧ x ≠ 139) from fun h => absurd (show (2 : Nat) = 1 from h.1) (by decide)), if_pos ⟨rfl, h⟩]
  rfl
theorem fix1_3 {n fl : Nat} {x : Int} {k : Nat} (hn : n = 3) (h : x / 32 ≠ 0) : ({ Z.fix1 (fz y l fr i n fl) x with n := k } : Z) = Z.stop (fz y l fr i k fl) 42 := by
  subst hn
  unfold Z.fix1
  rw [if_neg (show ¬ ((fz y l fr i 3 fl).n = 1 ∧ x ≠ 139) from fun h => absurd (show (3 : Nat) = 1 from h.1) (by decide)), if_neg (show ¬ ((fz y l fr i 3 fl).n = 2 ∧ x ≠ 8) from fun h => absurd (show (3 : Nat) = 2 from h.1) (by decide)), if_pos ⟨rfl, h⟩]
  rfl
theorem fix1_f {n fl : Nat} {x : Int} {k : Nat} (hn : n = 3) (h : ¬ x / 32 ≠ 0) : ({ Z.fix1 (fz y l fr i n fl) x with n := k } : Z) = fz y l fr i k x.toNat := by
  subst hn
  unfold Z.fix1
  rw [if_neg (show ¬ ((fz y l fr i 3 fl).n = 1 ∧ x ≠ 139) from fun h => absurd (show (3 : Nat) = 1 from h.1) (by decide)), if_neg (show ¬ ((fz y l fr i 3 fl).n = 2 ∧ x ≠ 8) from fun h => absurd (show (3 : Nat) = 2 from h.1) (by decide)), if_neg (show ¬ ((fz y l fr i 3 fl).n = 3 ∧ x / 32 ≠ 0) from fun h2 => h h2.2), if_pos (show (fz y l fr i 3 fl).n = 3 from rfl)]
  rfl
theorem fix1_o {n fl : Nat} {x : Int} {k : Nat} (h1 : n = 1 → x = 139) (h2 : n = 2 → x = 8) (h3 : n ≠ 3) : ({ Z.fix1 (fz y l fr i n fl) x with n := k } : Z) = fz y l fr i k fl := by
  unfold Z.fix1
  rw [if_neg (show ¬ ((fz y l fr i n fl).n = 1 ∧ x ≠ 139) from fun h => h.2 (h1 h.1)), if_neg (show ¬ ((fz y l fr i n fl).n = 2 ∧ x ≠ 8) from fun h => h.2 (h2 h.1)), if_neg (show ¬ ((fz y l fr i n fl).n = 3 ∧ x / 32 ≠ 0) from fun h => h3 h.1), if_neg (show ¬ (fz y l fr i n fl).n = 3 from h3)]
  rfl
theorem fix2_no {n fl : Nat} (h : n ≠ 10) : Z.fix2 (fz y l fr i n fl) = fz y l fr i n fl := by unfold Z.fix2; rw [if_neg (fun h2 => h h2.1)]
theorem fix2_st {n fl k : Nat} (h : k ≠ 0) : Z.fix2 (Z.stop (fz y l fr i n fl) k) = Z.stop (fz y l fr i n fl) k := by unfold Z.fix2; rw [if_neg (fun h2 => h h2.2)]
theorem b_magic (hb : Bytes l) {fl : Nat} (hz : zAt l i = fz y l fr i 1 fl) (h0 : y.why = 0) (hd : y.data = false) (hh : y.has = false) (hf : fr ≤ i) {x : Int} (hx : l[i]? = some x) :
    (x = 139 → AtY l (i + 1) (eAt l i) (fz y l fr (i + 1) 2 fl)) ∧ (x ≠ 139 → Stp l (eAt l i) 40 i) := by
  have h := fz_step hb hz h0 hd hf hx
  have hi := (List.getElem?_eq_some_iff.1 hx).1
  refine ⟨fun h1 => ?_, fun h1 => ?_⟩
  · have e : Z.fix2 { Z.fix1 (fz y l fr (i + 1) 1 fl) x with n := 1 + 1 } = fz y l fr (i + 1) 2 fl := by
      rw [fix1_o (fun _ => h1) (fun h => by cases h) (by decide), fix2_no (by decide)]
    rw [e] at h
    exact h
  · have e : Z.fix2 { Z.fix1 (fz y l fr (i + 1) 1 fl) x with n := 1 + 1 } = Z.stop (fz y l fr (i + 1) 2 fl) 40 := by
      rw [fix1_1 rfl h1, fix2_st (by decide)]
    rw [e] at h
    exact .at (by decide) hi hz h0 h hh
theorem b_method (hb : Bytes l) {fl : Nat} (hz : zAt l i = fz y l fr i 2 fl) (h0 : y.why = 0) (hd : y.data = false) (hh : y.has = false) (hf : fr ≤ i) {x : Int} (hx : l[i]? = some x) :
    (x = 8 → AtY l (i + 1) (eAt l i) (fz y l fr (i + 1) 3 fl)) ∧ (x ≠ 8 → Stp l (eAt l i) 41 i) := by
  have h := fz_step hb hz h0 hd hf hx
  have hi := (List.getElem?_eq_some_iff.1 hx).1
  refine ⟨fun h1 => ?_, fun h1 => ?_⟩
  · have e : Z.fix2 { Z.fix1 (fz y l fr (i + 1) 2 fl) x with n := 2 + 1 } = fz y l fr (i + 1) 3 fl := by
      rw [fix1_o (fun h => by cases h) (fun _ => h1) (by decide), fix2_no (by decide)]
    rw [e] at h
    exact h
  · have e : Z.fix2 { Z.fix1 (fz y l fr (i + 1) 2 fl) x with n := 2 + 1 } = Z.stop (fz y l fr (i + 1) 3 fl) 41 := by
      rw [fix1_2 rfl h1, fix2_st (by decide)]
    rw [e] at h
    exact .at (by decide) hi hz h0 h hh
theorem b_flags (hb : Bytes l) {fl : Nat} (hz : zAt l i = fz y l fr i 3 fl) (h0 : y.why = 0) (hd : y.data = false) (hh : y.has = false) (hf : fr ≤ i) {x : Int} (hx : l[i]? = some x) :
    (x < 32 → AtY l (i + 1) (eAt l i) (fz y l fr (i + 1) 4 x.toNat)) ∧ (¬ x < 32 → Stp l (eAt l i) 42 i) := by
  have h := fz_step hb hz h0 hd hf hx
  have hi := (List.getElem?_eq_some_iff.1 hx).1
  have hxb := hb x (List.mem_of_getElem? hx)
  refine ⟨fun h1 => ?_, fun h1 => ?_⟩
  · have e : Z.fix2 { Z.fix1 (fz y l fr (i + 1) 3 fl) x with n := 3 + 1 } = fz y l fr (i + 1) 4 x.toNat := by
      rw [fix1_f rfl (by omega), fix2_no (by decide)]
    rw [e] at h
    exact h
  · have e : Z.fix2 { Z.fix1 (fz y l fr (i + 1) 3 fl) x with n := 3 + 1 } = Z.stop (fz y l fr (i + 1) 4 fl) 42 := by
      rw [fix1_3 rfl (by omega), fix2_st (by decide)]
    rw [e] at h
    exact .at (by decide) hi hz h0 h hh
/-- Six bytes that say nothing. -/
theorem b_skip (hb : Bytes l) {fl : Nat} (hz : zAt l i = fz y l fr i 4 fl) (h0 : y.why = 0) (hd : y.data = false) (hh : y.has = false) (hf : fr ≤ i) :
    ∀ k, k ≤ 5 → i + k ≤ l.length → zAt l (i + k) = fz y l fr (i + k) (4 + k) fl ∧ eAt l (i + k) = eAt l i := by
  intro k
  induction k with
  | zero => intro _ _; exact ⟨hz, rfl⟩
  | succ k ih =>
    intro hk hi
    obtain ⟨h1, h2⟩ := ih (by omega) (by omega)
    have hx : l[i + k]? = some l[i + k] := List.getElem?_eq_getElem (by omega)
    have h := fz_step hb h1 h0 hd (by omega) hx
    have e : Z.fix2 { Z.fix1 (fz y l fr (i + k + 1) (4 + k) fl) l[i + k] with n := 4 + k + 1 } = fz y l fr (i + k + 1) (4 + k + 1) fl := by
      rw [fix1_o (fun h => by omega) (fun h => by omega) (by omega), fix2_no (by omega)]
    rw [e] at h
    obtain ⟨h3, h4⟩ := h.no hh
    exact ⟨h3, h4.trans h2⟩
theorem b_ten (hb : Bytes l) {fl : Nat} (hz : zAt l i = fz y l fr i 4 fl) (h0 : y.why = 0) (hd : y.data = false) (hh : y.has = false) (hf : fr ≤ i) (hi : i + 6 ≤ l.length) :
    AtY l (i + 6) (eAt l i) (Z.extra (fz y l fr (i + 6) 10 fl)) := by
  obtain ⟨h1, h2⟩ := b_skip hb hz h0 hd hh hf 5 (Nat.le_refl _) (by omega)
  have hx : l[i + 5]? = some l[i + 5] := List.getElem?_eq_getElem (by omega)
  have h := fz_step hb h1 h0 hd (by omega) hx
  have e : Z.fix2 { Z.fix1 (fz y l fr (i + 5 + 1) (4 + 5) fl) l[i + 5] with n := 4 + 5 + 1 } = Z.extra (fz y l fr (i + 6) 10 fl) := by
    rw [fix1_o (fun h => by omega) (fun h => by omega) (by omega)]
    unfold Z.fix2
    rw [if_pos ⟨rfl, h0⟩]
  rw [e, h2] at h
  exact h
theorem fz_ny {n fl : Nat} (h0 : y.why = 0) (hd : y.data = false) (hh : y.has = false) (hf : fr ≤ i) : Ny l fr i (fz y l fr i n fl) := ⟨h0, hd, hh, rfl, rfl, hf⟩
/-- Cut off in the first ten bytes. -/
theorem fz_cut {n fl : Nat} (hz : zAt l l.length = fz y l fr l.length n fl) (h0 : y.why = 0) : Stp l (eAt l l.length) 1 l.length := .cut hz h0 rfl rfl
/-! ### what stands behind them -/
theorem extra_no (h : y.fl / 4 % 2 = 0) : y.extra = y.named := by unfold Z.extra; rw [if_pos h]
theorem named_no (h : y.fl / 8 % 2 = 0) : y.named = y.commented := by unfold Z.named; rw [if_pos h]
theorem commented_no (h : y.fl / 16 % 2 = 0) : y.commented = Z.summed { y with cnt := 0 } := by unfold Z.commented; rw [if_pos h]
theorem summed_no (h : y.fl / 2 % 2 = 0) : y.summed = y.open_ := by unfold Z.summed; rw [if_pos h]
/-- The extra's length. -/
def xz (y : Z) (l : List Int) (fr i k : Nat) : Z := { y with ph := .exLen, n := k, val := numL (sl l i k), head := crcL (sl l fr (i + k - fr)) }
theorem x_zero (hN : Ny l fr i y) (hA : AtY l i E0 y.extra) (hf : y.fl / 4 % 2 = 1) : zAt l i = xz y l fr i 0 ∧ eAt l i = E0 := by
  have e : y.extra = xz y l fr i 0 := by
    unfold Z.extra xz
    rw [if_neg (by omega), Nat.add_zero, ← hN.head]
    rfl
  rw [e] at hA
  exact hA.no hN.has
theorem x_step (hb : Bytes l) (hN : Ny l fr i y) {k : Nat} {x : Int} (hz : zAt l (i + k) = xz y l fr i k) (hi : i + k < l.length) (hx : l[i + k]? = some x) :
    AtY l (i + k + 1) (eAt l (i + k)) (if k + 1 = 2 then Z.exl2 (xz y l fr i (k + 1)) else xz y l fr i (k + 1)) := by
  have h := aty_step hb hz hN.why hN.data hx
  have e : Z.num ((xz y l fr i k).hd x) x = xz y l fr i (k + 1) := by
    unfold xz Z.num Z.hd
    dsimp only
    rw [sl_snoc hx, numL_snoc, sl_len (by omega), ← Nat.add_assoc, crc_next hx (by have := hN.le; omega)]
  rw [← e]
  exact h
theorem x_one (hb : Bytes l) (hN : Ny l fr i y) (hA : AtY l i E0 y.extra) (hf : y.fl / 4 % 2 = 1) (hi : i + 1 ≤ l.length) : zAt l (i + 1) = xz y l fr i 1 ∧ eAt l (i + 1) = E0 := by
  obtain ⟨h1, h2⟩ := x_zero hN hA hf
  have hx : l[i]? = some l[i] := List.getElem?_eq_getElem (by omega)
  have h := x_step hb hN (k := 0) h1 (by omega) hx
  rw [if_neg (by omega)] at h
  obtain ⟨h3, h4⟩ := h.no hN.has
  exact ⟨h3, h4.trans h2⟩
theorem x_cut (hb : Bytes l) (hN : Ny l fr i y) (hA : AtY l i E0 y.extra) (hf : y.fl / 4 % 2 = 1) (hi : i ≤ l.length) (hc : ¬ i + 2 ≤ l.length) : Stp l E0 1 l.length := by
  by_cases h : i = l.length
  · obtain ⟨h1, h2⟩ := x_zero hN hA hf
    rw [h] at h1 h2
    exact .cut h1 hN.why hN.bet h2
  · obtain ⟨h1, h2⟩ := x_one hb hN hA hf (by omega)
    rw [show i + 1 = l.length by omega] at h1 h2
    exact .cut h1 hN.why hN.bet h2
theorem x_two (hb : Bytes l) (hN : Ny l fr i y) (hA : AtY l i E0 y.extra) (hf : y.fl / 4 % 2 = 1) (hi : i + 2 ≤ l.length) : AtY l (i + 2) E0 (Z.exl2 (xz y l fr i 2)) := by
  obtain ⟨h1, h2⟩ := x_one hb hN hA hf (by omega)
  have hx : l[i + 1]? = some l[i + 1] := List.getElem?_eq_getElem (by omega)
  have h := x_step hb hN (k := 1) h1 (by omega) hx
  rw [if_pos rfl, h2] at h
  exact h
theorem x_long (hb : Bytes l) (hN : Ny l fr i y) (hA : AtY l i E0 y.extra) (hf : y.fl / 4 % 2 = 1) (hi : i + 2 ≤ l.length) (hn : numL (sl l i 2) > 1024) : Stp l E0 46 (i + 1) := by
  have h := x_two hb hN hA hf hi
  have e : Z.exl2 (xz y l fr i 2) = Z.stop { xz y l fr i 2 with cnt := numL (sl l i 2) } 46 := by unfold Z.exl2; rw [if_pos (show (xz y l fr i 2).val > 1024 from hn)]; rfl
  rw [e] at h
  exact .at (by decide) (by omega) (x_one hb hN hA hf (by omega)).1 hN.why h hN.has
/-- The extra's bytes. -/
def yz (y : Z) (l : List Int) (fr i k : Nat) : Z := { xz y l fr i 2 with ph := .exBytes, cnt := numL (sl l i 2) - k, head := crcL (sl l fr (i + 2 + k - fr)) }
theorem y_zero (hb : Bytes l) (hN : Ny l fr i y) (hA : AtY l i E0 y.extra) (hf : y.fl / 4 % 2 = 1) (hi : i + 2 ≤ l.length) (hn : ¬ numL (sl l i 2) > 1024) : AtY l (i + 2) E0 (if numL (sl l i 2) = 0 then Z.named (yz y l fr i 0) else yz y l fr i 0) := by
  have h := x_two hb hN hA hf hi
  have e : Z.exl2 (xz y l fr i 2) = if numL (sl l i 2) = 0 then Z.named (yz y l fr i 0) else yz y l fr i 0 := by unfold Z.exl2; rw [if_neg (show ¬ (xz y l fr i 2).val > 1024 from hn)]; rfl
  rw [e] at h
  exact h
theorem y_run (hb : Bytes l) (hN : Ny l fr i y) (hA : AtY l i E0 y.extra) (hf : y.fl / 4 % 2 = 1) (hi : i + 2 ≤ l.length) (hn : ¬ numL (sl l i 2) > 1024) :
    ∀ k, k < numL (sl l i 2) → i + 2 + k ≤ l.length → zAt l (i + 2 + k) = yz y l fr i k ∧ eAt l (i + 2 + k) = E0 := by
  intro k
  induction k with
  | zero =>
    intro h0 _
    have h := y_zero hb hN hA hf hi hn
    rw [if_neg (by omega)] at h
    exact h.no hN.has
  | succ k ih =>
    intro hk hi2
    obtain ⟨h1, h2⟩ := ih (by omega) (by omega)
    have hx : l[i + 2 + k]? = some l[i + 2 + k] := List.getElem?_eq_getElem (by omega)
    have h := aty_step hb h1 hN.why hN.data hx
    have e : (yz y l fr i k).step l[i + 2 + k] = yz y l fr i (k + 1) := by
      show Z.exBytes (yz y l fr i k) _ = _
      unfold Z.exBytes
      rw [if_neg (show ¬ (yz y l fr i k).cnt = 1 by show ¬ numL (sl l i 2) - k = 1; omega)]
      unfold yz xz Z.hd
      dsimp only
      rw [← Nat.add_assoc, crc_next hx (by have := hN.le; omega), Nat.sub_sub]
    rw [e, h2] at h
    exact h.no hN.has
theorem y_cut (hb : Bytes l) (hN : Ny l fr i y) (hA : AtY l i E0 y.extra) (hf : y.fl / 4 % 2 = 1) (hi : i + 2 ≤ l.length) (hn : ¬ numL (sl l i 2) > 1024) (hc : ¬ i + 2 + numL (sl l i 2) ≤ l.length) : Stp l E0 1 l.length := by
  obtain ⟨h1, h2⟩ := y_run hb hN hA hf hi hn (l.length - (i + 2)) (by omega) (by omega)
  rw [show i + 2 + (l.length - (i + 2)) = l.length by omega] at h1 h2
  exact .cut h1 hN.why hN.bet h2
theorem y_end (hb : Bytes l) (hN : Ny l fr i y) (hA : AtY l i E0 y.extra) (hf : y.fl / 4 % 2 = 1) (hi : i + 2 ≤ l.length) (hn : ¬ numL (sl l i 2) > 1024) (hc : i + 2 + numL (sl l i 2) ≤ l.length) :
    ∃ y2, AtY l (i + 2 + numL (sl l i 2)) E0 y2.named ∧ Ny l fr (i + 2 + numL (sl l i 2)) y2 ∧ y2.fl = y.fl ∧ y2.nm = y.nm := by
  have hN2 : Ny l fr (i + 2 + numL (sl l i 2)) (yz y l fr i (numL (sl l i 2))) := ⟨hN.why, hN.data, hN.has, hN.bet, rfl, by have := hN.le; omega⟩
  refine ⟨yz y l fr i (numL (sl l i 2)), ?_, hN2, rfl, rfl⟩
  by_cases h0 : numL (sl l i 2) = 0
  · have h := y_zero hb hN hA hf hi hn
    rw [if_pos h0] at h
    rw [h0]
    exact h
  · obtain ⟨h1, h2⟩ := y_run hb hN hA hf hi hn (numL (sl l i 2) - 1) (by omega) (by omega)
    have hx : l[i + 2 + (numL (sl l i 2) - 1)]? = some l[i + 2 + (numL (sl l i 2) - 1)] := List.getElem?_eq_getElem (by omega)
    have h := aty_step hb h1 hN.why hN.data hx
    have e : (yz y l fr i (numL (sl l i 2) - 1)).step l[i + 2 + (numL (sl l i 2) - 1)] = Z.named (yz y l fr i (numL (sl l i 2))) := by
      show Z.exBytes (yz y l fr i (numL (sl l i 2) - 1)) _ = _
      unfold Z.exBytes
      rw [if_pos (show (yz y l fr i (numL (sl l i 2) - 1)).cnt = 1 by show numL (sl l i 2) - (numL (sl l i 2) - 1) = 1; omega)]
      unfold yz xz Z.hd
      dsimp only
      have e9 : i + 2 + numL (sl l i 2) = i + 2 + (numL (sl l i 2) - 1) + 1 := by omega
      rw [Nat.sub_self, ← crc_next hx (by have := hN.le; omega), ← e9]
    rw [e, h2, show i + 2 + (numL (sl l i 2) - 1) + 1 = i + 2 + numL (sl l i 2) by omega] at h
    exact h
/-- No byte 0 among the first k. -/
def NoZ (l : List Int) (i k : Nat) : Prop := ∀ j x, j < k → l[i + j]? = some x → x ≠ 0
/-- The name's bytes. -/
def nz (y : Z) (l : List Int) (fr i k : Nat) : Z := { y with ph := .nameB, nm := sl l i k, head := crcL (sl l fr (i + k - fr)) }
theorem n_run (hb : Bytes l) (hN : Ny l fr i y) (hA : AtY l i E0 y.named) (hf : y.fl / 8 % 2 = 1) (hm : y.nm = []) :
    ∀ k, k ≤ 256 → i + k ≤ l.length → NoZ l i k → zAt l (i + k) = nz y l fr i k ∧ eAt l (i + k) = E0 := by
  intro k
  induction k with
  | zero =>
    intro _ _ _
    have e : y.named = nz y l fr i 0 := by
      unfold Z.named nz
      rw [if_neg (by omega), Nat.add_zero, ← hN.head, sl_zero, ← hm]
    rw [e] at hA
    exact hA.no hN.has
  | succ k ih =>
    intro hk hi hz
    obtain ⟨h1, h2⟩ := ih (by omega) (by omega) (fun j x hj => hz j x (by omega))
    have hx : l[i + k]? = some l[i + k] := List.getElem?_eq_getElem (by omega)
    have h := aty_step hb h1 hN.why hN.data hx
    have e : (nz y l fr i k).step l[i + k] = nz y l fr i (k + 1) := by
      show Z.nameB (nz y l fr i k) _ = _
      unfold Z.nameB
      rw [if_neg (hz k _ (by omega) hx), if_neg (show ¬ (nz y l fr i k).nm.length = 256 by show ¬ (sl l i k).length = 256; rw [sl_len (by omega)]; omega)]
      unfold nz Z.hd
      dsimp only
      rw [sl_snoc hx, ← Nat.add_assoc, crc_next hx (by have := hN.le; omega)]
    rw [e, h2] at h
    exact h.no hN.has
theorem n_cut (hb : Bytes l) (hN : Ny l fr i y) (hA : AtY l i E0 y.named) (hf : y.fl / 8 % 2 = 1) (hm : y.nm = []) {k : Nat} (hk : k ≤ 256) (hi : i + k = l.length) (hz : NoZ l i k) : Stp l E0 1 l.length := by
  obtain ⟨h1, h2⟩ := n_run hb hN hA hf hm k hk (by omega) hz
  rw [hi] at h1 h2
  exact .cut h1 hN.why hN.bet h2
theorem n_long (hb : Bytes l) (hN : Ny l fr i y) (hA : AtY l i E0 y.named) (hf : y.fl / 8 % 2 = 1) (hm : y.nm = []) (hi : i + 257 ≤ l.length) (hz : NoZ l i 257) : Stp l E0 46 (i + 256) := by
  obtain ⟨h1, h2⟩ := n_run hb hN hA hf hm 256 (Nat.le_refl _) (by omega) (fun j x hj => hz j x (by omega))
  have hx : l[i + 256]? = some l[i + 256] := List.getElem?_eq_getElem (by omega)
  have h := aty_step hb h1 hN.why hN.data hx
  have e : (nz y l fr i 256).step l[i + 256] = Z.stop ((nz y l fr i 256).hd l[i + 256]) 46 := by
    show Z.nameB (nz y l fr i 256) _ = _
    unfold Z.nameB
    rw [if_neg (hz 256 _ (by omega) hx), if_pos (show (nz y l fr i 256).nm.length = 256 by show (sl l i 256).length = 256; rw [sl_len (by omega)])]
  rw [e, h2] at h
  exact .at (by decide) (by omega) h1 hN.why h hN.has
theorem n_end (hb : Bytes l) (hN : Ny l fr i y) (hA : AtY l i E0 y.named) (hf : y.fl / 8 % 2 = 1) (hm : y.nm = []) {k : Nat} (hk : k ≤ 256) (hx : l[i + k]? = some 0) (hz : NoZ l i k) :
    ∃ y2, AtY l (i + k + 1) E0 y2.commented ∧ Ny l fr (i + k + 1) y2 ∧ y2.fl = y.fl ∧ y2.nm = sl l i k := by
  have hi := (List.getElem?_eq_some_iff.1 hx).1
  obtain ⟨h1, h2⟩ := n_run hb hN hA hf hm k hk (by omega) hz
  have h := aty_step hb h1 hN.why hN.data hx
  have e : (nz y l fr i k).step 0 = Z.commented ((nz y l fr i k).hd 0) := by
    show Z.nameB (nz y l fr i k) _ = _
    unfold Z.nameB
    rw [if_pos rfl]
  rw [e, h2] at h
  refine ⟨_, h, ⟨hN.why, hN.data, hN.has, hN.bet, ?_, by have := hN.le; omega⟩, rfl, rfl⟩
  rw [crc_next hx (by have := hN.le; omega)]
  rfl
/-- The comment's bytes. -/
def cz (y : Z) (l : List Int) (fr i k : Nat) : Z := { y with ph := .comB, cnt := k, head := crcL (sl l fr (i + k - fr)) }
theorem c_run (hb : Bytes l) (hN : Ny l fr i y) (hA : AtY l i E0 y.commented) (hf : y.fl / 16 % 2 = 1) :
    ∀ k, k ≤ 256 → i + k ≤ l.length → NoZ l i k → zAt l (i + k) = cz y l fr i k ∧ eAt l (i + k) = E0 := by
  intro k
  induction k with
  | zero =>
    intro _ _ _
    have e : y.commented = cz y l fr i 0 := by
      unfold Z.commented cz
      rw [if_neg (by omega), Nat.add_zero, ← hN.head]
    rw [e] at hA
    exact hA.no hN.has
  | succ k ih =>
    intro hk hi hz
    obtain ⟨h1, h2⟩ := ih (by omega) (by omega) (fun j x hj => hz j x (by omega))
    have hx : l[i + k]? = some l[i + k] := List.getElem?_eq_getElem (by omega)
    have h := aty_step hb h1 hN.why hN.data hx
    have e : (cz y l fr i k).step l[i + k] = cz y l fr i (k + 1) := by
      show Z.comB (cz y l fr i k) _ = _
      unfold Z.comB
      rw [if_neg (hz k _ (by omega) hx), if_neg (show ¬ (cz y l fr i k).cnt = 256 by show ¬ k = 256; omega)]
      unfold cz Z.hd
      dsimp only
      rw [← Nat.add_assoc, crc_next hx (by have := hN.le; omega)]
    rw [e, h2] at h
    exact h.no hN.has
theorem c_cut (hb : Bytes l) (hN : Ny l fr i y) (hA : AtY l i E0 y.commented) (hf : y.fl / 16 % 2 = 1) {k : Nat} (hk : k ≤ 256) (hi : i + k = l.length) (hz : NoZ l i k) : Stp l E0 1 l.length := by
  obtain ⟨h1, h2⟩ := c_run hb hN hA hf k hk (by omega) hz
  rw [hi] at h1 h2
  exact .cut h1 hN.why hN.bet h2
theorem c_long (hb : Bytes l) (hN : Ny l fr i y) (hA : AtY l i E0 y.commented) (hf : y.fl / 16 % 2 = 1) (hi : i + 257 ≤ l.length) (hz : NoZ l i 257) : Stp l E0 46 (i + 256) := by
  obtain ⟨h1, h2⟩ := c_run hb hN hA hf 256 (Nat.le_refl _) (by omega) (fun j x hj => hz j x (by omega))
  have hx : l[i + 256]? = some l[i + 256] := List.getElem?_eq_getElem (by omega)
  have h := aty_step hb h1 hN.why hN.data hx
  have e : (cz y l fr i 256).step l[i + 256] = Z.stop ((cz y l fr i 256).hd l[i + 256]) 46 := by
    show Z.comB (cz y l fr i 256) _ = _
    unfold Z.comB
    rw [if_neg (hz 256 _ (by omega) hx), if_pos (show (cz y l fr i 256).cnt = 256 from rfl)]
  rw [e, h2] at h
  exact .at (by decide) (by omega) h1 hN.why h hN.has
theorem c_end (hb : Bytes l) (hN : Ny l fr i y) (hA : AtY l i E0 y.commented) (hf : y.fl / 16 % 2 = 1) {k : Nat} (hk : k ≤ 256) (hx : l[i + k]? = some 0) (hz : NoZ l i k) :
    ∃ y2, AtY l (i + k + 1) E0 y2.summed ∧ Ny l fr (i + k + 1) y2 ∧ y2.fl = y.fl ∧ y2.nm = y.nm := by
  have hi := (List.getElem?_eq_some_iff.1 hx).1
  obtain ⟨h1, h2⟩ := c_run hb hN hA hf k hk (by omega) hz
  have h := aty_step hb h1 hN.why hN.data hx
  have e : (cz y l fr i k).step 0 = Z.summed ((cz y l fr i k).hd 0) := by
    show Z.comB (cz y l fr i k) _ = _
    unfold Z.comB
    rw [if_pos rfl]
  rw [e, h2] at h
  refine ⟨_, h, ⟨hN.why, hN.data, hN.has, hN.bet, ?_, by have := hN.le; omega⟩, rfl, rfl⟩
  rw [crc_next hx (by have := hN.le; omega)]
  rfl
/-! ### numbers -/
def wz (y : Z) (l : List Int) (i : Nat) (p : Gp) (k : Nat) : Z := { y with ph := p, n := k, val := numL (sl l i k) }
/-- A number's bytes, all but the last one. -/
theorem w_run (hb : Bytes l) {p : Gp} {N : Nat} (hs : ∀ (z : Z) (x : Int), z.ph = p → z.n + 1 < N → z.step x = z.num x) (h0 : y.why = 0) (hd : y.data = false) (hh : y.has = false) (hz : zAt l i = y.want p) (he : eAt l i = E0) :
    ∀ k, k < N → i + k ≤ l.length → zAt l (i + k) = wz y l i p k ∧ eAt l (i + k) = E0 := by
  intro k
  induction k with
  | zero => intro _ _; exact ⟨hz, he⟩
  | succ k ih =>
    intro hk hi
    obtain ⟨h1, h2⟩ := ih (by omega) (by omega)
    have hx : l[i + k]? = some l[i + k] := List.getElem?_eq_getElem (by omega)
    have h := aty_step hb h1 h0 hd hx
    have e : (wz y l i p k).step l[i + k] = wz y l i p (k + 1) := by
      rw [hs _ _ rfl hk]
      unfold wz Z.num
      dsimp only
      rw [sl_snoc hx, numL_snoc, sl_len (by omega)]
    rw [e, h2] at h
    exact h.no hh
theorem w_last (hb : Bytes l) {p : Gp} {N : Nat} (hs : ∀ (z : Z) (x : Int), z.ph = p → z.n + 1 < N → z.step x = z.num x) {f : Z → Z} (hl : ∀ (z : Z) (x : Int), z.ph = p → z.n + 1 = N → z.step x = f (z.num x)) (hN : 0 < N) (h0 : y.why = 0) (hd : y.data = false) (hh : y.has = false) (hz : zAt l i = y.want p) (he : eAt l i = E0)
    (hi : i + N ≤ l.length) : AtY l (i + N) E0 (f (wz y l i p N)) ∧ (zAt l (i + N - 1)).why = 0 := by
  obtain ⟨k, rfl⟩ : ∃ k, N = k + 1 := ⟨N - 1, by omega⟩
  obtain ⟨h1, h2⟩ := w_run hb hs h0 hd hh hz he k (by omega) (by omega)
  have hx : l[i + k]? = some l[i + k] := List.getElem?_eq_getElem (by omega)
  have h := aty_step hb h1 h0 hd hx
  have e : (wz y l i p k).step l[i + k] = f (wz y l i p (k + 1)) := by
    rw [hl _ _ rfl rfl]
    unfold wz Z.num
    dsimp only
    rw [sl_snoc hx, numL_snoc, sl_len (by omega)]
  rw [e, h2] at h
  exact ⟨h, by rw [show i + (k + 1) - 1 = i + k by omega, h1]; exact h0⟩
theorem w_cut (hb : Bytes l) {p : Gp} {N : Nat} (hs : ∀ (z : Z) (x : Int), z.ph = p → z.n + 1 < N → z.step x = z.num x) (h0 : y.why = 0) (hd : y.data = false) (hh : y.has = false) (hbt : y.between = false) (hz : zAt l i = y.want p) (he : eAt l i = E0)
    (hi : i ≤ l.length) (hc : ¬ i + N ≤ l.length) : Stp l E0 1 l.length := by
  obtain ⟨h1, h2⟩ := w_run hb hs h0 hd hh hz he (l.length - i) (by omega) (by omega)
  rw [show i + (l.length - i) = l.length by omega] at h1 h2
  exact .cut h1 h0 hbt h2
theorem st_hSum (z : Z) (x : Int) (hp : z.ph = .hSum) : z.step x = z.hSum x := by unfold Z.step; rw [hp]
theorem st_sums (z : Z) (x : Int) (hp : z.ph = .sums) : z.step x = z.sums x := by unfold Z.step; rw [hp]
theorem st_sizes (z : Z) (x : Int) (hp : z.ph = .sizes) : z.step x = z.sizes x := by unfold Z.step; rw [hp]
theorem hSum_no (z : Z) (x : Int) (hp : z.ph = .hSum) (h : z.n + 1 < 2) : z.step x = z.num x := by rw [st_hSum z x hp]; unfold Z.hSum; rw [if_neg (by omega)]
theorem hSum_yes (z : Z) (x : Int) (hp : z.ph = .hSum) (h : z.n + 1 = 2) : z.step x = Z.hSum2 (z.num x) := by rw [st_hSum z x hp]; unfold Z.hSum; rw [if_pos h]
theorem sums_no (z : Z) (x : Int) (hp : z.ph = .sums) (h : z.n + 1 < 4) : z.step x = z.num x := by rw [st_sums z x hp]; unfold Z.sums; rw [if_neg (by omega)]
theorem sums_yes (z : Z) (x : Int) (hp : z.ph = .sums) (h : z.n + 1 = 4) : z.step x = Z.sums2 (z.num x) := by rw [st_sums z x hp]; unfold Z.sums; rw [if_pos h]
theorem sizes_no (z : Z) (x : Int) (hp : z.ph = .sizes) (h : z.n + 1 < 4) : z.step x = z.num x := by rw [st_sizes z x hp]; unfold Z.sizes; rw [if_neg (by omega)]
theorem sizes_yes (z : Z) (x : Int) (hp : z.ph = .sizes) (h : z.n + 1 = 4) : z.step x = Z.sizes2 (z.num x) := by rw [st_sizes z x hp]; unfold Z.sizes; rw [if_pos h]
/-! ### the header's sum -/
theorem s_want (hN : Ny l fr i y) (hA : AtY l i E0 y.summed) (hf : y.fl / 2 % 2 = 1) : zAt l i = y.want .hSum ∧ eAt l i = E0 := by
  have e : y.summed = y.want .hSum := by unfold Z.summed; rw [if_neg (by omega)]
  rw [e] at hA
  exact hA.no hN.has
theorem s_cut (hb : Bytes l) (hN : Ny l fr i y) (hA : AtY l i E0 y.summed) (hf : y.fl / 2 % 2 = 1) (hi : i ≤ l.length) (hc : ¬ i + 2 ≤ l.length) : Stp l E0 1 l.length := by
  obtain ⟨h1, h2⟩ := s_want hN hA hf
  exact w_cut hb hSum_no hN.why hN.data hN.has hN.bet h1 h2 hi hc
theorem s_bad (hb : Bytes l) (hN : Ny l fr i y) (hA : AtY l i E0 y.summed) (hf : y.fl / 2 % 2 = 1) (hi : i + 2 ≤ l.length) (hn : numL (sl l i 2) ≠ crcL (sl l fr (i - fr)) % 65536) : Stp l E0 43 (i + 1) := by
  obtain ⟨h1, h2⟩ := s_want hN hA hf
  obtain ⟨h, h3⟩ := w_last hb hSum_no hSum_yes (by omega) hN.why hN.data hN.has h1 h2 hi
  have e : Z.hSum2 (wz y l i .hSum 2) = Z.stop (wz y l i .hSum 2) 43 := by
    unfold Z.hSum2
    rw [if_neg]
    show ¬ numL (sl l i 2) = y.head % 65536
    rw [hN.head]
    exact hn
  rw [e] at h
  exact .at (by decide) (by omega) rfl h3 h hN.has
theorem s_end (hb : Bytes l) (hN : Ny l fr i y) (hA : AtY l i E0 y.summed) (hf : y.fl / 2 % 2 = 1) (hi : i + 2 ≤ l.length) (hn : numL (sl l i 2) = crcL (sl l fr (i - fr)) % 65536) :
    ∃ y2 : Z, AtY l (i + 2) E0 y2.open_ ∧ y2.why = 0 ∧ y2.between = false ∧ y2.nm = y.nm := by
  obtain ⟨h1, h2⟩ := s_want hN hA hf
  obtain ⟨h, _⟩ := w_last hb hSum_no hSum_yes (by omega) hN.why hN.data hN.has h1 h2 hi
  have e : Z.hSum2 (wz y l i .hSum 2) = Z.open_ (wz y l i .hSum 2) := by
    unfold Z.hSum2
    rw [if_pos]
    show numL (sl l i 2) = y.head % 65536
    rw [hN.head]
    exact hn
  rw [e] at h
  exact ⟨_, h, hN.why, hN.bet, rfl⟩
end
end Go.Proofs.YtjjcemdoefigkaaDoor.Hf
