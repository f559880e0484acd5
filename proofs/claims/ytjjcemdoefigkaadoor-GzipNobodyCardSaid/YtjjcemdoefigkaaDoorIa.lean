/- Prefix codes out of lengths (plain). -/
import Derived.WalkKit
namespace Go.Proofs.YtjjcemdoefigkaaDoor.Hf
set_option linter.unusedVariables false
set_option linter.unusedSimpArgs false

theorem rev_ind {α : Type} {P : List α → Prop} (nil : P []) (snoc : ∀ l b, P l → P (l ++ [b])) (l : List α) : P l := by
  rw [← List.reverse_reverse l]
  induction l.reverse with
  | nil => exact nil
  | cons b r ih => rw [List.reverse_cons]; exact snoc _ _ ih
/-- The number of bits, the first one the lowest. -/
def num : List Bool → Nat
  | [] => 0
  | b :: r => b.toNat + 2 * num r
/-- The number of bits, the first one the highest. -/
def mnum (l : List Bool) : Nat := l.foldl (fun v b => 2 * v + b.toNat) 0
theorem num_lt : ∀ l, num l < 2 ^ l.length := by
  intro l
  induction l with
  | nil => simp [num]
  | cons b r ih =>
    simp only [num, List.length_cons, Nat.pow_succ]
    cases b <;> simp <;> omega
theorem num_append : ∀ a b, num (a ++ b) = num a + 2 ^ a.length * num b := by
  intro a
  induction a with
  | nil => intro b; simp [num]
  | cons x a ih =>
    intro b
    simp only [List.cons_append, num, ih, List.length_cons, Nat.pow_succ]
    rw [Nat.mul_add, ← Nat.mul_assoc, Nat.mul_comm 2 (2 ^ a.length)]
    omega
theorem num_take (l : List Bool) (k : Nat) (h : k ≤ l.length) : num (l.take k) = num l % 2 ^ k := by
  conv => rhs; rw [← List.take_append_drop k l]
  rw [num_append, show (l.take k).length = k by simp; omega, Nat.add_mul_mod_self_left, Nat.mod_eq_of_lt]
  have := num_lt (l.take k)
  rwa [show (l.take k).length = k by simp; omega] at this
theorem num_drop (l : List Bool) (k : Nat) (h : k ≤ l.length) : num (l.drop k) = num l / 2 ^ k := by
  conv => rhs; rw [← List.take_append_drop k l]
  rw [num_append, show (l.take k).length = k by simp; omega, Nat.add_mul_div_left _ _ (Nat.two_pow_pos k), Nat.div_eq_of_lt, Nat.zero_add]
  have := num_lt (l.take k)
  rwa [show (l.take k).length = k by simp; omega] at this
theorem mnum_fold : ∀ (l : List Bool) (v : Nat), l.foldl (fun v b => 2 * v + b.toNat) v = v * 2 ^ l.length + mnum l := by
  intro l
  induction l with
  | nil => intro v; simp [mnum]
  | cons b r ih =>
    intro v
    have h1 := ih (2 * v + b.toNat)
    have h2 := ih (2 * 0 + b.toNat)
    unfold mnum
    simp only [List.foldl_cons] at h1 h2 ⊢
    rw [h1, h2, List.length_cons, Nat.pow_succ, Nat.add_mul, Nat.mul_zero, Nat.zero_add, Nat.mul_comm 2 v, Nat.mul_assoc, Nat.mul_comm 2 (2 ^ r.length)]
    omega
theorem mnum_append (a b : List Bool) : mnum (a ++ b) = mnum a * 2 ^ b.length + mnum b := by
  show (a ++ b).foldl _ 0 = _
  rw [List.foldl_append, mnum_fold]
  rfl
theorem mnum_snoc (a : List Bool) (b : Bool) : mnum (a ++ [b]) = 2 * mnum a + b.toNat := by
  rw [mnum_append]
  cases b <;> simp [mnum] <;> omega
theorem mnum_lt (l : List Bool) : mnum l < 2 ^ l.length := by
  induction l using rev_ind with
  | nil => simp [mnum]
  | snoc l b ih =>
    rw [mnum_snoc, List.length_append, List.length_singleton, Nat.pow_succ]
    cases b <;> simp <;> omega
/-- The bits of a number, the highest first. -/
def msb : Nat → Nat → List Bool
  | 0, _ => []
  | n + 1, x => msb n (x / 2) ++ [decide (x % 2 = 1)]
theorem msb_length : ∀ n x, (msb n x).length = n := by
  intro n
  induction n with
  | zero => intro x; rfl
  | succ n ih => intro x; simp [msb, ih]
theorem mnum_msb : ∀ n x, x < 2 ^ n → mnum (msb n x) = x := by
  intro n
  induction n with
  | zero => intro x h; simp at h; subst h; rfl
  | succ n ih =>
    intro x h
    rw [msb, mnum_snoc, ih (x / 2) (by rw [Nat.pow_succ] at h; omega)]
    rcases Nat.mod_two_eq_zero_or_one x with h1 | h1 <;> simp [h1] <;> omega
theorem mnum_inj : ∀ (a b : List Bool), a.length = b.length → mnum a = mnum b → a = b := by
  intro a
  induction a using rev_ind with
  | nil => intro b h _; exact (List.eq_nil_of_length_eq_zero h.symm).symm
  | snoc a x ih =>
    intro b h e
    obtain ⟨b', y, rfl⟩ : ∃ b' y, b = b' ++ [y] := by
      rcases List.eq_nil_or_concat b with rfl | ⟨b', y, rfl⟩
      · simp at h
      · exact ⟨b', y, by simp⟩
    rw [mnum_snoc, mnum_snoc] at e
    have h1 : a.length = b'.length := by simpa using h
    have hxy : x.toNat = y.toNat := by have h2 := Bool.toNat_le x; have h3 := Bool.toNat_le y; omega
    have hxy : x = y := by revert hxy; cases x <;> cases y <;> simp
    subst hxy
    rw [ih b' h1 (by omega)]

/-- How many symbols have a code of n bits. -/
def cnt (lens : List Nat) (n : Nat) : Nat := (lens.filter fun m => decide (m = n ∧ 0 < n)).length
/-- Of each length the first code. -/
def fst_ (lens : List Nat) : Nat → Nat
  | 0 => 0
  | n + 1 => 2 * (fst_ lens n + cnt lens n)
/-- A symbol's number among those of its length. -/
def codeN (lens : List Nat) (i : Nat) : Nat := fst_ lens (lens.getD i 0) + cnt (lens.take i) (lens.getD i 0)
/-- A symbol's code; none: []. -/
def code (lens : List Nat) (i : Nat) : List Bool := msb (lens.getD i 0) (codeN lens i)
def kraft (lens : List Nat) : Nat := (lens.map fun n => if 0 < n then 2 ^ (15 - n) else 0).sum
theorem cnt_cons (m : Nat) (lens : List Nat) (n : Nat) : cnt (m :: lens) n = (if m = n ∧ 0 < n then 1 else 0) + cnt lens n := by
  unfold cnt
  rw [List.filter_cons]
  by_cases h : m = n ∧ 0 < n
  · rw [if_pos (by simpa using h), if_pos h, List.length_cons]; omega
  · rw [if_neg (by simpa using h), if_neg h]; omega
theorem cnt_zero (lens : List Nat) : cnt lens 0 = 0 := by
  unfold cnt
  rw [List.filter_eq_nil_iff.2 (by intro a _; simp)]
  rfl
def wsum (lens : List Nat) : Nat → Nat
  | 0 => 0
  | n + 1 => wsum lens n + cnt lens (n + 1) * 2 ^ (15 - (n + 1))
theorem wsum_cons (m : Nat) (lens : List Nat) : ∀ k, wsum (m :: lens) k = (if 0 < m ∧ m ≤ k then 2 ^ (15 - m) else 0) + wsum lens k := by
  intro k
  induction k with
  | zero => rw [if_neg (by omega)]; rfl
  | succ k ih =>
    rw [wsum, wsum, ih, cnt_cons, Nat.add_mul]
    by_cases h1 : m = k + 1
    · subst h1
      rw [if_neg (by omega), if_pos (by omega), if_pos (by omega)]
      omega
    · rw [if_neg (show ¬ (m = k + 1 ∧ 0 < k + 1) by omega)]
      by_cases h2 : 0 < m ∧ m ≤ k
      · rw [if_pos h2, if_pos (by omega)]; omega
      · rw [if_neg h2, if_neg (by omega)]; omega
theorem wsum_le_kraft (lens : List Nat) (k : Nat) : wsum lens k ≤ kraft lens := by
  induction lens with
  | nil =>
    have : wsum [] k = 0 := by
      induction k with
      | zero => rfl
      | succ k ih => rw [wsum, ih]; simp [cnt]
    omega
  | cons m lens ih =>
    rw [wsum_cons]
    have e : kraft (m :: lens) = (if 0 < m then 2 ^ (15 - m) else 0) + kraft lens := by simp [kraft]
    rw [e]
    by_cases h : 0 < m ∧ m ≤ k
    · rw [if_pos h, if_pos h.1]; omega
    · rw [if_neg h]; omega
theorem fst_wsum (lens : List Nat) : ∀ k, k ≤ 15 → fst_ lens k * 2 ^ (15 - k) + cnt lens k * 2 ^ (15 - k) = wsum lens k := by
  intro k
  induction k with
  | zero => intro _; simp [fst_, cnt_zero, wsum]
  | succ k ih =>
    intro h
    have h1 := ih (by omega)
    have e : 2 ^ (15 - k) = 2 * 2 ^ (15 - (k + 1)) := by rw [← Nat.pow_succ']; congr 1; omega
    rw [fst_, wsum, ← h1, e]
    generalize 2 ^ (15 - (k + 1)) = z
    rw [Nat.mul_assoc, Nat.add_mul, Nat.mul_add, Nat.mul_left_comm, Nat.mul_left_comm 2 (cnt lens k)]
/-- The numbers of the codes of k bits have k bits. -/
theorem fst_le {lens : List Nat} (hk : kraft lens ≤ 2 ^ 15) (k : Nat) (h : k ≤ 15) : fst_ lens k + cnt lens k ≤ 2 ^ k := by
  have h1 := fst_wsum lens k h
  have h2 := wsum_le_kraft lens k
  have e : 2 ^ k * 2 ^ (15 - k) = 2 ^ 15 := by rw [← Nat.pow_add]; congr 1; omega
  have h3 : (fst_ lens k + cnt lens k) * 2 ^ (15 - k) ≤ 2 ^ k * 2 ^ (15 - k) := by rw [e, Nat.add_mul]; omega
  exact Nat.le_of_mul_le_mul_right h3 (Nat.two_pow_pos _)
end Go.Proofs.YtjjcemdoefigkaaDoor.Hf
/- What bits are to a table of codes (plain). -/
namespace Go.Proofs.YtjjcemdoefigkaaDoor.Hf
set_option linter.unusedVariables false
set_option linter.unusedSimpArgs false

theorem cnt_find : ∀ (lens : List Nat) (k r : Nat), 0 < k → r < cnt lens k → ∃ i, lens[i]? = some k ∧ cnt (lens.take i) k = r := by
  intro lens
  induction lens with
  | nil => intro k r _ h; simp [cnt] at h
  | cons m lens ih =>
    intro k r hk h
    rw [cnt_cons] at h
    by_cases hm : m = k
    · subst hm
      rw [if_pos ⟨rfl, hk⟩] at h
      cases r with
      | zero => exact ⟨0, rfl, by simp [cnt]⟩
      | succ r =>
        obtain ⟨i, h1, h2⟩ := ih m r hk (by omega)
        exact ⟨i + 1, by simpa using h1, by rw [List.take_succ_cons, cnt_cons, if_pos ⟨rfl, hk⟩, h2]; omega⟩
    · rw [if_neg (by omega)] at h
      obtain ⟨i, h1, h2⟩ := ih k r hk (by omega)
      exact ⟨i + 1, by simpa using h1, by rw [List.take_succ_cons, cnt_cons, if_neg (by omega), h2]; omega⟩
theorem cnt_at : ∀ (lens : List Nat) (k i : Nat), 0 < k → lens[i]? = some k → cnt (lens.take i) k < cnt lens k := by
  intro lens
  induction lens with
  | nil => intro k i _ h; simp at h
  | cons m lens ih =>
    intro k i hk h
    cases i with
    | zero =>
      simp at h
      subst h
      rw [cnt_cons, if_pos ⟨rfl, hk⟩]
      simp [cnt]
      omega
    | succ i =>
      have := ih k i hk (by simpa using h)
      rw [List.take_succ_cons, cnt_cons, cnt_cons]
      omega
theorem cnt_mono (lens : List Nat) (k : Nat) {i j : Nat} (h : i ≤ j) : cnt (lens.take i) k ≤ cnt (lens.take j) k := by
  unfold cnt
  have h1 : lens.take i <+: lens.take j := by
    rw [← Nat.min_eq_left h, ← List.take_take]
    exact List.take_prefix _ _
  exact (h1.sublist.filter _).length_le
theorem cnt_lt (lens : List Nat) (k : Nat) {i j : Nat} (hk : 0 < k) (hi : lens[i]? = some k) (h : i < j) : cnt (lens.take i) k < cnt (lens.take j) k := by
  have h1 : (lens.take j)[i]? = some k := by rw [List.getElem?_take, if_pos h]; exact hi
  have h2 := cnt_at (lens.take j) k i hk h1
  rwa [List.take_take, Nat.min_eq_left (Nat.le_of_lt h)] at h2
theorem cnt_inj (lens : List Nat) (k : Nat) {i j : Nat} (hk : 0 < k) (hi : lens[i]? = some k) (hj : lens[j]? = some k) (h : cnt (lens.take i) k = cnt (lens.take j) k) : i = j := by
  rcases Nat.lt_trichotomy i j with h1 | h1 | h1
  · have := cnt_lt lens k hk hi h1; omega
  · exact h1
  · have := cnt_lt lens k hk hj h1; omega

/-- Lengths of which a table can be made. -/
structure Tab (lens : List Nat) : Prop where
  le : ∀ n ∈ lens, n ≤ 15
  kr : kraft lens ≤ 2 ^ 15
section
variable {lens : List Nat}
theorem getD_of {i k : Nat} (h : lens[i]? = some k) : lens.getD i 0 = k := by simp [List.getD, h]
theorem code_of {i k : Nat} (h : lens[i]? = some k) : code lens i = msb k (fst_ lens k + cnt (lens.take i) k) := by
  unfold code codeN
  rw [getD_of h]
theorem code_length {i k : Nat} (h : lens[i]? = some k) : (code lens i).length = k := by rw [code_of h, msb_length]
theorem code_mnum (ht : Tab lens) {i k : Nat} (hk : 0 < k) (h : lens[i]? = some k) : mnum (code lens i) = fst_ lens k + cnt (lens.take i) k := by
  rw [code_of h, mnum_msb]
  have h1 := cnt_at lens k i hk h
  have h2 := fst_le ht.kr k (ht.le k (List.mem_of_getElem? h))
  omega
/-- A code of k bits is one whose number lies in the range. -/
theorem code_iff (ht : Tab lens) {l : List Bool} {k : Nat} (hl : l.length = k) (hk : 0 < k) (h15 : k ≤ 15) :
    (fst_ lens k ≤ mnum l ∧ mnum l < fst_ lens k + cnt lens k) ↔ ∃ i, lens[i]? = some k ∧ code lens i = l := by
  constructor
  · rintro ⟨h1, h2⟩
    obtain ⟨i, hi, hc⟩ := cnt_find lens k (mnum l - fst_ lens k) hk (by omega)
    refine ⟨i, hi, mnum_inj _ _ (by rw [code_length hi, hl]) ?_⟩
    rw [code_mnum ht hk hi, hc]
    omega
  · rintro ⟨i, hi, rfl⟩
    rw [code_mnum ht hk hi]
    have := cnt_at lens k i hk hi
    omega
theorem code_uniq (ht : Tab lens) {i j k : Nat} (hk : 0 < k) (hi : lens[i]? = some k) (hj : lens[j]? = some k) (h : code lens i = code lens j) : i = j := by
  refine cnt_inj lens k hk hi hj ?_
  have h1 := code_mnum ht hk hi
  have h2 := code_mnum ht hk hj
  rw [h] at h1
  omega

/-- What a list of bits is to a table. -/
inductive Lk where
  | got (s n : Nat) | more | bad
def lookAt (lens : List Nat) (held : List Bool) : Lk :=
  match (List.range lens.length).find? (fun i => decide (code lens i ≠ []) && (code lens i).isPrefixOf held) with
  | some i => .got i (code lens i).length
  | none => if (List.range lens.length).any (fun i => decide (code lens i ≠ []) && held.isPrefixOf (code lens i)) then .more else .bad
inductive Dc where
  | got (s n : Nat) | more | bad (n : Nat)
/-- Bit by bit. -/
def decG (lens : List Nat) (bs : List Bool) : Nat → Nat → Dc
  | 0, _ => .more
  | f + 1, j => match lookAt lens (bs.take j) with
    | .got s n => .got s n
    | .bad => .bad j
    | .more => if j < bs.length then decG lens bs f (j + 1) else .more
def dec (lens : List Nat) (bs : List Bool) : Dc := decG lens bs (bs.length + 1) 0
/-- The program's test: a code of k bits begins the bits. -/
def hit (lens : List Nat) (bs : List Bool) (k : Nat) : Prop := fst_ lens k ≤ mnum (bs.take k) ∧ mnum (bs.take k) < fst_ lens k + cnt lens k
instance (lens : List Nat) (bs : List Bool) (k : Nat) : Decidable (hit lens bs k) := by unfold hit; exact inferInstance
/-- The program's begins. -/
def begs (lens : List Nat) (c n : Nat) : Prop := ∃ k, n < k ∧ k ≤ 15 ∧ 0 < cnt lens k ∧ c * 2 ^ (k - n) < fst_ lens k + cnt lens k ∧ fst_ lens k < c * 2 ^ (k - n) + 2 ^ (k - n)
theorem code_ne {i : Nat} (hi : i < lens.length) : code lens i ≠ [] ↔ ∃ k, 0 < k ∧ lens[i]? = some k := by
  have h1 : lens[i]? = some (lens.getD i 0) := by simp [List.getD, List.getElem?_eq_getElem hi]
  have h2 := code_length h1
  constructor
  · intro h
    refine ⟨_, ?_, h1⟩
    rcases Nat.eq_zero_or_pos (lens.getD i 0) with h3 | h3
    · rw [h3] at h2
      exact absurd (List.eq_nil_of_length_eq_zero h2) h
    · exact h3
  · rintro ⟨k, hk, h⟩ e
    have h3 := code_length h
    rw [e] at h3
    simp at h3
    omega
theorem look_got {held : List Bool} {s n : Nat} (h : lookAt lens held = .got s n) : ∃ k, 0 < k ∧ lens[s]? = some k ∧ n = k ∧ code lens s <+: held := by
  unfold lookAt at h
  split at h
  · rename_i i hi
    injection h with h1 h2
    subst h1 h2
    have h3 := List.find?_some hi
    have h4 := List.mem_of_find?_eq_some hi
    rw [Bool.and_eq_true, decide_eq_true_iff, List.isPrefixOf_iff_prefix] at h3
    obtain ⟨k, hk, h5⟩ := (code_ne (by simpa using h4)).1 h3.1
    exact ⟨k, hk, h5, code_length h5, h3.2⟩
  · split at h <;> cases h
theorem look_some {held : List Bool} {i k : Nat} (hk : 0 < k) (hi : lens[i]? = some k) (hp : code lens i <+: held) : ∃ s n, lookAt lens held = .got s n := by
  unfold lookAt
  cases hf : (List.range lens.length).find? (fun i => decide (code lens i ≠ []) && (code lens i).isPrefixOf held) with
  | some s => exact ⟨s, _, rfl⟩
  | none =>
    have hil := (List.getElem?_eq_some_iff.1 hi).1
    have := List.find?_eq_none.1 hf i (by simpa using hil)
    rw [Bool.and_eq_true, decide_eq_true_iff, List.isPrefixOf_iff_prefix] at this
    exact absurd ⟨(code_ne hil).2 ⟨k, hk, hi⟩, hp⟩ this
theorem look_more {held : List Bool} (h0 : ∀ i k, 0 < k → lens[i]? = some k → ¬ code lens i <+: held) : (lookAt lens held = .more ∧ ∃ i k, 0 < k ∧ lens[i]? = some k ∧ held <+: code lens i) ∨ (lookAt lens held = .bad ∧ ∀ i k, 0 < k → lens[i]? = some k → ¬ held <+: code lens i) := by
  have hn : (List.range lens.length).find? (fun i => decide (code lens i ≠ []) && (code lens i).isPrefixOf held) = none := by
    rw [List.find?_eq_none]
    intro i hi
    rw [Bool.and_eq_true, decide_eq_true_iff, List.isPrefixOf_iff_prefix]
    rintro ⟨h1, h2⟩
    obtain ⟨k, hk, h3⟩ := (code_ne (by simpa using hi)).1 h1
    exact h0 i k hk h3 h2
  unfold lookAt
  rw [hn]
  dsimp only
  cases ha : (List.range lens.length).any (fun i => decide (code lens i ≠ []) && held.isPrefixOf (code lens i)) with
  | true =>
    left
    refine ⟨if_pos rfl, ?_⟩
    obtain ⟨i, hi, hc⟩ := List.any_eq_true.1 ha
    rw [Bool.and_eq_true, decide_eq_true_iff, List.isPrefixOf_iff_prefix] at hc
    obtain ⟨k, hk, h3⟩ := (code_ne (by simpa using hi)).1 hc.1
    exact ⟨i, k, hk, h3, hc.2⟩
  | false =>
    right
    refine ⟨if_neg (by simp), fun i k hk hi hp => ?_⟩
    have hil := (List.getElem?_eq_some_iff.1 hi).1
    have := List.any_eq_false.1 ha i (by simpa using hil)
    rw [Bool.and_eq_true, decide_eq_true_iff, List.isPrefixOf_iff_prefix] at this
    exact this ⟨(code_ne hil).2 ⟨k, hk, hi⟩, hp⟩
end
end Go.Proofs.YtjjcemdoefigkaaDoor.Hf
/- The program's reading of a symbol is the document's (plain). -/
namespace Go.Proofs.YtjjcemdoefigkaaDoor.Hf
set_option linter.unusedVariables false
set_option linter.unusedSimpArgs false

section
variable {lens : List Nat}
theorem hit_code (ht : Tab lens) {bs : List Bool} {k : Nat} (hk : 0 < k) (hl : k ≤ bs.length) (h15 : k ≤ 15) : hit lens bs k ↔ ∃ i, lens[i]? = some k ∧ code lens i = bs.take k :=
  code_iff ht (by simp; omega) hk h15
theorem pre_hit (ht : Tab lens) {bs : List Bool} {j i k : Nat} (hk : 0 < k) (hi : lens[i]? = some k) (hp : code lens i <+: bs.take j) : k ≤ j ∧ k ≤ bs.length ∧ k ≤ 15 ∧ hit lens bs k := by
  have h1 := hp.length_le
  rw [code_length hi, List.length_take] at h1
  have h15 := ht.le k (List.mem_of_getElem? hi)
  refine ⟨by omega, by omega, h15, (hit_code ht hk (by omega) h15).2 ⟨i, hi, ?_⟩⟩
  have h2 := List.prefix_iff_eq_take.1 hp
  rw [code_length hi, List.take_take, Nat.min_eq_left (by omega)] at h2
  exact h2
theorem decG_hit (ht : Tab lens) {bs : List Bool} {k s : Nat} (hk : 0 < k) (hl : k ≤ bs.length) (hs : lens[s]? = some k) (hc : code lens s = bs.take k) (hmin : ∀ k', 0 < k' → k' < k → ¬ hit lens bs k') :
    ∀ d j f, j + d = k → d < f → decG lens bs f j = .got s k := by
  intro d
  induction d with
  | zero =>
    intro j f hj hf
    obtain rfl : j = k := by omega
    obtain ⟨f, rfl⟩ : ∃ g, f = g + 1 := ⟨f - 1, by omega⟩
    obtain ⟨s', n, h1⟩ := look_some (held := bs.take j) hk hs (by rw [hc]; exact List.prefix_refl _)
    obtain ⟨k', h2, h3, rfl, h4⟩ := look_got h1
    obtain ⟨h5, _, _, h6⟩ := pre_hit ht h2 h3 h4
    have h7 : n = j := by
      rcases Nat.lt_or_ge n j with h | h
      · exact absurd h6 (hmin n h2 h)
      · omega
    subst h7
    have h8 := List.prefix_iff_eq_take.1 h4
    rw [code_length h3, List.take_take, Nat.min_self] at h8
    obtain rfl : s' = s := code_uniq ht hk h3 hs (by rw [h8, hc])
    rw [decG, h1]
  | succ d ih =>
    intro j f hj hf
    obtain ⟨f, rfl⟩ : ∃ g, f = g + 1 := ⟨f - 1, by omega⟩
    have hno : ∀ i k', 0 < k' → lens[i]? = some k' → ¬ code lens i <+: bs.take j := fun i k' h1 h2 h3 => by
      obtain ⟨h4, _, _, h5⟩ := pre_hit ht h1 h2 h3
      exact hmin k' h1 (by omega) h5
    rcases look_more hno with ⟨h1, _⟩ | ⟨_, h1⟩
    · rw [decG, h1]
      dsimp only
      rw [if_pos (by omega)]
      exact ih (j + 1) f (by omega) (by omega)
    · refine absurd ?_ (h1 s k hk hs)
      rw [hc, ← Nat.min_eq_left (show j ≤ k by omega), ← List.take_take]
      exact List.take_prefix _ _
theorem dec_hit (ht : Tab lens) {bs : List Bool} {k : Nat} (hk : 0 < k) (hl : k ≤ bs.length) (h15 : k ≤ 15) (hh : hit lens bs k) (hmin : ∀ k', 0 < k' → k' < k → ¬ hit lens bs k') :
    ∃ s, dec lens bs = .got s k ∧ lens[s]? = some k ∧ code lens s = bs.take k := by
  obtain ⟨s, h1, h2⟩ := (hit_code ht hk hl h15).1 hh
  exact ⟨s, decG_hit ht hk hl h1 h2 hmin k 0 _ (by omega) (by omega), h1, h2⟩
theorem decG_none {bs : List Bool} (hno : ∀ j i k, 0 < k → lens[i]? = some k → ¬ code lens i <+: bs.take j) : ∀ d j f, j + d = bs.length → d < f →
    (decG lens bs f j = .more ∧ ∃ i k, 0 < k ∧ lens[i]? = some k ∧ bs <+: code lens i) ∨ (∃ j', decG lens bs f j = .bad j' ∧ j ≤ j' ∧ j' ≤ bs.length ∧ ∀ i k, 0 < k → lens[i]? = some k → ¬ bs.take j' <+: code lens i) := by
  intro d
  induction d with
  | zero =>
    intro j f hj hf
    obtain rfl : j = bs.length := by omega
    obtain ⟨f, rfl⟩ : ∃ g, f = g + 1 := ⟨f - 1, by omega⟩
    rcases look_more (hno bs.length) with ⟨h1, h2⟩ | ⟨h1, h2⟩
    · left
      rw [List.take_length] at h2
      refine ⟨?_, h2⟩
      rw [decG, h1]
      dsimp only
      rw [if_neg (by omega)]
    · right
      refine ⟨bs.length, ?_, Nat.le_refl _, Nat.le_refl _, h2⟩
      rw [decG, h1]
  | succ d ih =>
    intro j f hj hf
    obtain ⟨f, rfl⟩ : ∃ g, f = g + 1 := ⟨f - 1, by omega⟩
    rcases look_more (hno j) with ⟨h1, _⟩ | ⟨h1, h2⟩
    · have h3 := ih (j + 1) f (by omega) (by omega)
      have e : decG lens bs (f + 1) j = decG lens bs f (j + 1) := by
        rw [decG, h1]
        dsimp only
        rw [if_pos (by omega)]
      rw [e]
      rcases h3 with h3 | ⟨j', h3, h4, h5, h6⟩
      · exact .inl h3
      · exact .inr ⟨j', h3, by omega, h5, h6⟩
    · right
      refine ⟨j, ?_, Nat.le_refl _, by omega, h2⟩
      rw [decG, h1]
theorem dec_none (ht : Tab lens) {bs : List Bool} (hn : ∀ k, 0 < k → k ≤ 15 → k ≤ bs.length → ¬ hit lens bs k) :
    (dec lens bs = .more ∧ begs lens (mnum (bs.take (min bs.length 15))) (min bs.length 15)) ∨ (∃ j, dec lens bs = .bad j ∧ j ≤ bs.length ∧ ¬ begs lens (mnum (bs.take (min bs.length 15))) (min bs.length 15)) := by
  have hno : ∀ j i k, 0 < k → lens[i]? = some k → ¬ code lens i <+: bs.take j := fun j i k h1 h2 h3 => by
    obtain ⟨_, h4, h5, h6⟩ := pre_hit ht h1 h2 h3
    exact hn k h1 h5 h4 h6
  rcases decG_none hno bs.length 0 (bs.length + 1) (by omega) (by omega) with ⟨h1, i, k, hk, hi, hp⟩ | ⟨j', h1, _, h3, h4⟩
  · left
    refine ⟨h1, ?_⟩
    have h15 := ht.le k (List.mem_of_getElem? hi)
    have hle := hp.length_le
    rw [code_length hi] at hle
    have hlt : bs.length < k := by
      rcases Nat.lt_or_ge bs.length k with h | h
      · exact h
      · have e : k = bs.length := by omega
        refine absurd ((hit_code ht hk (by omega) h15).2 ⟨i, hi, ?_⟩) (hn k hk h15 (by omega))
        rw [e, List.take_length]
        exact (hp.eq_of_length (by rw [code_length hi]; omega)).symm
    rw [Nat.min_eq_left (by omega), List.take_length]
    obtain ⟨r, hr⟩ := hp
    have hrl : r.length = k - bs.length := by
      have := congrArg List.length hr
      rw [List.length_append, code_length hi] at this
      omega
    have hm := code_mnum ht hk hi
    rw [← hr, mnum_append, hrl] at hm
    have hlt2 := mnum_lt r
    rw [hrl] at hlt2
    have hca := cnt_at lens k i hk hi
    exact ⟨k, hlt, h15, by omega, by omega, by omega⟩
  · right
    refine ⟨j', h1, h3, ?_⟩
    rintro ⟨k, hk, h15, hc, hlo, hhi⟩
    generalize hn' : min bs.length 15 = n at hk hlo hhi
    have hnb : n = bs.length := by omega
    have hfl := fst_le ht.kr k h15
    obtain ⟨x, hx⟩ : ∃ x, x = max (fst_ lens k) (mnum (bs.take n) * 2 ^ (k - n)) := ⟨_, rfl⟩
    have hx1 : fst_ lens k ≤ x ∧ x < fst_ lens k + cnt lens k := by omega
    have hx2 : mnum (bs.take n) * 2 ^ (k - n) ≤ x ∧ x < mnum (bs.take n) * 2 ^ (k - n) + 2 ^ (k - n) := by
      have := Nat.two_pow_pos (k - n)
      omega
    have hxk : x < 2 ^ k := by omega
    obtain ⟨i, hi, hci⟩ := (code_iff ht (msb_length k x) (by omega) h15).1 (by rw [mnum_msb k x hxk]; exact hx1)
    refine h4 i k (by omega) hi ?_
    have hpre : (msb k x).take n = bs.take n := by
      refine mnum_inj _ _ (by rw [List.length_take, List.length_take, msb_length]; omega) ?_
      have h5 := mnum_append ((msb k x).take n) ((msb k x).drop n)
      rw [List.take_append_drop, mnum_msb k x hxk, List.length_drop, msb_length] at h5
      have h6 := mnum_lt ((msb k x).drop n)
      rw [List.length_drop, msb_length] at h6
      have hpos := Nat.two_pow_pos (k - n)
      have h7 : x / 2 ^ (k - n) = mnum ((msb k x).take n) := by
        generalize mnum ((msb k x).take n) = y1 at h5 ⊢
        generalize mnum ((msb k x).drop n) = y2 at h5 h6
        rw [h5, Nat.add_comm, Nat.add_mul_div_right _ _ hpos, Nat.div_eq_of_lt h6, Nat.zero_add]
      have h8 : x / 2 ^ (k - n) = mnum (bs.take n) := by
        obtain ⟨y, hy⟩ : ∃ y, x = mnum (bs.take n) * 2 ^ (k - n) + y := ⟨x - mnum (bs.take n) * 2 ^ (k - n), by omega⟩
        rw [hy, Nat.add_comm, Nat.add_mul_div_right _ _ hpos, Nat.div_eq_of_lt (by omega), Nat.zero_add]
      rw [← h7, h8]
    rw [hci]
    have h9 : bs.take j' <+: bs.take n := by
      rw [← Nat.min_eq_left (show j' ≤ n by omega), ← List.take_take]
      exact List.take_prefix _ _
    rw [← hpre] at h9
    exact h9.trans (List.take_prefix _ _)
/-- More bits tell the same, unless more were needed. -/
theorem decG_more {bs cs : List Bool} : ∀ f g j, f ≤ g → j + f = bs.length + 1 → decG lens bs f j ≠ .more → decG lens (bs ++ cs) g j = decG lens bs f j := by
  intro f
  induction f with
  | zero => intro g j _ _ h; exact absurd rfl h
  | succ f ih =>
    intro g j hg hj h
    obtain ⟨g, rfl⟩ : ∃ g', g = g' + 1 := ⟨g - 1, by omega⟩
    have e : (bs ++ cs).take j = bs.take j := List.take_append_of_le_length (by omega)
    rw [decG] at h ⊢
    rw [decG, e]
    cases hl : lookAt lens (bs.take j) with
    | got s n => rfl
    | bad => rfl
    | more =>
      rw [hl] at h
      dsimp only at h ⊢
      by_cases hb : j < bs.length
      · rw [if_pos hb] at h ⊢
        rw [if_pos (by rw [List.length_append]; omega)]
        exact ih g (j + 1) (by omega) (by omega) h
      · rw [if_neg hb] at h
        exact absurd rfl h
theorem dec_more {bs cs : List Bool} (h : dec lens bs ≠ .more) : dec lens (bs ++ cs) = dec lens bs :=
  decG_more _ _ 0 (by rw [List.length_append]; omega) (by omega) h
end
end Go.Proofs.YtjjcemdoefigkaaDoor.Hf
