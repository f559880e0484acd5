/- Prefix codes out of lengths (plain). -/
import Derived.WalkKit
namespace Go.Proofs.YtdpnlmofkkdioaaDoor.Hf
set_option linter.unusedVariables false
set_option linter.unusedSimpArgs false

theorem rev_ind {α : Type} {P : List α → Prop} (nil : P []) (snoc : ∀ l b, P l → P (l ++ [b])) (l : List α) : P l := by
  rw [← List.reverse_reverse l]
  induction l.reverse with
  | nil => exact nil
  | cons b r ih => rw [List.reverse_cons]; exact snoc _ _ ih
/-- The number of bits, the first one the lowest. -/
def num : List Bool → Nat
  | [] => 0
  | b :: r => b.toNat + 2 * num r
/-- The number of bits, the first one the highest. -/
def mnum (l : List Bool) : Nat := l.foldl (fun v b => 2 * v + b.toNat) 0
theorem num_lt : ∀ l, num l < 2 ^ l.length := by
  intro l
  induction l with
  | nil => simp [num]
  | cons b r ih =>
    simp only [num, List.length_cons, Nat.pow_succ]
    cases b <;> simp <;> omega
theorem num_append : ∀ a b, num (a ++ b) = num a + 2 ^ a.length * num b := by
  intro a
  induction a with
  | nil => intro b; simp [num]
  | cons x a ih =>
    intro b
    simp only [List.cons_append, num, ih, List.length_cons, Nat.pow_succ]
    rw [Nat.mul_add, ← Nat.mul_assoc, Nat.mul_comm 2 (2 ^ a.length)]
    omega
theorem num_take (l : List Bool) (k : Nat) (h : k ≤ l.length) : num (l.take k) = num l % 2 ^ k := by
  conv => rhs; rw [← List.take_append_drop k l]
  rw [num_append, show (l.take k).length = k by simp; omega, Nat.add_mul_mod_self_left, Nat.mod_eq_of_lt]
  have := num_lt (l.take k)
  rwa [show (l.take k).length = k by simp; omega] at this
theorem num_drop (l : List Bool) (k : Nat) (h : k ≤ l.length) : num (l.drop k) = num l / 2 ^ k := by
  conv => rhs; rw [← List.take_append_drop k l]
  rw [num_append, show (l.take k).length = k by simp; omega, Nat.add_mul_div_left _ _ (Nat.two_pow_pos k), Nat.div_eq_of_lt, Nat.zero_add]
  have := num_lt (l.take k)
  rwa [show (l.take k).length = k by simp; omega] at this
theorem mnum_fold : ∀ (l : List Bool) (v : Nat), l.foldl (fun v b => 2 * v + b.toNat) v = v * 2 ^ l.length + mnum l := by
  intro l
  induction l with
  | nil => intro v; simp [mnum]
  | cons b r ih =>
    intro v
    have h1 := ih (2 * v + b.toNat)
    have h2 := ih (2 * 0 + b.toNat)
    unfold mnum
    simp only [List.foldl_cons] at h1 h2 ⊢
    rw [h1, h2, List.length_cons, Nat.pow_succ, Nat.add_mul, Nat.mul_zero, Nat.zero_add, Nat.mul_comm 2 v, Nat.mul_assoc, Nat.mul_comm 2 (2 ^ r.length)]
    omega
theorem mnum_append (a b : List Bool) : mnum (a ++ b) = mnum a * 2 ^ b.length + mnum b := by
  show (a ++ b).foldl _ 0 = _
  rw [List.foldl_append, mnum_fold]
  rfl
theorem mnum_snoc (a : List Bool) (b : Bool) : mnum (a ++ [b]) = 2 * mnum a + b.toNat := by
  rw [mnum_append]
  cases b <;> simp [mnum] <;> omega
theorem mnum_lt (l : List Bool) : mnum l < 2 ^ l.length := by
  induction l using rev_ind with
  | nil => simp [mnum]
  | snoc l b ih =>
    rw [mnum_snoc, List.length_append, List.length_singleton, Nat.pow_succ]
    cases b <;> simp <;> omega
/-- The bits of a number, the highest first. -/
def msb : Nat → Nat → List Bool
  | 0, _ => []
  | n + 1, x => msb n (x / 2) ++ [decide (x % 2 = 1)]
theorem msb_length : ∀ n x, (msb n x).length = n := by
  intro n
  induction n with
  | zero => intro x; rfl
  | succ n ih => intro x; simp [msb, ih]
theorem mnum_msb : ∀ n x, x < 2 ^ n → mnum (msb n x) = x := by
  intro n
  induction n with
  | zero => intro x h; simp at h; subst h; rfl
  | succ n ih =>
    intro x h
    rw [msb, mnum_snoc, ih (x / 2) (by rw [Nat.pow_succ] at h; omega)]
    rcases Nat.mod_two_eq_zero_or_one x with h1 | h1 <;> simp [h1] <;> omega
theorem mnum_inj : ∀ (a b : List Bool), a.length = b.length → mnum a = mnum b → a = b := by
  intro a
  induction a using rev_ind with
  | nil => intro b h _; exact (List.eq_nil_of_length_eq_zero h.symm).symm
  | snoc a x ih =>
    intro b h e
    obtain ⟨b', y, rfl⟩ : ∃ b' y, b = b' ++ [y] := by
      rcases List.eq_nil_or_concat b with rfl | ⟨b', y, rfl⟩
      · simp at h
      · exact ⟨b', y, by simp⟩
    rw [mnum_snoc, mnum_snoc] at e
    have h1 : a.length = b'.length := by simpa using h
    have hxy : x.toNat = y.toNat := by have h2 := Bool.toNat_le x; have h3 := Bool.toNat_le y; omega
    have hxy : x = y := by revert hxy; cases x <;> cases y <;> simp
    subst hxy
    rw [ih b' h1 (by omega)]

/-- How many symbols have a code of n bits. -/
def cnt (lens : List Nat) (n : Nat) : Nat := (lens.filter fun m => decide (m = n ∧ 0 < n)).length
/-- Of each length the first code. -/
def fst_ (lens : List Nat) : Nat → Nat
  | 0 => 0
  | n + 1 => 2 * (fst_ lens n + cnt lens n)
/-- A symbol's number among those of its length. -/
def codeN (lens : List Nat) (i : Nat) : Nat := fst_ lens (lens.getD i 0) + cnt (lens.take i) (lens.getD i 0)
/-- A symbol's code; none: []. -/
def code (lens : List Nat) (i : Nat) : List Bool := msb (lens.getD i 0) (codeN lens i)
def kraft (lens : List Nat) : Nat := (lens.map fun n => if 0 < n then 2 ^ (15 - n) else 0).sum
theorem cnt_cons (m : Nat) (lens : List Nat) (n : Nat) : cnt (m :: lens) n = (if m = n ∧ 0 < n then 1 else 0) + cnt lens n := by
  unfold cnt
  rw [List.filter_cons]
  by_cases h : m = n ∧ 0 < n
  · rw [if_pos (by simpa using h), if_pos h, List.length_cons]; omega
  · rw [if_neg (by simpa using h), if_neg h]; omega
theorem cnt_zero (lens : List Nat) : cnt lens 0 = 0 := by
  unfold cnt
  rw [List.filter_eq_nil_iff.2 (by intro a _; simp)]
  rfl
def wsum (lens : List Nat) : Nat → Nat
  | 0 => 0
  | n + 1 => wsum lens n + cnt lens (n + 1) * 2 ^ (15 - (n + 1))
theorem wsum_cons (m : Nat) (lens : List Nat) : ∀ k, wsum (m :: lens) k = (if 0 < m ∧ m ≤ k then 2 ^ (15 - m) else 0) + wsum lens k := by
  intro k
  induction k with
  | zero => rw [if_neg (by omega)]; rfl
  | succ k ih =>
    rw [wsum, wsum, ih, cnt_cons, Nat.add_mul]
    by_cases h1 : m = k + 1
    · subst h1
      rw [if_neg (by omega), if_pos (by omega), if_pos (by omega)]
      omega
    · rw [if_neg (show ¬ (m = k + 1 ∧ 0 < k + 1) by omega)]
      by_cases h2 : 0 < m ∧ m ≤ k
      · rw [if_pos h2, if_pos (by omega)]; omega
      · rw [if_neg h2, if_neg (by omega)]; omega
theorem wsum_le_kraft (lens : List Nat) (k : Nat) : wsum lens k ≤ kraft lens := by
  induction lens with
  | nil =>
    have : wsum [] k = 0 := by
      induction k with
      | zero => rfl
      | succ k ih => rw [wsum, ih]; simp [cnt]
    omega
  | cons m lens ih =>
    rw [wsum_cons]
    have e : kraft (m :: lens) = (if 0 < m then 2 ^ (15 - m) else 0) + kraft lens := by simp [kraft]
    rw [e]
    by_cases h : 0 < m ∧ m ≤ k
    · rw [if_pos h, if_pos h.1]; omega
    · rw [if_neg h]; omega
theorem fst_wsum (lens : List Nat) : ∀ k, k ≤ 15 → fst_ lens k * 2 ^ (15 - k) + cnt lens k * 2 ^ (15 - k) = wsum lens k := by
  intro k
  induction k with
  | zero => intro _; simp [fst_, cnt_zero, wsum]
  | succ k ih =>
    intro h
    have h1 := ih (by omega)
    have e : 2 ^ (15 - k) = 2 * 2 ^ (15 - (k + 1)) := by rw [← Nat.pow_succ']; congr 1; omega
    rw [fst_, wsum, ← h1, e]
    generalize 2 ^ (15 - (k + 1)) = z
    rw [Nat.mul_assoc, Nat.add_mul, Nat.mul_add, Nat.mul_left_comm, Nat.mul_left_comm 2 (cnt lens k)]
/-- The numbers of the codes of k bits have k bits. -/
theorem fst_le {lens : List Nat} (hk : kraft lens ≤ 2 ^ 15) (k : Nat) (h : k ≤ 15) : fst_ lens k + cnt lens k ≤ 2 ^ k := by
  have h1 := fst_wsum lens k h
  have h2 := wsum_le_kraft lens k
  have e : 2 ^ k * 2 ^ (15 - k) = 2 ^ 15 := by rw [← Nat.pow_add]; congr 1; omega
  have h3 : (fst_ lens k + cnt lens k) * 2 ^ (15 - k) ≤ 2 ^ k * 2 ^ (15 - k) := by rw [e, Nat.add_mul]; omega
  exact Nat.le_of_mul_le_mul_right h3 (Nat.two_pow_pos _)
end Go.Proofs.YtdpnlmofkkdioaaDoor.Hf
