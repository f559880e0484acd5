/- Reverse's numbers (plain). -/
import Derived.Test.YtjjcemdoefigkaaDoorIf
namespace Go.Proofs.YtjjcemdoefigkaaDoor.Hf
set_option linter.unusedVariables false
set_option linter.unusedSimpArgs false
open Go.RowKit Go.Proofs.YtjjcemdoefigkaaDoor.W

theorem revN_zero : revN 0 = 0 := by decide
theorem revN_pow : ∀ k : _root_.Fin 15, revN (2 ^ k.val) = 2 ^ (31 - k.val) := by decide +kernel
theorem or_add {a b i : Nat} (h : a < 2 ^ i) : b * 2 ^ i ||| a = b * 2 ^ i + a := by
  rw [← Nat.shiftLeft_eq, Nat.shiftLeft_add_eq_or_of_lt h]
theorem revN_num : ∀ (l : List Bool), l.length ≤ 15 → revN (num l) = mnum l * 2 ^ (32 - l.length) := by
  intro l
  induction l using rev_ind with
  | nil => intro _; rfl
  | snoc l b ih =>
    intro h
    rw [List.length_append, List.length_singleton] at h
    have h1 := ih (by omega)
    have hlt := num_lt l
    have e1 : num (l ++ [b]) = b.toNat * 2 ^ l.length ||| num l := by
      rw [or_add hlt, num_append]
      cases b <;> simp [num] <;> omega
    have e2 : 2 ^ (32 - l.length) = 2 * 2 ^ (31 - l.length) := by rw [← Nat.pow_succ']; congr 1; omega
    rw [e1, revN_or, h1, mnum_snoc, List.length_append, List.length_singleton, show 32 - (l.length + 1) = 31 - l.length by omega]
    cases b with
    | false =>
      rw [show false.toNat = 0 from rfl, Nat.zero_mul, revN_zero, Nat.zero_or, e2, Nat.add_zero]
      rw [Nat.mul_comm 2 (mnum l), Nat.mul_assoc]
    | true =>
      have h2 := revN_pow ⟨l.length, by omega⟩
      dsimp only at h2
      rw [show true.toNat = 1 from rfl, Nat.one_mul, h2, Nat.or_comm, or_add (by rw [e2]; have := Nat.two_pow_pos (31 - l.length); omega), e2, Nat.add_mul, Nat.one_mul, Nat.mul_comm 2 (mnum l), Nat.mul_assoc]
theorem revN_take (l : List Bool) (n : Nat) (h : l.length ≤ 15) (hn : n ≤ l.length) : revN (num l) / 2 ^ (32 - n) = mnum (l.take n) := by
  rw [revN_num l h]
  have e1 := mnum_append (l.take n) (l.drop n)
  rw [List.take_append_drop, List.length_drop] at e1
  have h2 := mnum_lt (l.drop n)
  rw [List.length_drop] at h2
  have e2 : 2 ^ (32 - n) = 2 ^ (l.length - n) * 2 ^ (32 - l.length) := by rw [← Nat.pow_add]; congr 1; omega
  have hp := Nat.two_pow_pos (32 - l.length)
  rw [e1, e2, Nat.mul_div_mul_right _ _ hp, Nat.add_comm, Nat.add_mul_div_right _ _ (Nat.two_pow_pos _), Nat.div_eq_of_lt h2, Nat.zero_add]
end Go.Proofs.YtjjcemdoefigkaaDoor.Hf
