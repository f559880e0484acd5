/- What bits are to a table of codes (plain). -/
import Derived.Test.YtdpnlmofkkdioaaDoorIa
namespace Go.Proofs.YtdpnlmofkkdioaaDoor.Hf
set_option linter.unusedVariables false
set_option linter.unusedSimpArgs false

theorem cnt_find : ∀ (lens : List Nat) (k r : Nat), 0 < k → r < cnt lens k → ∃ i, lens[i]? = some k ∧ cnt (lens.take i) k = r := by
  intro lens
  induction lens with
  | nil => intro k r _ h; simp [cnt] at h
  | cons m lens ih =>
    intro k r hk h
    rw [cnt_cons] at h
    by_cases hm : m = k
    · subst hm
      rw [if_pos ⟨rfl, hk⟩] at h
      cases r with
      | zero => exact ⟨0, rfl, by simp [cnt]⟩
      | succ r =>
        obtain ⟨i, h1, h2⟩ := ih m r hk (by omega)
        exact ⟨i + 1, by simpa using h1, by rw [List.take_succ_cons, cnt_cons, if_pos ⟨rfl, hk⟩, h2]; omega⟩
    · rw [if_neg (by omega)] at h
      obtain ⟨i, h1, h2⟩ := ih k r hk (by omega)
      exact ⟨i + 1, by simpa using h1, by rw [List.take_succ_cons, cnt_cons, if_neg (by omega), h2]; omega⟩
theorem cnt_at : ∀ (lens : List Nat) (k i : Nat), 0 < k → lens[i]? = some k → cnt (lens.take i) k < cnt lens k := by
  intro lens
  induction lens with
  | nil => intro k i _ h; simp at h
  | cons m lens ih =>
    intro k i hk h
    cases i with
    | zero =>
      simp at h
      subst h
      rw [cnt_cons, if_pos ⟨rfl, hk⟩]
      simp [cnt]
      omega
    | succ i =>
      have := ih k i hk (by simpa using h)
      rw [List.take_succ_cons, cnt_cons, cnt_cons]
      omega
theorem cnt_mono (lens : List Nat) (k : Nat) {i j : Nat} (h : i ≤ j) : cnt (lens.take i) k ≤ cnt (lens.take j) k := by
  unfold cnt
  have h1 : lens.take i <+: lens.take j := by
    rw [← Nat.min_eq_left h, ← List.take_take]
    exact List.take_prefix _ _
  exact (h1.sublist.filter _).length_le
theorem cnt_lt (lens : List Nat) (k : Nat) {i j : Nat} (hk : 0 < k) (hi : lens[i]? = some k) (h : i < j) : cnt (lens.take i) k < cnt (lens.take j) k := by
  have h1 : (lens.take j)[i]? = some k := by rw [List.getElem?_take, if_pos h]; exact hi
  have h2 := cnt_at (lens.take j) k i hk h1
  rwa [List.take_take, Nat.min_eq_left (Nat.le_of_lt h)] at h2
theorem cnt_inj (lens : List Nat) (k : Nat) {i j : Nat} (hk : 0 < k) (hi : lens[i]? = some k) (hj : lens[j]? = some k) (h : cnt (lens.take i) k = cnt (lens.take j) k) : i = j := by
  rcases Nat.lt_trichotomy i j with h1 | h1 | h1
  · have := cnt_lt lens k hk hi h1; omega
  · exact h1
  · have := cnt_lt lens k hk hj h1; omega

/-- Lengths of which a table can be made. -/
structure Tab (lens : List Nat) : Prop where
  le : ∀ n ∈ lens, n ≤ 15
  kr : kraft lens ≤ 2 ^ 15
section
variable {lens : List Nat}
theorem getD_of {i k : Nat} (h : lens[i]? = some k) : lens.getD i 0 = k := by simp [List.getD, h]
theorem code_of {i k : Nat} (h : lens[i]? = some k) : code lens i = msb k (fst_ lens k + cnt (lens.take i) k) := by
  unfold code codeN
  rw [getD_of h]
theorem code_length {i k : Nat} (h : lens[i]? = some k) : (code lens i).length = k := by rw [code_of h, msb_length]
theorem code_mnum (ht : Tab lens) {i k : Nat} (hk : 0 < k) (h : lens[i]? = some k) : mnum (code lens i) = fst_ lens k + cnt (lens.take i) k := by
  rw [code_of h, mnum_msb]
  have h1 := cnt_at lens k i hk h
  have h2 := fst_le ht.kr k (ht.le k (List.mem_of_getElem? h))
  omega
/-- A code of k bits is one whose number lies in the range. -/
theorem code_iff (ht : Tab lens) {l : List Bool} {k : Nat} (hl : l.length = k) (hk : 0 < k) (h15 : k ≤ 15) :
    (fst_ lens k ≤ mnum l ∧ mnum l < fst_ lens k + cnt lens k) ↔ ∃ i, lens[i]? = some k ∧ code lens i = l := by
  constructor
  · rintro ⟨h1, h2⟩
    obtain ⟨i, hi, hc⟩ := cnt_find lens k (mnum l - fst_ lens k) hk (by omega)
    refine ⟨i, hi, mnum_inj _ _ (by rw [code_length hi, hl]) ?_⟩
    rw [code_mnum ht hk hi, hc]
    omega
  · rintro ⟨i, hi, rfl⟩
    rw [code_mnum ht hk hi]
    have := cnt_at lens k i hk hi
    omega
theorem code_uniq (ht : Tab lens) {i j k : Nat} (hk : 0 < k) (hi : lens[i]? = some k) (hj : lens[j]? = some k) (h : code lens i = code lens j) : i = j := by
  refine cnt_inj lens k hk hi hj ?_
  have h1 := code_mnum ht hk hi
  have h2 := code_mnum ht hk hj
  rw [h] at h1
  omega

/-- What a list of bits is to a table. -/
inductive Lk where
  | got (s n : Nat) | more | bad
def lookAt (lens : List Nat) (held : List Bool) : Lk :=
  match (List.range lens.length).find? (fun i => decide (code lens i ≠ []) && (code lens i).isPrefixOf held) with
  | some i => .got i (code lens i).length
  | none => if (List.range lens.length).any (fun i => decide (code lens i ≠ []) && held.isPrefixOf (code lens i)) then .more else .bad
inductive Dc where
  | got (s n : Nat) | more | bad (n : Nat)
/-- Bit by bit. -/
def decG (lens : List Nat) (bs : List Bool) : Nat → Nat → Dc
  | 0, _ => .more
  | f + 1, j => match lookAt lens (bs.take j) with
    | .got s n => .got s n
    | .bad => .bad j
    | .more => if j < bs.length then decG lens bs f (j + 1) else .more
def dec (lens : List Nat) (bs : List Bool) : Dc := decG lens bs (bs.length + 1) 0
/-- The program's test: a code of k bits begins the bits. -/
def hit (lens : List Nat) (bs : List Bool) (k : Nat) : Prop := fst_ lens k ≤ mnum (bs.take k) ∧ mnum (bs.take k) < fst_ lens k + cnt lens k
instance (lens : List Nat) (bs : List Bool) (k : Nat) : Decidable (hit lens bs k) := by unfold hit; exact inferInstance
/-- The program's begins. -/
def begs (lens : List Nat) (c n : Nat) : Prop := ∃ k, n < k ∧ k ≤ 15 ∧ 0 < cnt lens k ∧ c * 2 ^ (k - n) < fst_ lens k + cnt lens k ∧ fst_ lens k < c * 2 ^ (k - n) + 2 ^ (k - n)
theorem code_ne {i : Nat} (hi : i < lens.length) : code lens i ≠ [] ↔ ∃ k, 0 < k ∧ lens[i]? = some k := by
  have h1 : lens[i]? = some (lens.getD i 0) := by simp [List.getD, List.getElem?_eq_getElem hi]
  have h2 := code_length h1
  constructor
  · intro h
    refine ⟨_, ?_, h1⟩
    rcases Nat.eq_zero_or_pos (lens.getD i 0) with h3 | h3
    · rw [h3] at h2
      exact absurd (List.eq_nil_of_length_eq_zero h2) h
    · exact h3
  · rintro ⟨k, hk, h⟩ e
    have h3 := code_length h
    rw [e] at h3
    simp at h3
    omega
theorem look_got {held : List Bool} {s n : Nat} (h : lookAt lens held = .got s n) : ∃ k, 0 < k ∧ lens[s]? = some k ∧ n = k ∧ code lens s <+: held := by
  unfold lookAt at h
  split at h
  · rename_i i hi
    injection h with h1 h2
    subst h1 h2
    have h3 := List.find?_some hi
    have h4 := List.mem_of_find?_eq_some hi
    rw [Bool.and_eq_true, decide_eq_true_iff, List.isPrefixOf_iff_prefix] at h3
    obtain ⟨k, hk, h5⟩ := (code_ne (by simpa using h4)).1 h3.1
    exact ⟨k, hk, h5, code_length h5, h3.2⟩
  · split at h <;> cases h
theorem look_some {held : List Bool} {i k : Nat} (hk : 0 < k) (hi : lens[i]? = some k) (hp : code lens i <+: held) : ∃ s n, lookAt lens held = .got s n := by
  unfold lookAt
  cases hf : (List.range lens.length).find? (fun i => decide (code lens i ≠ []) && (code lens i).isPrefixOf held) with
  | some s => exact ⟨s, _, rfl⟩
  | none =>
    have hil := (List.getElem?_eq_some_iff.1 hi).1
    have := List.find?_eq_none.1 hf i (by simpa using hil)
    rw [Bool.and_eq_true, decide_eq_true_iff, List.isPrefixOf_iff_prefix] at this
    exact absurd ⟨(code_ne hil).2 ⟨k, hk, hi⟩, hp⟩ this
theorem look_more {held : List Bool} (h0 : ∀ i k, 0 < k → lens[i]? = some k → ¬ code lens i <+: held) : (lookAt lens held = .more ∧ ∃ i k, 0 < k ∧ lens[i]? = some k ∧ held <+: code lens i) ∨ (lookAt lens held = .bad ∧ ∀ i k, 0 < k → lens[i]? = some k → ¬ held <+: code lens i) := by
  have hn : (List.range lens.length).find? (fun i => decide (code lens i ≠ []) && (code lens i).isPrefixOf held) = none := by
    rw [List.find?_eq_none]
    intro i hi
    rw [Bool.and_eq_true, decide_eq_true_iff, List.isPrefixOf_iff_prefix]
    rintro ⟨h1, h2⟩
    obtain ⟨k, hk, h3⟩ := (code_ne (by simpa using hi)).1 h1
    exact h0 i k hk h3 h2
  unfold lookAt
  rw [hn]
  dsimp only
  cases ha : (List.range lens.length).any (fun i => decide (code lens i ≠ []) && held.isPrefixOf (code lens i)) with
  | true =>
    left
    refine ⟨if_pos rfl, ?_⟩
    obtain ⟨i, hi, hc⟩ := List.any_eq_true.1 ha
    rw [Bool.and_eq_true, decide_eq_true_iff, List.isPrefixOf_iff_prefix] at hc
    obtain ⟨k, hk, h3⟩ := (code_ne (by simpa using hi)).1 hc.1
    exact ⟨i, k, hk, h3, hc.2⟩
  | false =>
    right
    refine ⟨if_neg (by simp), fun i k hk hi hp => ?_⟩
    have hil := (List.getElem?_eq_some_iff.1 hi).1
    have := List.any_eq_false.1 ha i (by simpa using hil)
    rw [Bool.and_eq_true, decide_eq_true_iff, List.isPrefixOf_iff_prefix] at this
    exact this ⟨(code_ne hil).2 ⟨k, hk, hi⟩, hp⟩
end
end Go.Proofs.YtdpnlmofkkdioaaDoor.Hf
