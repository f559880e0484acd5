/- Paths: which stands ahead, which below (plain). -/
import Derived.Test.YtgjningfpkoooaaDoorWords
namespace Go.Proofs.YtgjningfpkoooaaDoor.Ro
set_option linter.unusedVariables false
set_option linter.unusedSimpArgs false

/-- How many things stand at the beginning of both. -/
def com : List Int → List Int → Nat
  | x :: a, y :: b => if x = y then com a b + 1 else 0
  | _, _ => 0
def less : List Int → List Int → Bool
  | _, [] => false
  | [], _ :: _ => true
  | x :: a, y :: b => if x = y then less a b else decide (x < y)
def under : List Int → List Int → Bool
  | _, [] => true
  | [], _ :: _ => false
  | x :: a, y :: b => decide (x = y) && under a b
theorem com_le : ∀ (a b : List Int), com a b ≤ a.length ∧ com a b ≤ b.length
  | [], _ => by simp [com]
  | _ :: _, [] => by simp [com]
  | x :: a, y :: b => by
    have := com_le a b
    unfold com
    split <;> simp <;> omega
theorem com_same : ∀ (a b : List Int) (i : Nat), i < com a b → a[i]? = b[i]?
  | [], _, i, h => by simp [com] at h
  | _ :: _, [], i, h => by simp [com] at h
  | x :: a, y :: b, i, h => by
    unfold com at h
    split at h
    · rename_i hxy
      cases i with
      | zero => simp [hxy]
      | succ i => simpa using com_same a b i (by omega)
    · omega
theorem com_stop : ∀ (a b : List Int) (x y : Int), a[com a b]? = some x → b[com a b]? = some y → x ≠ y
  | [], _, x, y, h, _ => by simp at h
  | _ :: _, [], x, y, _, h => by simp at h
  | u :: a, v :: b, x, y, h1, h2 => by
    unfold com at h1 h2
    split at h1
    · rename_i hxy
      rw [if_pos hxy] at h2
      exact com_stop a b x y (by simpa using h1) (by simpa using h2)
    · rename_i hxy
      rw [if_neg hxy] at h2
      simp at h1 h2
      omega
theorem com_eq {a b : List Int} {n : Nat} (hs : ∀ i, i < n → a[i]? = b[i]?) (hn : n ≤ a.length ∧ n ≤ b.length) (he : n = a.length ∨ n = b.length ∨ a[n]? ≠ b[n]?) : com a b = n := by
  have h1 := com_le a b
  rcases Nat.lt_trichotomy (com a b) n with h | h | h
  · exfalso
    have h2 := hs _ h
    obtain ⟨x, hx⟩ : ∃ x, a[com a b]? = some x := ⟨_, List.getElem?_eq_getElem (by omega)⟩
    exact com_stop a b x x hx (by rw [← h2]; exact hx) rfl
  · exact h
  · exfalso
    rcases he with he | he | he
    · omega
    · omega
    · exact he (com_same a b n h)
theorem less_com : ∀ (a b : List Int), less a b = if com a b = a.length ∨ com a b = b.length then decide (a.length < b.length) else decide (a.getD (com a b) 0 < b.getD (com a b) 0)
  | [], [] => by simp [less, com]
  | [], y :: b => by simp [less, com]
  | x :: a, [] => by simp [less, com]
  | x :: a, y :: b => by
    by_cases h : x = y
    · subst h
      have ih := less_com a b
      unfold less com
      rw [if_pos rfl, if_pos rfl, ih]
      simp
    · unfold less com
      rw [if_neg h, if_neg h]
      simp
theorem under_com : ∀ (a b : List Int), under a b = decide (com a b = b.length)
  | [], [] => by simp [under, com]
  | [], y :: b => by simp [under, com]
  | x :: a, [] => by simp [under, com]
  | x :: a, y :: b => by
    by_cases h : x = y
    · subst h
      have ih := under_com a b
      unfold under com
      rw [if_pos rfl, ih]
      simp
    · unfold under com
      rw [if_neg h]
      simp [h]
theorem less_self : ∀ a, less a a = false
  | [] => rfl
  | x :: a => by unfold less; rw [if_pos rfl]; exact less_self a
theorem less_asym : ∀ a b, less a b = true → less b a = false
  | [], [], h => by simp [less] at h
  | [], _ :: _, _ => by simp [less]
  | _ :: _, [], h => by simp [less] at h
  | x :: a, y :: b, h => by
    unfold less at h ⊢
    by_cases e : x = y
    · subst e
      rw [if_pos rfl] at h ⊢
      exact less_asym a b h
    · rw [if_neg e] at h
      rw [if_neg (fun h2 => e h2.symm)]
      simp at h ⊢
      omega
theorem less_total : ∀ a b, a ≠ b → less a b = true ∨ less b a = true
  | [], [], h => absurd rfl h
  | [], _ :: _, _ => .inl rfl
  | _ :: _, [], _ => .inr rfl
  | x :: a, y :: b, h => by
    unfold less
    by_cases e : x = y
    · subst e
      rw [if_pos rfl, if_pos rfl]
      exact less_total a b (fun h2 => h (by rw [h2]))
    · rw [if_neg e, if_neg (fun h2 => e h2.symm)]
      simp
      omega
theorem less_trans : ∀ a b c, less a b = true → less b c = true → less a c = true
  | _, [], _, h, _ => by cases ‹List Int› <;> simp [less] at h
  | [], _ :: _, [], _, h => by simp [less] at h
  | [], _ :: _, _ :: _, _, _ => rfl
  | _ :: _, _ :: _, [], _, h => by simp [less] at h
  | x :: a, y :: b, z :: c, h1, h2 => by
    unfold less at h1 h2 ⊢
    by_cases e : x = y
    · subst e
      rw [if_pos rfl] at h1
      by_cases e2 : x = z
      · rw [if_pos e2] at h2 ⊢
        exact less_trans a b c h1 h2
      · rw [if_neg e2] at h2 ⊢
        exact h2
    · rw [if_neg e] at h1
      simp at h1
      by_cases e2 : y = z
      · subst e2
        rw [if_neg e]
        simpa using h1
      · rw [if_neg e2] at h2
        simp at h2
        rw [if_neg (by omega)]
        simp; omega
theorem under_app : ∀ a b, under (a ++ b) a = true
  | [], b => by cases b <;> rfl
  | x :: a, b => by rw [List.cons_append]; unfold under; simp [under_app a b]
theorem under_self (a : List Int) : under a a = true := by have := under_app a []; rwa [List.append_nil] at this
theorem under_nil (a : List Int) : under a [] = true := by cases a <;> rfl
theorem less_app : ∀ (a : List Int) (x : Int) (b : List Int), less a (a ++ x :: b) = true
  | [], _, _ => rfl
  | y :: a, x, b => by rw [List.cons_append]; unfold less; rw [if_pos rfl]; exact less_app a x b
theorem under_not : ∀ (a : List Int) (x : Int) (b : List Int), under a (a ++ x :: b) = false
  | [], _, _ => rfl
  | y :: a, x, b => by rw [List.cons_append]; unfold under; simp [under_not a x b]
theorem less_below : ∀ (a c b : List Int), less a b = true → under b a = false → less (a ++ c) b = true
  | _, _, [], h, _ => by cases ‹List Int› <;> simp [less] at h
  | [], _, _ :: _, _, h => by simp [under] at h
  | x :: a, c, y :: b, h1, h2 => by
    rw [List.cons_append]
    unfold less at h1 ⊢
    unfold under at h2
    by_cases e : x = y
    · subst e
      rw [if_pos rfl] at h1 ⊢
      simp at h2
      exact less_below a c b h1 h2
    · rw [if_neg e] at h1 ⊢
      exact h1
end Go.Proofs.YtgjningfpkoooaaDoor.Ro
