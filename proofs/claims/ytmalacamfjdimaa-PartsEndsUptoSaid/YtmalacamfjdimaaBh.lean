/- What the law PartsEnds asks of a beginning's parts (plain). -/
import Derived.Test.YtmalacamfjdimaaBg
namespace Go.Proofs.Ytmalacamfjdimaa.Pt
open Go.RowKit Go.Proofs.Ytmalacamfjdimaa.W

theorem offT_zero (n : Nat) (ls : List (List Int)) : offT n ls 0 = 0 := by simp [offT]
theorem offT_succ (n : Nat) : ∀ (ls : List (List Int)) (i : Nat) (y : List Int), ls[i]? = some y → offT n ls (i + 1) = offT n ls i + y.length + 4 + n := by
  intro ls
  induction ls with
  | nil => intro i y h; simp at h
  | cons p ls ih =>
    intro i y h
    cases i with
    | zero => simp at h; subst h; simp only [offT, offT_zero]; omega
    | succ i =>
      rw [List.getElem?_cons_succ] at h
      have h1 := ih i y h
      simp only [offT] at h1 ⊢
      omega
theorem offT_mono (n : Nat) : ∀ (ls : List (List Int)) (i j : Nat), i ≤ j → j ≤ ls.length → offT n ls i ≤ offT n ls j := by
  intro ls i j h
  induction h with
  | refl => intro _; exact Nat.le_refl _
  | step _ ih =>
    intro hj
    rename_i m _
    have h1 := ih (by omega)
    have h2 := offT_succ n ls m _ (List.getElem?_eq_getElem (by omega))
    show offT n ls i ≤ offT n ls (m + 1)
    omega
theorem offT_le (n : Nat) : ∀ (ls : List (List Int)) (i : Nat), i ≤ ls.length → offT n ls i ≤ (ls.map List.length).sum + ls.length * (4 + n) := by
  intro ls
  induction ls with
  | nil => intro i h; simp at h; subst h; simp [offT]
  | cons p ls ih =>
    intro i h
    cases i with
    | zero => simp [offT]
    | succ i =>
      have h1 := ih i (by simpa using h)
      simp only [offT, List.map_cons, List.sum_cons, List.length_cons, Nat.add_mul]
      omega
theorem wall_at (W : List Int) : ∀ (ls : List (List Int)) (i : Nat) (y : List Int), ls[i]? = some y → ∃ pre post, wall W ls = pre ++ (y ++ post) ∧ pre.length = offW W.length ls i ∧ 4 ≤ post.length := by
  intro ls
  induction ls with
  | nil => intro i y h; simp at h
  | cons p ls ih =>
    intro i y h
    have e : wall W (p :: ls) = (W ++ [13, 10]) ++ (p ++ ([13, 10] ++ wall W ls)) := by simp [wall, wbody, wsep]
    cases i with
    | zero =>
      simp at h
      subst h
      refine ⟨W ++ [13, 10], [13, 10] ++ wall W ls, e, by simp [offW, offT], ?_⟩
      simp [wall]
      omega
    | succ i =>
      rw [List.getElem?_cons_succ] at h
      obtain ⟨pre, post, h1, h2, h3⟩ := ih i y h
      refine ⟨(W ++ [13, 10]) ++ (p ++ ([13, 10] ++ pre)), post, by rw [e, h1]; simp, ?_, h3⟩
      simp only [offW, offT] at h2 ⊢
      simp only [List.length_append, List.length_cons, List.length_nil]
      omega

structure EndsP (N : Nat) (x : List Int) (ls : List (List Int)) (k : Nat) (m : List (List Int)) (why : Int) : Prop where
  len : m.length ≤ ls.length + 1
  same : ∀ i z, i + 1 < m.length → m[i]? = some z → ls[i]? = some z
  end_ : ∀ z, m[ls.length]? = some z → z = []
  at_ : ∀ i z, i < ls.length → m[i]? = some z → z ≠ [] → offW N ls i + z.length ≤ k ∧ (x.drop (offW N ls i)).take z.length = z
  why : (why = 0 ∧ k + 2 = x.length) ∨ (why = 33 ∧ k + 2 ≠ x.length)
theorem at_whole (W : List Int) {ls : List (List Int)} {i : Nat} {z : List Int} (h : ls[i]? = some z) : ((wall W ls).drop (offW W.length ls i)).take z.length = z ∧ offW W.length ls i + z.length + 4 ≤ (wall W ls).length := by
  obtain ⟨pre, post, h1, h2, h3⟩ := wall_at W ls i z h
  rw [h1, ← h2, List.drop_left, List.take_left]
  refine ⟨rfl, ?_⟩
  simp only [List.length_append]
  omega
theorem ends_of {W : ByteArray} (hW : Wk W) (ls : List (List Int)) (k : Nat) (hno : ∀ q ∈ ls, hasW (strL W) q = false ∧ ¬ strL W <:+: q) (hk : k < (wall (strL W) ls).length) (hB : Bytes (wall (strL W) ls)) :
    EndsP (strL W).length (wall (strL W) ls) ls k (whole W ((wall (strL W) ls).take k)).2 (whole W ((wall (strL W) ls).take k)).1.reason := by
  have whole_at : ∀ (i0 i : Nat) (z : List Int), i < i0 → i0 ≤ ls.length → offW (strL W).length ls i0 ≤ k + 2 → ls[i]? = some z → offW (strL W).length ls i + z.length ≤ k ∧ ((wall (strL W) ls).drop (offW (strL W).length ls i)).take z.length = z := by
    intro i0 i z hi h0 ho hz
    refine ⟨?_, (at_whole (strL W) hz).1⟩
    have h1 := offT_succ (strL W).length ls i z hz
    have h2 := offT_mono (strL W).length ls (i + 1) i0 (by omega) h0
    simp only [offW] at ho ⊢
    omega
  rcases wall_cut hW ls k hno hk hB with ⟨hr, hw, hne⟩ | hc
  · rw [hr, hw]
    exact ⟨by simp, fun i z _ h => by simp at h, fun z h => by simp at h, fun i z _ h => by simp at h, .inr ⟨rfl, hne⟩⟩
  rcases hc with ⟨i0, hi, ho, hr, hw, hne⟩ | ⟨i0, hi, ho, hr, hw, hne⟩ | ⟨hr, hw, hne⟩
  · rw [hr, hw, List.nil_append]
    have hl : (ls.take i0 ++ [((wall (strL W) ls).take k).drop (offW (strL W).length ls i0)]).length = i0 + 1 := by simp; omega
    have hget : ∀ i z, i < i0 → (ls.take i0 ++ [((wall (strL W) ls).take k).drop (offW (strL W).length ls i0)])[i]? = some z → ls[i]? = some z := by
      intro i z hi2 h
      rw [List.getElem?_append_left (by simp; omega), List.getElem?_take, if_pos hi2] at h
      exact h
    refine ⟨by rw [hl]; omega, fun i z h1 h => hget i z (by omega) h, fun z h => ?_, fun i z h1 h hz => ?_, .inr ⟨rfl, hne⟩⟩
    · rw [List.getElem?_eq_none (by rw [hl]; omega)] at h; cases h
    · rcases Nat.lt_or_ge i i0 with h2 | h2
      · exact whole_at i0 i z h2 (by omega) (by omega) (hget i z h2 h)
      · have hii : i = i0 := by
          rcases Nat.lt_or_ge i0 i with h3 | h3
          · rw [List.getElem?_eq_none (by rw [hl]; omega)] at h; cases h
          · omega
        subst hii
        have hlt : (ls.take i).length = i := by simp; omega
        rw [List.getElem?_append_right (by omega), hlt, Nat.sub_self] at h
        simp only [List.getElem?_cons_zero, Option.some.injEq] at h
        have hzl : z.length = k - offW (strL W).length ls i := by rw [← h]; simp; omega
        refine ⟨by omega, ?_⟩
        rw [hzl, ← h, List.drop_take]
  · rw [hr, hw, List.nil_append]
    have hl : (ls.take i0 ++ [[]]).length = i0 + 1 := by simp; omega
    have hget : ∀ i z, i < i0 → (ls.take i0 ++ [[]])[i]? = some z → ls[i]? = some z := by
      intro i z hi2 h
      rw [List.getElem?_append_left (by simp; omega), List.getElem?_take, if_pos hi2] at h
      exact h
    have hlast : ∀ i z, i0 ≤ i → (ls.take i0 ++ [[]])[i]? = some z → z = [] := by
      intro i z hi2 h
      rw [List.getElem?_append_right (by simp; omega)] at h
      have := List.mem_of_getElem? h
      simpa using this
    refine ⟨by rw [hl]; omega, fun i z h1 h => hget i z (by omega) h, fun z h => hlast _ z (by omega) h, fun i z h1 h hz => ?_, .inr ⟨rfl, hne⟩⟩
    rcases Nat.lt_or_ge i i0 with h2 | h2
    · exact whole_at i0 i z h2 hi ho (hget i z h2 h)
    · exact absurd (hlast i z h2 h) hz
  · rw [hr, hw, List.nil_append]
    refine ⟨by omega, fun i z _ h => h, fun z h => by simp at h, fun i z h1 h hz => ?_, .inl ⟨rfl, hne⟩⟩
    have := at_whole (strL W) h
    exact ⟨by omega, this.1⟩
/-- A window of a part is the boundary. -/
theorem win_infix {p W : List Int} {j : Nat} (h : (p.drop j).take W.length = W) : W <:+: p := by
  have h1 : (p.drop j).take W.length <:+: p := (List.take_prefix _ _).isInfix.trans (List.drop_suffix _ _).isInfix
  rw [h] at h1
  exact h1
/-- No window is the boundary. -/
theorem no_infix {p W : List Int} (h : ∀ j, j + W.length ≤ p.length → (p.drop j).take W.length ≠ W) : ¬ W <:+: p := by
  rintro ⟨a, b, hab⟩
  refine h a.length ?_ ?_
  · rw [← hab]; simp only [List.length_append]; omega
  · rw [← hab, List.append_assoc, List.drop_left, List.take_left]
end Go.Proofs.Ytmalacamfjdimaa.Pt
