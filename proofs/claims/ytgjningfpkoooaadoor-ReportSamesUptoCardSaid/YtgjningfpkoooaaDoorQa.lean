/- Report: words and lines (plain). -/
import Derived.Test.YtgjningfpkoooaaDoorOo
namespace Go.Proofs.YtgjningfpkoooaaDoor.Ro
set_option linter.unusedVariables false
set_option linter.unusedSimpArgs false
open Go.Lib (decDigits)

def spc (d : UInt8) : List UInt8 → List (List UInt8)
  | [] => [[]]
  | c :: s => if c = d then [] :: spc d s else match spc d s with
    | w :: r => (c :: w) :: r
    | [] => [[c]]
theorem spc_ne (d : UInt8) : ∀ s, spc d s ≠ []
  | [] => by simp [spc]
  | c :: s => by
    unfold spc
    split
    · simp
    · split <;> simp
theorem spc_index (d : UInt8) : ∀ (s : List UInt8), (Lib.index s [d] = -1 → spc d s = [s]) ∧ (∀ i : Nat, Lib.index s [d] = i → spc d s = s.take i :: spc d (s.drop (i + 1)))
  | [] => by
    refine ⟨fun _ => rfl, fun i h => ?_⟩
    simp [Lib.index] at h
  | b :: l => by
    obtain ⟨h1, h2⟩ := spc_index d l
    by_cases hb : b = d
    · rw [hb]
      have e : Lib.index (d :: l) [d] = 0 := by simp [Lib.index]
      rw [e]
      refine ⟨fun h => by omega, fun i h => ?_⟩
      obtain rfl : i = 0 := by omega
      simp [spc]
    · have e : Lib.index (b :: l) [d] = if Lib.index l [d] == -1 then -1 else Lib.index l [d] + 1 := by
        have hp : ([d] : List UInt8).isPrefixOf (b :: l) = false := by
          cases h : ([d] : List UInt8).isPrefixOf (b :: l) with
          | false => rfl
          | true =>
            have h2 : (d : UInt8) = b := by simpa [List.isPrefixOf] using h
            exact absurd h2.symm hb
        conv => lhs; unfold Lib.index
        rw [hp]
        rfl
      have hge := Lib.index_ge l [d]
      rw [e]
      by_cases hl : Lib.index l [d] = -1
      · rw [if_pos (by simp [hl])]
        refine ⟨fun _ => ?_, fun i h => by omega⟩
        unfold spc
        rw [if_neg hb, h1 hl]
      · rw [if_neg (by simp [hl])]
        refine ⟨fun h => by omega, fun i h => ?_⟩
        obtain ⟨j, rfl⟩ : ∃ j, i = j + 1 := ⟨i - 1, by omega⟩
        have h3 := h2 j (by omega)
        conv => lhs; unfold spc
        rw [if_neg hb, h3]
        simp
theorem spl_go (d : UInt8) : ∀ (n : Nat) (s : List UInt8), s.length ≤ n → Lib.splitK [d] 0 (Lib.count s [d]) s = spc d s := by
  intro n
  induction n with
  | zero =>
    intro s h
    have hs : s = [] := List.eq_nil_of_length_eq_zero (by omega)
    subst hs
    rfl
  | succ n ih =>
    intro s h
    obtain ⟨h1, h2⟩ := spc_index d s
    rcases Lib.index_spec s [d] with ⟨h3, _⟩ | ⟨i, h3, h4, h5, _⟩
    · rw [h1 h3, Lib.count_miss h3]
      rfl
    · rw [h2 i h3, Lib.count_hit (by simp) h3, Nat.add_comm 1]
      have h6 := Lib.index_room s [d] (by omega)
      simp at h6
      unfold Lib.splitK
      rw [if_neg (by rw [h3]; simp), h3]
      simp only [Int.toNat_natCast, Nat.add_zero, List.length_singleton]
      rw [ih _ (by rw [List.length_drop]; omega)]
theorem spl_sp (d : UInt8) (s : List UInt8) : Lib.split s [d] = spc d s := spl_go d s.length s (Nat.le_refl _)
theorem spl_cnt (d : UInt8) : ∀ (n : Nat) (s : List UInt8), s.length ≤ n → (spc d s).length = Lib.count s [d] + 1 := by
  intro n
  induction n with
  | zero =>
    intro s h
    have hs : s = [] := List.eq_nil_of_length_eq_zero (by omega)
    subst hs
    rfl
  | succ n ih =>
    intro s h
    obtain ⟨h1, h2⟩ := spc_index d s
    rcases Lib.index_spec s [d] with ⟨h3, _⟩ | ⟨i, h3, h4, h5, _⟩
    · rw [h1 h3, Lib.count_miss h3]
      rfl
    · rw [h2 i h3, Lib.count_hit (by simp) h3, List.length_cons, List.length_singleton]
      have h6 := Lib.index_room s [d] (by omega)
      simp at h6
      rw [ih _ (by rw [List.length_drop]; omega)]
      omega
/-- Words put together again. -/
theorem spc_join (d : UInt8) : ∀ (s : List UInt8) (w : List UInt8) (ws : List (List UInt8)), spc d s = w :: ws → s = w ++ ws.flatMap (fun v => d :: v)
  | [], w, ws, h => by simp [spc] at h; obtain ⟨rfl, rfl⟩ := h; rfl
  | c :: s, w, ws, h => by
    unfold spc at h
    split at h
    · rename_i hc
      injection h with h1 h2
      subst h1
      rw [hc]
      cases hs : spc d s with
      | nil => exact absurd hs (spc_ne d s)
      | cons v vs =>
        have := spc_join d s v vs hs
        rw [← h2, hs]
        simp [← this]
    · cases hs : spc d s with
      | nil => exact absurd hs (spc_ne d s)
      | cons v vs =>
        rw [hs] at h
        injection h with h1 h2
        subst h1 h2
        have := spc_join d s v vs hs
        simp [← this]
theorem spc_word (d : UInt8) : ∀ (w : List UInt8) (s : List UInt8), (∀ c ∈ w, c ≠ d) → ∀ v vs, spc d s = v :: vs → spc d (w ++ s) = (w ++ v) :: vs
  | [], s, _, v, vs, h => h
  | c :: w, s, hw, v, vs, h => by
    have ih := spc_word d w s (fun x hx => hw x (List.mem_cons_of_mem _ hx)) v vs h
    rw [List.cons_append]
    unfold spc
    rw [if_neg (hw c List.mem_cons_self), ih]
    rfl
theorem spc_flat (d : UInt8) : ∀ (ws : List (List UInt8)), (∀ w ∈ ws, ∀ c ∈ w, c ≠ d) → spc d (ws.flatMap (fun v => d :: v)) = [] :: ws
  | [], _ => rfl
  | w :: ws, h => by
    have ih := spc_flat d ws (fun v hv => h v (List.mem_cons_of_mem _ hv))
    have h1 := spc_word d w _ (h w List.mem_cons_self) _ _ ih
    rw [List.flatMap_cons, List.cons_append]
    unfold spc
    rw [if_pos rfl, h1]
    simp
end Go.Proofs.YtgjningfpkoooaaDoor.Ro
