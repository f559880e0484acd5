/- The program's reading of a symbol is the document's (plain). -/
import Derived.Test.YtdpnlmofkkdioaaDoorIb
namespace Go.Proofs.YtdpnlmofkkdioaaDoor.Hf
set_option linter.unusedVariables false
set_option linter.unusedSimpArgs false

section
variable {lens : List Nat}
theorem hit_code (ht : Tab lens) {bs : List Bool} {k : Nat} (hk : 0 < k) (hl : k ≤ bs.length) (h15 : k ≤ 15) : hit lens bs k ↔ ∃ i, lens[i]? = some k ∧ code lens i = bs.take k :=
  code_iff ht (by simp; omega) hk h15
theorem pre_hit (ht : Tab lens) {bs : List Bool} {j i k : Nat} (hk : 0 < k) (hi : lens[i]? = some k) (hp : code lens i <+: bs.take j) : k ≤ j ∧ k ≤ bs.length ∧ k ≤ 15 ∧ hit lens bs k := by
  have h1 := hp.length_le
  rw [code_length hi, List.length_take] at h1
  have h15 := ht.le k (List.mem_of_getElem? hi)
  refine ⟨by omega, by omega, h15, (hit_code ht hk (by omega) h15).2 ⟨i, hi, ?_⟩⟩
  have h2 := List.prefix_iff_eq_take.1 hp
  rw [code_length hi, List.take_take, Nat.min_eq_left (by omega)] at h2
  exact h2
theorem decG_hit (ht : Tab lens) {bs : List Bool} {k s : Nat} (hk : 0 < k) (hl : k ≤ bs.length) (hs : lens[s]? = some k) (hc : code lens s = bs.take k) (hmin : ∀ k', 0 < k' → k' < k → ¬ hit lens bs k') :
    ∀ d j f, j + d = k → d < f → decG lens bs f j = .got s k := by
  intro d
  induction d with
  | zero =>
    intro j f hj hf
    obtain rfl : j = k := by omega
    obtain ⟨f, rfl⟩ : ∃ g, f = g + 1 := ⟨f - 1, by omega⟩
    obtain ⟨s', n, h1⟩ := look_some (held := bs.take j) hk hs (by rw [hc]; exact List.prefix_refl _)
    obtain ⟨k', h2, h3, rfl, h4⟩ := look_got h1
    obtain ⟨h5, _, _, h6⟩ := pre_hit ht h2 h3 h4
    have h7 : n = j := by
      rcases Nat.lt_or_ge n j with h | h
      · exact absurd h6 (hmin n h2 h)
      · omega
    subst h7
    have h8 := List.prefix_iff_eq_take.1 h4
    rw [code_length h3, List.take_take, Nat.min_self] at h8
    obtain rfl : s' = s := code_uniq ht hk h3 hs (by rw [h8, hc])
    rw [decG, h1]
  | succ d ih =>
    intro j f hj hf
    obtain ⟨f, rfl⟩ : ∃ g, f = g + 1 := ⟨f - 1, by omega⟩
    have hno : ∀ i k', 0 < k' → lens[i]? = some k' → ¬ code lens i <+: bs.take j := fun i k' h1 h2 h3 => by
      obtain ⟨h4, _, _, h5⟩ := pre_hit ht h1 h2 h3
      exact hmin k' h1 (by omega) h5
    rcases look_more hno with ⟨h1, _⟩ | ⟨_, h1⟩
    · rw [decG, h1]
      dsimp only
      rw [if_pos (by omega)]
      exact ih (j + 1) f (by omega) (by omega)
    · refine absurd ?_ (h1 s k hk hs)
      rw [hc, ← Nat.min_eq_left (show j ≤ k by omega), ← List.take_take]
      exact List.take_prefix _ _
theorem dec_hit (ht : Tab lens) {bs : List Bool} {k : Nat} (hk : 0 < k) (hl : k ≤ bs.length) (h15 : k ≤ 15) (hh : hit lens bs k) (hmin : ∀ k', 0 < k' → k' < k → ¬ hit lens bs k') :
    ∃ s, dec lens bs = .got s k ∧ lens[s]? = some k ∧ code lens s = bs.take k := by
  obtain ⟨s, h1, h2⟩ := (hit_code ht hk hl h15).1 hh
  exact ⟨s, decG_hit ht hk hl h1 h2 hmin k 0 _ (by omega) (by omega), h1, h2⟩
theorem decG_none {bs : List Bool} (hno : ∀ j i k, 0 < k → lens[i]? = some k → ¬ code lens i <+: bs.take j) : ∀ d j f, j + d = bs.length → d < f →
    (decG lens bs f j = .more ∧ ∃ i k, 0 < k ∧ lens[i]? = some k ∧ bs <+: code lens i) ∨ (∃ j', decG lens bs f j = .bad j' ∧ j ≤ j' ∧ j' ≤ bs.length ∧ ∀ i k, 0 < k → lens[i]? = some k → ¬ bs.take j' <+: code lens i) := by
  intro d
  induction d with
  | zero =>
    intro j f hj hf
    obtain rfl : j = bs.length := by omega
    obtain ⟨f, rfl⟩ : ∃ g, f = g + 1 := ⟨f - 1, by omega⟩
    rcases look_more (hno bs.length) with ⟨h1, h2⟩ | ⟨h1, h2⟩
    · left
      rw [List.take_length] at h2
      refine ⟨?_, h2⟩
      rw [decG, h1]
      dsimp only
      rw [if_neg (by omega)]
    · right
      refine ⟨bs.length, ?_, Nat.le_refl _, Nat.le_refl _, h2⟩
      rw [decG, h1]
  | succ d ih =>
    intro j f hj hf
    obtain ⟨f, rfl⟩ : ∃ g, f = g + 1 := ⟨f - 1, by omega⟩
    rcases look_more (hno j) with ⟨h1, _⟩ | ⟨h1, h2⟩
    · have h3 := ih (j + 1) f (by omega) (by omega)
      have e : decG lens bs (f + 1) j = decG lens bs f (j + 1) := by
        rw [decG, h1]
        dsimp only
        rw [if_pos (by omega)]
      rw [e]
      rcases h3 with h3 | ⟨j', h3, h4, h5, h6⟩
      · exact .inl h3
      · exact .inr ⟨j', h3, by omega, h5, h6⟩
    · right
      refine ⟨j, ?_, Nat.le_refl _, by omega, h2⟩
      rw [decG, h1]
theorem dec_none (ht : Tab lens) {bs : List Bool} (hn : ∀ k, 0 < k → k ≤ 15 → k ≤ bs.length → ¬ hit lens bs k) :
    (dec lens bs = .more ∧ begs lens (mnum (bs.take (min bs.length 15))) (min bs.length 15)) ∨ (∃ j, dec lens bs = .bad j ∧ j ≤ bs.length ∧ ¬ begs lens (mnum (bs.take (min bs.length 15))) (min bs.length 15)) := by
  have hno : ∀ j i k, 0 < k → lens[i]? = some k → ¬ code lens i <+: bs.take j := fun j i k h1 h2 h3 => by
    obtain ⟨_, h4, h5, h6⟩ := pre_hit ht h1 h2 h3
    exact hn k h1 h5 h4 h6
  rcases decG_none hno bs.length 0 (bs.length + 1) (by omega) (by omega) with ⟨h1, i, k, hk, hi, hp⟩ | ⟨j', h1, _, h3, h4⟩
  · left
    refine ⟨h1, ?_⟩
    have h15 := ht.le k (List.mem_of_getElem? hi)
    have hle := hp.length_le
    rw [code_length hi] at hle
    have hlt : bs.length < k := by
      rcases Nat.lt_or_ge bs.length k with h | h
      · exact h
      · have e : k = bs.length := by omega
        refine absurd ((hit_code ht hk (by omega) h15).2 ⟨i, hi, ?_⟩) (hn k hk h15 (by omega))
        rw [e, List.take_length]
        exact (hp.eq_of_length (by rw [code_length hi]; omega)).symm
    rw [Nat.min_eq_left (by omega), List.take_length]
    obtain ⟨r, hr⟩ := hp
    have hrl : r.length = k - bs.length := by
      have := congrArg List.length hr
      rw [List.length_append, code_length hi] at this
      omega
    have hm := code_mnum ht hk hi
    rw [← hr, mnum_append, hrl] at hm
    have hlt2 := mnum_lt r
    rw [hrl] at hlt2
    have hca := cnt_at lens k i hk hi
    exact ⟨k, hlt, h15, by omega, by omega, by omega⟩
  · right
    refine ⟨j', h1, h3, ?_⟩
    rintro ⟨k, hk, h15, hc, hlo, hhi⟩
    generalize hn' : min bs.length 15 = n at hk hlo hhi
    have hnb : n = bs.length := by omega
    have hfl := fst_le ht.kr k h15
    obtain ⟨x, hx⟩ : ∃ x, x = max (fst_ lens k) (mnum (bs.take n) * 2 ^ (k - n)) := ⟨_, rfl⟩
    have hx1 : fst_ lens k ≤ x ∧ x < fst_ lens k + cnt lens k := by omega
    have hx2 : mnum (bs.take n) * 2 ^ (k - n) ≤ x ∧ x < mnum (bs.take n) * 2 ^ (k - n) + 2 ^ (k - n) := by
      have := Nat.two_pow_pos (k - n)
      omega
    have hxk : x < 2 ^ k := by omega
    obtain ⟨i, hi, hci⟩ := (code_iff ht (msb_length k x) (by omega) h15).1 (by rw [mnum_msb k x hxk]; exact hx1)
    refine h4 i k (by omega) hi ?_
    have hpre : (msb k x).take n = bs.take n := by
      refine mnum_inj _ _ (by rw [List.length_take, List.length_take, msb_length]; omega) ?_
      have h5 := mnum_append ((msb k x).take n) ((msb k x).drop n)
      rw [List.take_append_drop, mnum_msb k x hxk, List.length_drop, msb_length] at h5
      have h6 := mnum_lt ((msb k x).drop n)
      rw [List.length_drop, msb_length] at h6
      have hpos := Nat.two_pow_pos (k - n)
      have h7 : x / 2 ^ (k - n) = mnum ((msb k x).take n) := by
        generalize mnum ((msb k x).take n) = y1 at h5 ⊢
        generalize mnum ((msb k x).drop n) = y2 at h5 h6
        rw [h5, Nat.add_comm, Nat.add_mul_div_right _ _ hpos, Nat.div_eq_of_lt h6, Nat.zero_add]
      have h8 : x / 2 ^ (k - n) = mnum (bs.take n) := by
        obtain ⟨y, hy⟩ : ∃ y, x = mnum (bs.take n) * 2 ^ (k - n) + y := ⟨x - mnum (bs.take n) * 2 ^ (k - n), by omega⟩
        rw [hy, Nat.add_comm, Nat.add_mul_div_right _ _ hpos, Nat.div_eq_of_lt (by omega), Nat.zero_add]
      rw [← h7, h8]
    rw [hci]
    have h9 : bs.take j' <+: bs.take n := by
      rw [← Nat.min_eq_left (show j' ≤ n by omega), ← List.take_take]
      exact List.take_prefix _ _
    rw [← hpre] at h9
    exact h9.trans (List.take_prefix _ _)
/-- More bits tell the same, unless more were needed. -/
theorem decG_more {bs cs : List Bool} : ∀ f g j, f ≤ g → j + f = bs.length + 1 → decG lens bs f j ≠ .more → decG lens (bs ++ cs) g j = decG lens bs f j := by
  intro f
  induction f with
  | zero => intro g j _ _ h; exact absurd rfl h
  | succ f ih =>
    intro g j hg hj h
    obtain ⟨g, rfl⟩ : ∃ g', g = g' + 1 := ⟨g - 1, by omega⟩
    have e : (bs ++ cs).take j = bs.take j := List.take_append_of_le_length (by omega)
    rw [decG] at h ⊢
    rw [decG, e]
    cases hl : lookAt lens (bs.take j) with
    | got s n => rfl
    | bad => rfl
    | more =>
      rw [hl] at h
      dsimp only at h ⊢
      by_cases hb : j < bs.length
      · rw [if_pos hb] at h ⊢
        rw [if_pos (by rw [List.length_append]; omega)]
        exact ih g (j + 1) (by omega) (by omega) h
      · rw [if_neg hb] at h
        exact absurd rfl h
theorem dec_more {bs cs : List Bool} (h : dec lens bs ≠ .more) : dec lens (bs ++ cs) = dec lens bs :=
  decG_more _ _ 0 (by rw [List.length_append]; omega) (by omega) h
end
end Go.Proofs.YtdpnlmofkkdioaaDoor.Hf
