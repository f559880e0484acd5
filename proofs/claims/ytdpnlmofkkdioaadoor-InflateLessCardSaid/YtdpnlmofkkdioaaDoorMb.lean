/- What the machine keeps (plain). -/
import Derived.Test.YtdpnlmofkkdioaaDoorMa
namespace Go.Proofs.YtdpnlmofkkdioaaDoor.Hf
set_option linter.unusedVariables false
set_option linter.unusedSimpArgs false

theorem wsum_kraft : ∀ (lens : List Nat), (∀ n ∈ lens, n ≤ 15) → wsum lens 15 = kraft lens := by
  intro lens
  induction lens with
  | nil => intro _; decide
  | cons m lens ih =>
    intro h
    have e : kraft (m :: lens) = (if 0 < m then 2 ^ (15 - m) else 0) + kraft lens := by simp [kraft]
    rw [wsum_cons, e, ih (fun n hn => h n (List.mem_cons_of_mem _ hn))]
    have := h m (List.mem_cons_self ..)
    by_cases h0 : 0 < m
    · rw [if_pos ⟨h0, this⟩, if_pos h0]
    · rw [if_neg (fun h => h0 h.1), if_neg h0]
theorem wsum_find (lens : List Nat) {x : Nat} : ∀ k, x < wsum lens k → ∃ j, j < k ∧ wsum lens j ≤ x ∧ x < wsum lens (j + 1) := by
  intro k
  induction k with
  | zero => intro h; simp [wsum] at h
  | succ k ih =>
    intro h
    rcases Nat.lt_or_ge x (wsum lens k) with h1 | h1
    · obtain ⟨j, h2, h3⟩ := ih h1
      exact ⟨j, by omega, h3⟩
    · exact ⟨k, by omega, h1, h⟩
/-- A whole code has no bits that begin none. -/
theorem dec_full {lens : List Nat} (ht : Tab lens) (hk : kraft lens = 32768) (bs : List Bool) (j : Nat) : dec lens bs ≠ .bad j := by
  intro hbad
  have hn : ∀ k, 0 < k → k ≤ 15 → k ≤ bs.length → ¬ hit lens bs k := fun k h1 h2 h3 h4 => by
    obtain ⟨k', h5, h6⟩ : ∃ k', (0 < k' ∧ k' ≤ k ∧ hit lens bs k') ∧ ∀ i, 0 < i → i < k' → ¬ hit lens bs i := by
      clear h3 h2
      induction k using Nat.strongRecOn with
      | _ k ih =>
        by_cases h : ∃ i, 0 < i ∧ i < k ∧ hit lens bs i
        · obtain ⟨i, h5, h6, h7⟩ := h
          obtain ⟨k', h8, h9⟩ := ih i h6 h5 h7
          exact ⟨k', ⟨h8.1, by omega, h8.2.2⟩, h9⟩
        · exact ⟨k, ⟨h1, Nat.le_refl _, h4⟩, fun i h5 h6 h7 => h ⟨i, h5, h6, h7⟩⟩
    obtain ⟨s, h8, _⟩ := dec_hit ht h5.1 (by omega) (by omega) h5.2.2 h6
    rw [hbad] at h8
    cases h8
  rcases dec_none ht hn with ⟨h1, _⟩ | ⟨_, _, _, h3⟩
  · rw [hbad] at h1; cases h1
  · apply h3
    generalize hn' : min bs.length 15 = n at h3 ⊢
    have hc := mnum_lt (bs.take n)
    have hcl : (bs.take n).length = n := by rw [List.length_take]; omega
    rw [hcl] at hc
    obtain ⟨c, hc'⟩ : ∃ c, mnum (bs.take n) = c := ⟨_, rfl⟩
    rw [hc'] at hc ⊢
    have h15 : 2 ^ n * 2 ^ (15 - n) = 32768 := by rw [← Nat.pow_add, show n + (15 - n) = 15 by omega]
    have hx : c * 2 ^ (15 - n) < 32768 := by rw [← h15]; exact Nat.mul_lt_mul_of_pos_right hc (Nat.two_pow_pos _)
    obtain ⟨j', h5, h6, h7⟩ := wsum_find lens 15 (x := c * 2 ^ (15 - n)) (by rw [wsum_kraft lens ht.le, hk]; exact hx)
    have h8 := fst_wsum lens (j' + 1) (by omega)
    rw [wsum] at h7 h8
    obtain ⟨k, rfl⟩ : ∃ k, k = j' + 1 := ⟨_, rfl⟩
    generalize hj : j' + 1 = k at h7 h8
    have hk15 : k ≤ 15 := by omega
    have hk0 : 0 < k := by omega
    have hp := Nat.two_pow_pos (15 - k)
    have hf : fst_ lens k * 2 ^ (15 - k) ≤ c * 2 ^ (15 - n) ∧ c * 2 ^ (15 - n) < (fst_ lens k + cnt lens k) * 2 ^ (15 - k) := by
      rw [Nat.add_mul]
      omega
    rcases Nat.lt_or_ge n k with hkn | hkn
    · have e1 : c * 2 ^ (15 - n) = c * 2 ^ (k - n) * 2 ^ (15 - k) := by rw [Nat.mul_assoc, ← Nat.pow_add]; congr 2; omega
      rw [e1] at hf
      have h10 := Nat.le_of_mul_le_mul_right hf.1 hp
      have h11 := Nat.lt_of_mul_lt_mul_right hf.2
      have := Nat.two_pow_pos (k - n)
      exact ⟨k, hkn, hk15, by omega, h11, by omega⟩
    · exfalso
      refine hn k hk0 hk15 (by omega) ?_
      have e1 : 2 ^ (15 - k) = 2 ^ (n - k) * 2 ^ (15 - n) := by rw [← Nat.pow_add]; congr 1; omega
      rw [e1, ← Nat.mul_assoc, ← Nat.mul_assoc] at hf
      have h10 := Nat.le_of_mul_le_mul_right hf.1 (Nat.two_pow_pos _)
      have h11 := Nat.lt_of_mul_lt_mul_right hf.2
      have e2 := mnum_append ((bs.take n).take k) ((bs.take n).drop k)
      rw [List.take_append_drop, hc', List.length_drop, hcl, take_take hkn] at e2
      have h12 := mnum_lt ((bs.take n).drop k)
      rw [List.length_drop, hcl] at h12
      unfold hit
      generalize mnum (bs.take k) = a at e2 ⊢
      generalize mnum ((bs.take n).drop k) = b at e2 h12
      generalize 2 ^ (n - k) = z at *
      subst e2
      constructor
      · rcases Nat.lt_or_ge a (fst_ lens k) with h13 | h13
        · exfalso
          have : (a + 1) * z ≤ fst_ lens k * z := Nat.mul_le_mul_right _ h13
          rw [Nat.add_mul] at this
          omega
        · exact h13
      · rcases Nat.lt_or_ge a (fst_ lens k + cnt lens k) with h13 | h13
        · exact h13
        · exfalso
          have : (fst_ lens k + cnt lens k) * z ≤ a * z := Nat.mul_le_mul_right _ h13
          omega
/-- What is got is a symbol, with its length. -/
theorem dec_got {lens : List Nat} {bs : List Bool} {s k : Nat} (h : dec lens bs = .got s k) : lens[s]? = some k ∧ 0 < k := by
  rcases dec_char (lens := lens) bs with ⟨_, h1⟩ | ⟨n, _, _, h1⟩
  · rw [h] at h1; cases h1
  · rcases h1 with ⟨s', h2, h3⟩ | ⟨_, h3⟩
    · rw [h] at h3
      injection h3 with h4 h5
      subst h4 h5
      obtain ⟨k', h6, h7, h8, _⟩ := look_got h2
      subst h8
      exact ⟨h7, h6⟩
    · rw [h] at h3; cases h3
theorem dec_lt {lens : List Nat} {bs : List Bool} {s k : Nat} (h : dec lens bs = .got s k) : s < lens.length := (List.getElem?_eq_some_iff.1 (dec_got h).1).1

/-! ### what holds at each step -/
structure RowsOk (m : M) : Prop where
  lo : 257 ≤ m.lits
  lt : m.lits < m.wanted
  hi : m.wanted ≤ 316
structure LenOk (m : M) : Prop where
  rows : RowsOk m
  tab : Tab m.cd
  full : kraft m.cd = 32768
  size : m.cd.length = 19
  row : m.row.length < m.wanted
structure TabsOk (m : M) : Prop where
  lt : Tab m.lt
  ds : Tab m.ds
  ltl : m.lt.length ≤ 320
  dsl : m.ds.length ≤ 320
def PhOk (m : M) (out : List Int) : Prop := match m.ph with
  | .head => True
  | .sth => True
  | .sto => m.left ≤ 65535
  | .cts => True
  | .lol => RowsOk m ∧ m.left ≤ 19 ∧ m.order < m.left
  | .len => LenOk m
  | .rep => LenOk m ∧ (16 ≤ m.sym ∧ m.sym ≤ 18) ∧ (m.sym = 16 → 0 < m.row.length)
  | .lit => TabsOk m
  | .lbits => TabsOk m ∧ m.sym ≤ 28
  | .dst => TabsOk m ∧ 3 ≤ m.left ∧ m.left ≤ 258
  | .dbits => TabsOk m ∧ (3 ≤ m.left ∧ m.left ≤ 258) ∧ m.sym ≤ 29
  | .cpy => TabsOk m ∧ (1 ≤ m.left ∧ m.left ≤ 258) ∧ (1 ≤ m.back ∧ m.back ≤ 32768) ∧ m.back ≤ out.length
structure Ok (m : M) (out : List Int) : Prop where
  fll : m.fl.length = 19
  fl : ∀ x ∈ m.fl, x ≤ 7
  row : ∀ x ∈ m.row, x ≤ 15
  rowl : m.row.length ≤ 316
  bytes : ∀ b ∈ out, 0 ≤ b ∧ b < 256
  ph : m.why = 0 → PhOk m out
theorem num_take_lt (bs : List Bool) {n : Nat} : num (bs.take n) < 2 ^ n := by
  have h := num_lt (bs.take n)
  rw [List.length_take] at h
  exact Nat.lt_of_lt_of_le h (Nat.pow_le_pow_right (by omega) (by omega))
theorem Tab.fixL : Tab fixL := ⟨by decide +kernel, by decide +kernel⟩
theorem Tab.fixD : Tab fixD := ⟨by decide +kernel, by decide +kernel⟩
theorem fixL_len : fixL.length ≤ 320 := by decide +kernel
theorem fixD_len : fixD.length ≤ 320 := by decide +kernel
theorem newOk_tab {ls : List Nat} (h : newOk ls = true) (hle : ∀ n ∈ ls, n ≤ 15) : Tab ls := by
  unfold newOk at h
  rw [Bool.and_eq_true, decide_eq_true_iff] at h
  exact ⟨hle, h.1⟩
theorem mem_set_le {l : List Nat} {i v b x : Nat} (h : ∀ y ∈ l, y ≤ b) (hv : v ≤ b) (hx : x ∈ l.set i v) : x ≤ b := by
  rcases List.mem_or_eq_of_mem_set hx with h1 | h1
  · exact h x h1
  · omega
section
variable {m : M} {out : List Int}
theorem Ok.stop (h : Ok m out) {why : Nat} (hw : why ≠ 0) : Ok (stopM m why) out := ⟨h.fll, h.fl, h.row, h.rowl, h.bytes, fun h0 => absurd h0 hw⟩
theorem Ok.lay (h : Ok m out) (hl : LenOk m) (n x : Nat) (hx : x ≤ 15) : Ok (layM m n x) out := by
  unfold layM
  by_cases h1 : m.row.length + n > m.wanted
  · rw [if_pos h1]; exact h.stop (by decide)
  · rw [if_neg h1]
    dsimp only
    have hr : ∀ y ∈ m.row ++ List.replicate n x, y ≤ 15 := fun y hy => by
      rcases List.mem_append.1 hy with h2 | h2
      · exact h.row y h2
      · rw [(List.mem_replicate.1 h2).2]; exact hx
    have hrl : (m.row ++ List.replicate n x).length = m.row.length + n := by rw [List.length_append, List.length_replicate]
    have hi := hl.rows.hi
    split
    · rename_i h2
      exact ⟨h.fll, h.fl, hr, by dsimp only; omega, h.bytes, fun _ => ⟨⟨hl.rows.1, hl.rows.2, hl.rows.3⟩, hl.tab, hl.full, hl.size, h2⟩⟩
    · split
      · rename_i h3
        rw [Bool.and_eq_true, Bool.and_eq_true] at h3
        exact ⟨h.fll, h.fl, hr, by dsimp only; omega, h.bytes, fun _ => ⟨newOk_tab h3.1 fun y hy => hr y (List.mem_of_mem_take hy), newOk_tab h3.2.1 fun y hy => hr y (List.mem_of_mem_drop hy), by dsimp only; rw [List.length_take]; omega, by dsimp only; rw [List.length_drop]; omega⟩⟩
      · exact ⟨h.fll, h.fl, hr, by show _ ≤ _; dsimp only [stopM]; omega, h.bytes, fun h0 => by cases h0⟩
theorem Ok.step (h : Ok m out) (h0 : m.why = 0) {bs : List Bool} {r : Out} (hs : step m out bs = some r) : Ok r.1 (out ++ r.2.1) := by
  have hp := h.ph h0
  have hb : ∀ (v : Int), 0 ≤ v → v < 256 → ∀ b ∈ out ++ [v], 0 ≤ b ∧ b < 256 := fun v h1 h2 b hb => by
    rcases List.mem_append.1 hb with h3 | h3
    · exact h.bytes b h3
    · rw [List.mem_singleton.1 h3]; exact ⟨h1, h2⟩
  have hnil : ∀ m', Ok m' out → Ok m' (out ++ []) := fun m' h => by rw [List.append_nil]; exact h
  unfold Hf.step at hs
  unfold PhOk at hp
  cases hph : m.ph with
  | head =>
    rw [hph] at hs
    dsimp only at hs
    split at hs
    · injection hs with hs
      subst hs
      unfold headM
      rcases num (bs.take 3) / 2 with _ | _ | _ | _
      · exact hnil _ ⟨h.fll, h.fl, h.row, h.rowl, h.bytes, fun _ => trivial⟩
      · exact hnil _ ⟨h.fll, h.fl, h.row, h.rowl, h.bytes, fun _ => ⟨Tab.fixL, Tab.fixD, fixL_len, fixD_len⟩⟩
      · exact hnil _ ⟨h.fll, h.fl, h.row, h.rowl, h.bytes, fun _ => trivial⟩
      · exact hnil _ ⟨h.fll, h.fl, h.row, h.rowl, h.bytes, fun h0 => by cases h0⟩
    · cases hs
  | sth =>
    rw [hph] at hs
    dsimp only at hs
    split at hs
    · injection hs with hs
      subst hs
      dsimp only [sthM]
      split
      · exact hnil _ ⟨h.fll, h.fl, h.row, h.rowl, h.bytes, fun _ => by show _ % 65536 ≤ 65535; omega⟩
      · exact hnil _ ⟨h.fll, h.fl, h.row, h.rowl, h.bytes, fun h0 => by cases h0⟩
    · cases hs
  | sto =>
    rw [hph] at hs hp
    dsimp only at hs hp
    split at hs
    · injection hs with hs
      subst hs
      exact hnil _ ⟨h.fll, h.fl, h.row, h.rowl, h.bytes, fun _ => trivial⟩
    · split at hs
      · injection hs with hs
        subst hs
        have hv := num_take_lt bs (n := 8)
        dsimp only [stoM]
        split
        · exact ⟨h.fll, h.fl, h.row, h.rowl, hb _ (by omega) (by omega), fun _ => trivial⟩
        · exact ⟨h.fll, h.fl, h.row, h.rowl, hb _ (by omega) (by omega), fun _ => by unfold PhOk; dsimp only; rw [hph]; dsimp only; omega⟩
      · cases hs
  | cts =>
    rw [hph] at hs
    dsimp only at hs
    split at hs
    · injection hs with hs
      subst hs
      have hv := num_take_lt bs (n := 14)
      generalize num (bs.take 14) = v at hv
      unfold ctsM
      dsimp only
      split
      · exact hnil _ ⟨h.fll, h.fl, h.row, h.rowl, h.bytes, fun h0 => by cases h0⟩
      · exact hnil _ ⟨by simp, fun x hx => by rw [(List.mem_replicate.1 hx).2]; omega, h.row, h.rowl, h.bytes, fun _ => ⟨⟨by dsimp only; omega, by dsimp only; omega, by dsimp only; omega⟩, by dsimp only; omega, by dsimp only; omega⟩⟩
    · cases hs
  | lol =>
    rw [hph] at hs hp
    dsimp only at hs hp
    split at hs
    · injection hs with hs
      subst hs
      have hv := num_take_lt bs (n := 3)
      generalize num (bs.take 3) = v at hv
      have hfl : ∀ x ∈ m.fl.set (ord.getD m.order 0) v, x ≤ 7 := fun x hx => mem_set_le h.fl (by omega) hx
      have hfll : (m.fl.set (ord.getD m.order 0) v).length = 19 := by rw [List.length_set]; exact h.fll
      unfold lolM
      dsimp only
      split
      · rename_i h1
        exact hnil _ ⟨hfll, hfl, h.row, h.rowl, h.bytes, fun _ => by unfold PhOk; dsimp only; rw [hph]; exact ⟨⟨hp.1.1, hp.1.2, hp.1.3⟩, hp.2.1, h1⟩⟩
      · split
        · rename_i h2
          exact hnil _ ⟨hfll, hfl, fun x hx => (by cases hx), by simp, h.bytes, fun _ => ⟨⟨hp.1.1, hp.1.2, hp.1.3⟩, ⟨fun n hn => by have := hfl n hn; omega, by show kraft _ ≤ _; rw [h2]; decide⟩, h2, hfll, by have h9 : m.lits < m.wanted := hp.1.2; show 0 < m.wanted; omega⟩⟩
        · exact hnil _ ⟨hfll, hfl, h.row, h.rowl, h.bytes, fun h0 => by cases h0⟩
    · cases hs
  | len =>
    rw [hph] at hs hp
    dsimp only at hs hp
    cases hd : dec m.cd bs with
    | got s k =>
      rw [hd] at hs
      injection hs with hs
      subst hs
      have hlt := dec_lt hd
      rw [hp.size] at hlt
      dsimp only [lenM]
      split
      · exact hnil _ (h.lay hp 1 s (by omega))
      · split
        · exact hnil _ (h.stop (by decide))
        · rename_i h1 h2
          exact hnil _ ⟨h.fll, h.fl, h.row, h.rowl, h.bytes, fun _ => ⟨⟨⟨hp.1.1, hp.1.2, hp.1.3⟩, hp.2, hp.3, hp.4, hp.5⟩, ⟨by dsimp only; omega, by dsimp only; omega⟩, fun h3 => by dsimp only at h3 ⊢; omega⟩⟩
    | bad j => rw [hd] at hs; cases hs
    | more => rw [hd] at hs; cases hs
  | rep =>
    rw [hph] at hs hp
    dsimp only at hs hp
    split at hs
    · injection hs with hs
      subst hs
      refine hnil _ (h.lay hp.1 _ _ ?_)
      unfold repX
      split
      · rw [List.getD_eq_getElem?_getD]
        cases hg : m.row[m.row.length - 1]? with
        | none => simp
        | some x => exact h.row x (List.mem_of_getElem? hg)
      · omega
    · cases hs
  | lit =>
    rw [hph] at hs hp
    dsimp only at hs hp
    cases hd : dec m.lt bs with
    | got s k =>
      rw [hd] at hs
      injection hs with hs
      subst hs
      dsimp only [litM]
      split
      · exact hnil _ (h.stop (by decide))
      · split
        · exact ⟨h.fll, h.fl, h.row, h.rowl, hb _ (by omega) (by omega), fun _ => by unfold PhOk; dsimp only; rw [hph]; exact hp⟩
        · split
          · exact hnil _ ⟨h.fll, h.fl, h.row, h.rowl, h.bytes, fun _ => trivial⟩
          · exact hnil _ ⟨h.fll, h.fl, h.row, h.rowl, h.bytes, fun _ => ⟨⟨hp.1, hp.2, hp.3, hp.4⟩, by dsimp only; omega⟩⟩
    | bad j => rw [hd] at hs; injection hs with hs; subst hs; exact hnil _ (h.stop (by decide))
    | more => rw [hd] at hs; cases hs
  | lbits =>
    rw [hph] at hs hp
    dsimp only at hs hp
    split at hs
    · injection hs with hs
      subst hs
      have hv := num_take_lt bs (n := mL.getD m.sym 0)
      generalize num (bs.take (mL.getD m.sym 0)) = v at hv
      have hall : ∀ s : _root_.Fin 29, 3 ≤ lL.getD s.val 0 ∧ lL.getD s.val 0 + 2 ^ mL.getD s.val 0 ≤ 259 := by decide +kernel
      have h2 := hall ⟨m.sym, by omega⟩
      dsimp only at h2
      exact hnil _ ⟨h.fll, h.fl, h.row, h.rowl, h.bytes, fun _ => ⟨⟨hp.1.1, hp.1.2, hp.1.3, hp.1.4⟩, by dsimp only; omega, by dsimp only; omega⟩⟩
    · cases hs
  | dst =>
    rw [hph] at hs hp
    dsimp only at hs hp
    cases hd : dec m.ds bs with
    | got s k =>
      rw [hd] at hs
      injection hs with hs
      subst hs
      dsimp only [dstM]
      split
      · exact hnil _ (h.stop (by decide))
      · exact hnil _ ⟨h.fll, h.fl, h.row, h.rowl, h.bytes, fun _ => ⟨⟨hp.1.1, hp.1.2, hp.1.3, hp.1.4⟩, hp.2, by dsimp only; omega⟩⟩
    | bad j => rw [hd] at hs; injection hs with hs; subst hs; exact hnil _ (h.stop (by decide))
    | more => rw [hd] at hs; cases hs
  | dbits =>
    rw [hph] at hs hp
    dsimp only at hs hp
    split at hs
    · injection hs with hs
      subst hs
      have hv := num_take_lt bs (n := mB.getD m.sym 0)
      generalize num (bs.take (mB.getD m.sym 0)) = v at hv
      have hall : ∀ s : _root_.Fin 30, 1 ≤ lB.getD s.val 0 ∧ lB.getD s.val 0 + 2 ^ mB.getD s.val 0 ≤ 32769 := by decide +kernel
      have h2 := hall ⟨m.sym, by omega⟩
      dsimp only at h2
      dsimp only [dbM]
      split
      · exact hnil _ ⟨h.fll, h.fl, h.row, h.rowl, h.bytes, fun h0 => by cases h0⟩
      · exact hnil _ ⟨h.fll, h.fl, h.row, h.rowl, h.bytes, fun _ => ⟨⟨hp.1.1, hp.1.2, hp.1.3, hp.1.4⟩, ⟨by dsimp only; omega, by dsimp only; omega⟩, ⟨by dsimp only; omega, by dsimp only; omega⟩, by dsimp only; omega⟩⟩
    · cases hs
  | cpy =>
    rw [hph] at hs hp
    dsimp only at hs hp
    injection hs with hs
    subst hs
    have hx : 0 ≤ out.getD (out.length - m.back) 0 ∧ out.getD (out.length - m.back) 0 < 256 := by
      rw [List.getD_eq_getElem?_getD, List.getElem?_eq_getElem (by omega)]
      exact h.bytes _ (List.getElem_mem _)
    refine ⟨h.fll, h.fl, h.row, h.rowl, hb _ hx.1 hx.2, fun _ => ?_⟩
    by_cases h1 : m.left = 1
    · unfold PhOk
      dsimp only
      rw [if_pos h1]
      exact ⟨hp.1.1, hp.1.2, hp.1.3, hp.1.4⟩
    · unfold PhOk
      dsimp only
      rw [if_neg h1]
      exact ⟨⟨hp.1.1, hp.1.2, hp.1.3, hp.1.4⟩, ⟨by omega, by omega⟩, hp.2.2.1, by rw [List.length_append]; omega⟩
end
end Go.Proofs.YtdpnlmofkkdioaaDoor.Hf
