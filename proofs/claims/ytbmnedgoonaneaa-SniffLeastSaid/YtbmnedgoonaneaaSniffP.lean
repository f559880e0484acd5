/- The plain law: what sniff.Sniff computes is what the reference's Sniff computes. No program in sight. -/
import Derived.Test.YtbmnedgoonaneaaSniffR
namespace Go.Proofs.Ytbmnedgoonaneaa.Sn
open Go.RowKit Go.Proofs.Ytbmnedgoonaneaa.W

theorem cmp_cases (l : List Int) : ∀ (t : List Int) (i : Nat), cmp l i t = 0 ∨ cmp l i t = 1 ∨ cmp l i t = 2
  | [], _ => .inr (.inr rfl)
  | t :: ts, i => by
    rw [cmp]
    split
    · exact .inl rfl
    · split
      · exact cmp_cases l ts (i + 1)
      · exact .inr (.inl rfl)

theorem cmp_two (l : List Int) : ∀ (t : List Int) (i : Nat), cmp l i t = 2 ↔ (l.drop i).take t.length = t
  | [], i => by simp [cmp]
  | t :: ts, i => by
    rw [cmp]
    split
    · rename_i h
      rw [List.drop_eq_nil_of_le (List.getElem?_eq_none_iff.1 h)]
      simp
    · rename_i b h
      obtain ⟨hi, hb⟩ := List.getElem?_eq_some_iff.1 h
      rw [List.drop_eq_getElem_cons hi, hb, List.length_cons, List.take_succ_cons, List.cons.injEq]
      split
      · rename_i e
        rw [cmp_two l ts (i + 1)]
        exact ⟨fun h => ⟨e, h⟩, fun h => h.2⟩
      · rename_i e
        exact ⟨fun h => absurd h (by decide), fun h => absurd h.1 e⟩

theorem cmp_ext1 (l r : List Int) : ∀ (t : List Int) (i : Nat), cmp l i t = 1 → cmp (l ++ r) i t = 1
  | [], i => by simp [cmp]
  | t :: ts, i => by
    intro h
    rw [cmp] at h ⊢
    split at h
    · cases h
    · rename_i b hb
      have hb2 : (l ++ r)[i]? = some b := by rw [List.getElem?_append_left (List.getElem?_eq_some_iff.1 hb).1]; exact hb
      rw [hb2]
      split at h
      · rename_i e
        simp only [if_pos e]
        exact cmp_ext1 l r ts (i + 1) h
      · rename_i e
        simp only [if_neg e]

theorem cmp_ext2 (l r : List Int) (t : List Int) (i : Nat) (h : cmp l i t = 2) : cmp (l ++ r) i t = 2 := by
  rw [cmp_two] at h ⊢
  have hl : t.length ≤ (l.drop i).length := by
    have := congrArg List.length h
    rw [List.length_take] at this
    omega
  rcases Nat.lt_or_ge l.length i with hlt | hge
  · rw [List.length_drop] at hl
    have h0 : t = [] := List.eq_nil_of_length_eq_zero (by omega)
    subst h0
    simp
  · rw [List.drop_append_of_le_length hge, List.take_append_of_le_length hl]
    exact h

theorem cmp_zero (l : List Int) : ∀ (t : List Int) (i : Nat), cmp l i t = 0 → ∃ k, k < t.length ∧ l.drop i = t.take k ∧ l.length ≤ i + k
  | [], i => by simp [cmp]
  | t :: ts, i => by
    intro h
    rw [cmp] at h
    split at h
    · rename_i hn
      have := List.getElem?_eq_none_iff.1 hn
      exact ⟨0, by simp, by rw [List.drop_eq_nil_of_le this]; rfl, by omega⟩
    · rename_i b hb
      obtain ⟨hi, hb⟩ := List.getElem?_eq_some_iff.1 hb
      split at h
      · rename_i e
        obtain ⟨k, hk, hd, hle⟩ := cmp_zero l ts (i + 1) h
        exact ⟨k + 1, by simp; omega, by rw [List.drop_eq_getElem_cons hi, hb, hd, e, List.take_succ_cons], by omega⟩
      · cases h

theorem gz_cmp (l : List Int) : gz l = true ↔ cmp l 0 [31, 139, 8] = 2 := by
  rw [cmp_two]
  rcases l with _ | ⟨a, _ | ⟨b, _ | ⟨c, l⟩⟩⟩ <;> simp [gz, and_assoc]
theorem zp_cmp (l : List Int) : zp l = true ↔ cmp l 0 [80, 75, 3, 4] = 2 := by
  rw [cmp_two]
  rcases l with _ | ⟨a, _ | ⟨b, _ | ⟨c, _ | ⟨d, l⟩⟩⟩⟩ <;> simp [zp, and_assoc]

theorem bytes_str {l : List Int} (h : Bytes l) {t : List UInt8} : (strOfNums l).toList = t ↔ l = t.map fun x => (x.toNat : Int) := by
  rw [ByteArray.toList_eq, strOfNums_data]
  constructor
  · rintro rfl
    rw [List.map_map]
    conv => lhs; rw [← List.map_id l]
    apply List.map_congr_left
    intro x hx
    have := h x hx
    simp
    omega
  · rintro rfl
    rw [List.map_map]
    conv => rhs; rw [← List.map_id t]
    apply List.map_congr_left
    intro x _
    simp

theorem ut_cmp {l : List Int} (h : Bytes l) : ut l = true ↔ cmp l 257 [117, 115, 116, 97, 114] = 2 := by
  have hb : Bytes ((l.drop 257).take 5) := fun x hx => h x (List.mem_of_mem_drop (List.mem_of_mem_take hx))
  rw [cmp_two, ut, Bool.and_eq_true, decide_eq_true_iff, beq_iff_eq, bytes_str hb]
  refine ⟨fun h => h.2, fun h => ⟨?_, h⟩⟩
  have := congrArg List.length h
  rw [List.length_take, List.length_drop] at this
  simp at this
  omega

theorem kind_cmp {l : List Int} (h : Bytes l) : kind l = if cmp l 0 [31, 139, 8] = 2 then 7 else if cmp l 0 [80, 75, 3, 4] = 2 then 9 else if cmp l 257 [117, 115, 116, 97, 114] = 2 then 8 else 1 := by
  unfold kind
  simp only [gz_cmp, zp_cmp, ut_cmp h]

theorem sniff_open (l : List Int) : ∀ ms, sniff l false true ms = (0, false)
  | [] => rfl
  | (k, a, t) :: ms => by
    unfold sniff
    simp only [sniff_open l ms]
    simp

theorem bytes_append {a b : List Int} (ha : Bytes a) (hb : Bytes b) : Bytes (a ++ b) := fun x hx => (List.mem_append.1 hx).elim (ha x) (hb x)
theorem files_ext {l x : List Int} (hb : Bytes l) (h : x ∈ filesL l) : Bytes x ∧ ∃ r, x = l ++ r := by
  simp only [filesL, List.mem_cons, List.not_mem_nil, or_false] at h
  rcases h with rfl | rfl | rfl | rfl
  · exact ⟨hb, [], by simp⟩
  · exact ⟨bytes_append hb (fun y hy => by have := List.mem_of_mem_drop hy; simp at this; omega), _, rfl⟩
  · exact ⟨bytes_append hb (fun y hy => by have := List.mem_of_mem_drop hy; simp at this; omega), _, rfl⟩
  · refine ⟨bytes_append (bytes_append hb (fun y hy => ?_)) (fun y hy => ?_), _, by rw [ust, fill, List.append_assoc]⟩
    · have := List.eq_of_mem_replicate hy; omega
    · have := List.mem_of_mem_drop hy; simp at this; omega

theorem all_false {l x : List Int} (hm : x ∈ filesL l) (hne : kind x ≠ kind l) : refS l false = (0, false) := by
  have : (filesL l).all (fun x => kind x == kind l) = false := by
    rw [List.all_eq_false]
    exact ⟨x, hm, by simpa using hne⟩
  simp [refS, this]
theorem all_true {l : List Int} (h : ∀ x ∈ filesL l, kind x = kind l) : refS l false = (kind l, true) := by
  have : (filesL l).all (fun x => kind x == kind l) = true := by
    rw [List.all_eq_true]
    intro x hx
    simpa using h x hx
  simp [refS, this]

theorem sniff_ref {l : List Int} (hb : Bytes l) (e : Bool) : sniff l e false marks = refS l e := by
  have hk := kind_cmp hb
  cases e with
  | true =>
    show _ = (kind l, true)
    rw [hk]
    unfold marks
    simp only [sniff]
    rcases cmp_cases l [31, 139, 8] 0 with h | h | h <;> simp [h] <;> rcases cmp_cases l [80, 75, 3, 4] 0 with h1 | h1 | h1 <;> simp [h1] <;> rcases cmp_cases l [117, 115, 116, 97, 114] 257 with h2 | h2 | h2 <;> simp [h2]
  | false =>
    rcases cmp_cases l [31, 139, 8] 0 with hg | hg | hg
    · -- it may become gzip
      have hs : sniff l false false marks = (0, false) := by unfold marks; rw [sniff]; simp [hg, sniff_open]
      rw [hs]
      obtain ⟨k, hk1, hd, hle⟩ := cmp_zero l _ 0 hg
      have hp : padTo l [31, 139, 8] = [31, 139, 8] := by
        rw [List.drop_zero] at hd
        subst hd
        have hk3 : k < 3 := hk1
        have : k = 0 ∨ k = 1 ∨ k = 2 := by omega
        rcases this with rfl | rfl | rfl <;> rfl
      refine (all_false (x := padTo l [31, 139, 8]) (by simp [filesL]) ?_).symm
      rw [hp, hk, hg]
      simp
      split
      · decide
      · split <;> decide
    · have hx1 : ∀ r, cmp (l ++ r) 0 [31, 139, 8] = 1 := fun r => cmp_ext1 l r _ 0 hg
      rcases cmp_cases l [80, 75, 3, 4] 0 with hz | hz | hz
      · have hs : sniff l false false marks = (0, false) := by unfold marks; rw [sniff]; simp [hg]; rw [sniff]; simp [hz, sniff_open]
        rw [hs]
        obtain ⟨k, hk1, hd, hle⟩ := cmp_zero l _ 0 hz
        have hp : padTo l [80, 75, 3, 4] = [80, 75, 3, 4] := by
          rw [List.drop_zero] at hd
          subst hd
          have hk3 : k < 4 := hk1
          have : k = 0 ∨ k = 1 ∨ k = 2 ∨ k = 3 := by omega
          rcases this with rfl | rfl | rfl | rfl <;> rfl
        refine (all_false (x := padTo l [80, 75, 3, 4]) (by simp [filesL]) ?_).symm
        rw [hp, hk, hg, hz]
        simp
        split <;> decide
      · have hx2 : ∀ r, cmp (l ++ r) 0 [80, 75, 3, 4] = 1 := fun r => cmp_ext1 l r _ 0 hz
        rcases cmp_cases l [117, 115, 116, 97, 114] 257 with ht | ht | ht
        · have hs : sniff l false false marks = (0, false) := by unfold marks; rw [sniff]; simp [hg]; rw [sniff]; simp [hz]; rw [sniff]; simp [ht, sniff_open]
          rw [hs]
          obtain ⟨k, hk1, hd, hle⟩ := cmp_zero l _ 257 ht
          have hk5 : k < 5 := hk1
          have hm : ust (fill l) ∈ filesL l := by simp [filesL]
          obtain ⟨hbu, r, hr⟩ := files_ext hb hm
          refine (all_false hm ?_).symm
          have h2 : cmp (ust (fill l)) 257 [117, 115, 116, 97, 114] = 2 := by
            rw [cmp_two]
            rcases Nat.lt_or_ge 257 l.length with hl | hl
            · rw [fill_id (by omega), ust, List.drop_append_of_le_length (by omega), hd]
              have hlen : l.length - 257 = k := by
                have := congrArg List.length hd
                rw [List.length_drop, List.length_take] at this
                simp at this
                omega
              rw [hlen]
              have : k = 0 ∨ k = 1 ∨ k = 2 ∨ k = 3 ∨ k = 4 := by omega
              rcases this with rfl | rfl | rfl | rfl | rfl <;> rfl
            · have hf : (fill l).length = 257 := by simp [fill]; omega
              rw [ust, hf, List.drop_append_of_le_length (by omega), List.drop_eq_nil_of_le (by omega)]
              rfl
          rw [kind_cmp hbu, h2, hk, hg, hz, ht]
          rw [hr, hx1, hx2]
          decide
        · have hs : sniff l false false marks = (1, true) := by unfold marks; rw [sniff]; simp [hg]; rw [sniff]; simp [hz]; rw [sniff]; simp [ht]; rfl
          have hk1 : kind l = 1 := by rw [hk, hg, hz, ht]; rfl
          rw [hs, all_true (fun x hx => by
            obtain ⟨hbx, r, rfl⟩ := files_ext hb hx
            rw [kind_cmp hbx, hx1, hx2, cmp_ext1 l r _ 257 ht, hk1]
            rfl), hk1]
        · have hs : sniff l false false marks = (8, true) := by unfold marks; rw [sniff]; simp [hg]; rw [sniff]; simp [hz]; rw [sniff]; simp [ht]
          have hk1 : kind l = 8 := by rw [hk, hg, hz, ht]; rfl
          rw [hs, all_true (fun x hx => by
            obtain ⟨hbx, r, rfl⟩ := files_ext hb hx
            rw [kind_cmp hbx, hx1, hx2, cmp_ext2 l r _ 257 ht, hk1]
            rfl), hk1]
      · have hs : sniff l false false marks = (9, true) := by unfold marks; rw [sniff]; simp [hg]; rw [sniff]; simp [hz]
        have hk1 : kind l = 9 := by rw [hk, hg, hz]; rfl
        rw [hs, all_true (fun x hx => by
          obtain ⟨hbx, r, rfl⟩ := files_ext hb hx
          rw [kind_cmp hbx, hx1, cmp_ext2 l r _ 0 hz, hk1]
          rfl), hk1]
    · have hs : sniff l false false marks = (7, true) := by unfold marks; rw [sniff]; simp [hg]
      have hk1 : kind l = 7 := by rw [hk, hg]; rfl
      rw [hs, all_true (fun x hx => by
        obtain ⟨hbx, r, rfl⟩ := files_ext hb hx
        rw [kind_cmp hbx, cmp_ext2 l r _ 0 hg, hk1]
        rfl), hk1]
end Go.Proofs.Ytbmnedgoonaneaa.Sn
