/- What a line of a part is of a delimiter: the program's test and the reference's; a part's lines (plain). -/
import Derived.Test.YtmalacamfjdimaaRb
namespace Go.Proofs.Ytmalacamfjdimaa.Pt
open Go.RowKit Go.Proofs.Ytmalacamfjdimaa.W

def tstD (r : List Int) : Bool := let r2 := if ([45, 45] : List Int).isPrefixOf r then r.drop 2 else r; decide (r2.length ≤ 16) && blk r2
def tst (W line : List Int) : Bool := W.isPrefixOf line && tstD (line.drop W.length)

theorem lkE_two (c : Int) (r : List Int) (last : Bool) : (lkE c r last).1 ≠ 2 := by
  unfold lkE
  repeat' split
  all_goals simp
theorem blk_cons (c : Int) (r : List Int) : blk (c :: r) = (decide (c = 9 ∨ c = 32) && blk r) := by
  unfold blk
  rw [List.all_cons]
  congr 1
  rw [Bool.eq_iff_iff]
  simp
theorem lkB_two (last : Bool) : ∀ (l : List Int) (n : Nat), n ≤ 16 → ((lkB l n last).1 = 2 ↔ (blk l = true ∧ l.length + n ≤ 16)) := by
  intro l
  induction l with
  | nil => intro n hn; simp [lkB, blk, hn]
  | cons c r ih =>
    intro n hn
    rw [lkB, blk_cons]
    by_cases hc : c = 9 ∨ c = 32
    · rw [if_pos hc]
      by_cases h16 : n = 16
      · rw [if_pos h16]; simp; omega
      · rw [if_neg h16, ih (n + 1) (by omega)]
        simp [hc]
        intro _
        omega
    · rw [if_neg hc]
      simp [hc, lkE_two]
theorem lkD_two (l : List Int) : (lkD l).1 = 2 ↔ tstD l = true := by
  have key : ∀ (l : List Int) (last : Bool), (lkB l 0 last).1 = 2 ↔ (decide (l.length ≤ 16) && blk l) = true := fun l last => by
    rw [lkB_two last l 0 (by omega)]
    simp [and_comm]
  unfold tstD
  cases l with
  | nil => simp [lkD, lkB, blk]
  | cons c r =>
    by_cases hc : c = 45
    · subst hc
      cases r with
      | nil => simp [lkD, blk]
      | cons d r2 =>
        by_cases hd : d = 45
        · subst hd
          simp only [lkD, if_true, List.isPrefixOf, beq_self_eq_true, Bool.true_and, List.drop_succ_cons, List.drop_zero]
          exact key r2 true
        · have hd2 : (45 == d) = false := by rw [beq_eq_false_iff_ne]; exact fun e => hd e.symm
          simp [lkD, hd, List.isPrefixOf, blk, hd2]
    · have hc2 : ((45 : Int) == c) = false := by rw [beq_eq_false_iff_ne]; exact fun e => hc e.symm
      simp only [lkD, if_neg hc, List.isPrefixOf, hc2, Bool.false_and, Bool.false_eq_true, if_false]
      exact key (c :: r) false
theorem lkW_two (W : List Int) : ∀ l, (lkW l W).1 = 2 ↔ tst W l = true := by
  induction W with
  | nil => intro l; rw [lkW, lkD_two]; simp [tst]
  | cons w ws ih =>
    intro l
    cases l with
    | nil => simp [lkW, tst]
    | cons c r =>
      rw [lkW]
      by_cases hc : c = w
      · subst hc
        rw [if_pos rfl, ih r]
        simp [tst, List.isPrefixOf]
      · rw [if_neg hc]
        have : (w == c) = false := by rw [beq_eq_false_iff_ne]; exact fun e => hc e.symm
        simp [tst, List.isPrefixOf, this]
theorem look_two (W l : List Int) : (look W l true).1 = 2 ↔ tst W l = true := by
  unfold look
  rw [if_pos rfl]
  exact lkW_two W l

/-- Where the first byte 10 stands. -/
def nl (p : List Int) : Nat := (p.takeWhile fun x => decide (x ≠ 10)).length
def strip (l : List Int) : List Int := if l.getLast? = some 13 then l.dropLast else l
def hasF (W : List Int) : Nat → List Int → Bool
  | 0, _ => false
  | g + 1, p => if nl p < p.length then tst W (strip (p.take (nl p))) || hasF W g (p.drop (nl p + 1)) else tst W p
def hasW (W p : List Int) : Bool := hasF W (p.length + 1) p

theorem nl_le (p : List Int) : nl p ≤ p.length := (List.takeWhile_sublist _).length_le
theorem nl_not (p : List Int) : ∀ x ∈ p.take (nl p), x ≠ 10 := by
  intro x hx
  have e : p.take (nl p) = p.takeWhile fun x => decide (x ≠ 10) := by
    unfold nl
    conv => lhs; arg 2; rw [← List.takeWhile_append_dropWhile (p := fun x => decide (x ≠ 10)) (l := p)]
    exact List.take_left
  rw [e] at hx
  have := List.all_eq_true.1 (List.all_takeWhile (p := fun x => decide (x ≠ 10)) (l := p)) x hx
  simpa using this
theorem nl_at {p : List Int} (h : nl p < p.length) : p[nl p]? = some 10 := by
  induction p with
  | nil => simp at h
  | cons a r ih =>
    unfold nl at h ⊢
    rw [List.takeWhile_cons] at h ⊢
    by_cases ha : a = 10
    · subst ha; simp
    · rw [if_pos (by simpa using ha)] at h ⊢
      simp only [List.length_cons, List.getElem?_cons_succ] at h ⊢
      exact ih (by unfold nl; omega)
theorem nl_eq {p : List Int} {k : Nat} (h1 : ∀ j x, j < k → p[j]? = some x → x ≠ 10) (h2 : k = p.length ∨ p[k]? = some 10) (hk : k ≤ p.length) : nl p = k := by
  have hle := nl_le p
  rcases Nat.lt_trichotomy (nl p) k with h | h | h
  · exact absurd rfl (h1 (nl p) 10 h (nl_at (by omega)))
  · exact h
  · rcases h2 with h2 | h2
    · omega
    · have := nl_not p 10 (by
        refine List.mem_of_getElem? (i := k) ?_
        rw [List.getElem?_take, if_pos h]; exact h2)
      exact absurd rfl this
end Go.Proofs.Ytmalacamfjdimaa.Pt
