/- report.Same: paths, hits, verdicts. -/
import Derived.Test.YtgjningfpkoooaaDoorQk
namespace Go.Proofs.YtgjningfpkoooaaDoor.Ro
set_option linter.unusedVariables false
set_option linter.unusedSimpArgs false
open Go.RowKit Go.Proofs.YtgjningfpkoooaaDoor.W

theorem rv_cells {w : World} {b off : Nat} {l : List Int} (h : RV w (some ⟨b, off, none⟩) (is64 l)) : ∀ j, j < l.length → w.cell? ⟨b, off + j, none⟩ = some (.int .i64 (l.getD j 0)) := fun j hj => by
  obtain ⟨b', off', h1, _, h3⟩ := h j (.int .i64 (l.getD j 0)) (by unfold is64; rw [List.getElem?_map, List.getD_eq_getElem?_getD, List.getElem?_eq_getElem hj]; rfl)
  injection h1 with h1
  injection h1 with h1 h2
  subst h1 h2
  exact h3
def EqIs (w : World) (b : Bool) (e : Ending) (w' : World) : Prop := e = .returned (.bool b) ∧ Below w.heap.size w w'
theorem c_eqi (A A2 : Option Addr) (n m c d : Nat) (l l2 : List Int) (w : World) (hl : l.length = n) (hm : l2.length = m) (hn : n ≤ 1000000000000) (hm2 : m ≤ 1000000000000) (hr : RV w A (is64 l)) (hr2 : RV w A2 (is64 l2)) : Calls Tryd.prog 52 #[.slice A n c, .slice A2 m d] w (EqIs w (decide (l = l2))) := by
  by_cases h : n = m
  · by_cases h0 : n = 0
    · subst h
      subst h0
      have e1 : l = [] := List.eq_nil_of_length_eq_zero hl
      have e2 : l2 = [] := List.eq_nil_of_length_eq_zero hm
      subst e1 e2
      refine (Tryd.slices_Equal_int_empty A A2 c 0 d w (by omega)).mono ?_
      rintro e w' ⟨rfl, rfl⟩
      exact ⟨rfl, Below.refl _ _⟩
    · obtain ⟨b1, o1, rfl, _⟩ := hr.addr (by unfold is64; rw [List.length_map]; omega)
      obtain ⟨b2, o2, rfl, _⟩ := hr2.addr (by unfold is64; rw [List.length_map]; omega)
      refine (Tryd.slices_Equal_int b1 o1 n c b2 o2 m d l l2 w (by omega) (by omega) (by omega) (by omega) (rv_cells hr) (rv_cells hr2)).mono ?_
      rintro e w' ⟨rfl, hd⟩
      refine ⟨?_, below_drawn hd⟩
      rw [List.take_of_length_le (by omega), List.take_of_length_le (by omega)]
      congr 2
      by_cases he : l = l2
      · rw [he]; simp
      · rw [decide_eq_false he]; exact beq_eq_false_iff_ne.2 he
  · refine (Tryd.slices_Equal_int_lens A A2 n c m d w h).mono ?_
    rintro e w' ⟨rfl, rfl⟩
    refine ⟨?_, Below.refl _ _⟩
    rw [decide_eq_false (fun he => h (by rw [← hl, ← hm, he]))]
set_option maxHeartbeats 4000000 in
set_option maxRecDepth 100000 in
theorem c_same1 (x1 x3 y1 y3 : Int) (A A2 : Option Addr) (n m c d : Nat) (l l2 : List Int) (w : World) (hl : l.length = n) (hm : l2.length = m) (hn : n ≤ 1000000000000) (hm2 : m ≤ 1000000000000) (hr : RV w A (is64 l)) (hr2 : RV w A2 (is64 l2)) :
    Calls Tryd.prog 51 #[.agg #[.int .i64 x1, .slice A n c, .int .i64 x3], .agg #[.int .i64 y1, .slice A2 m d, .int .i64 y3]] w (EqIs w (decide (((x1, l, x3) : Ht) = (y1, l2, y3)))) := by
  obtain ⟨w1, hw1⟩ : ∃ w1, (w.alloc (.cells #[.int .i64 x1, .slice A n c, .int .i64 x3] 44)).alloc (.cells #[.int .i64 y1, .slice A2 m d, .int .i64 y3] 44) = w1 := ⟨_, rfl⟩
  have HB1 := Lib.hid (show Below w.heap.size w w1 by rw [← hw1]; exact ((Below.refl _ _).alloc (Nat.le_refl _) _).alloc (by simp) _)
  have C1 := Lib.hid (c_eqi A A2 n m c d l l2 w1 hl hm hn hm2 (hr.below HB1.out) (hr2.below HB1.out))
  have s0 := Below.heap_alloc (w.alloc (.cells #[.int .i64 x1, .slice A n c, .int .i64 x3] 44)) (.cells #[.int .i64 y1, .slice A2 m d, .int .i64 y3] 44) w.heap.size (by simp)
  have s1 := s0.trans (heap_alloc_new w _)
  have s2 := heap_alloc_new (w.alloc (.cells #[.int .i64 x1, .slice A n c, .int .i64 x3] 44)) (.cells #[.int .i64 y1, .slice A2 m d, .int .i64 y3] 44)
  rw [hw1] at s1 s2
  have hz : (w.alloc (.cells #[.int .i64 x1, .slice A n c, .int .i64 x3] 44)).heap.size = w.heap.size + 1 := by simp
  rw [hz] at s2
  have a0 := cell_of_row w1 _ 0 _ _ _ s1
  have a1 := cell_of_row w1 _ 1 _ _ _ s1
  have a2 := cell_of_row w1 _ 2 _ _ _ s1
  have b0 := cell_of_row w1 _ 0 _ _ _ s2
  have b1 := cell_of_row w1 _ 1 _ _ _ s2
  have b2 := cell_of_row w1 _ 2 _ _ _ s2
  obtain ⟨o, ho⟩ : ∃ o, decide (l = l2) = o := ⟨_, rfl⟩
  have HO := Lib.hid ho
  clear s0 s1 s2 hz hl hm hn hm2 hr hr2 ho
  by_cases h1 : x1 = y1
  · by_cases h3 : x3 = y3
    · have i1 : (x1 == y1) = true := W.eqT h1
      have i3 : (x3 == y3) = true := W.eqT h3
      have HH := Lib.hid (show decide (((x1, l, x3) : Ht) = (y1, l2, y3)) = o by rw [← HO.out, h1, h3]; simp)
      clear h1 h3
      go_enter Tryd.func51, Tryd.ntmps51
      go_wp2_with (first
        | (go_at_call 52; go_must (refine C1.out.mono ?_); rintro e w2 ⟨he, hb⟩; rw [HO.out] at he; subst he; have HB2 := Lib.hid (HB1.out.trans (hb.mono HB1.out.size)); clear hb))
      go_ret
      exact ⟨by rw [HH.out]; rfl, HB2.out⟩
    · have i1 : (x1 == y1) = true := W.eqT h1
      have i3 : (x3 == y3) = false := W.eqF h3
      have HH := Lib.hid (show decide (((x1, l, x3) : Ht) = (y1, l2, y3)) = false from decide_eq_false (fun h => h3 (by injection h with _ h; injection h)))
      clear h1 h3
      go_enter Tryd.func51, Tryd.ntmps51
      go_wp2_with (fail)
      go_ret
      exact ⟨by rw [HH.out]; rfl, HB1.out⟩
  · have i1 : (x1 == y1) = false := W.eqF h1
    have HH := Lib.hid (show decide (((x1, l, x3) : Ht) = (y1, l2, y3)) = false from decide_eq_false (fun h => h1 (by injection h)))
    clear h1
    go_enter Tryd.func51, Tryd.ntmps51
    go_wp2_with (fail)
    go_ret
    exact ⟨by rw [HH.out]; rfl, HB1.out⟩
set_option maxHeartbeats 4000000 in
set_option maxRecDepth 100000 in
theorem c_same2 (x3 y3 : Int) (A A2 : Option Addr) (n m c d : Nat) (l l2 : List Int) (w : World) (hl : l.length = n) (hm : l2.length = m) (hn : n ≤ 1000000000000) (hm2 : m ≤ 1000000000000) (hr : RV w A (is64 l)) (hr2 : RV w A2 (is64 l2)) :
    Calls Tryd.prog 54 #[.agg #[.slice A n c, .int .i64 x3], .agg #[.slice A2 m d, .int .i64 y3]] w (EqIs w (decide (((l, x3) : Vd) = (l2, y3)))) := by
  obtain ⟨w1, hw1⟩ : ∃ w1, (w.alloc (.cells #[.slice A n c, .int .i64 x3] 68)).alloc (.cells #[.slice A2 m d, .int .i64 y3] 68) = w1 := ⟨_, rfl⟩
  have HB1 := Lib.hid (show Below w.heap.size w w1 by rw [← hw1]; exact ((Below.refl _ _).alloc (Nat.le_refl _) _).alloc (by simp) _)
  have C1 := Lib.hid (c_eqi A A2 n m c d l l2 w1 hl hm hn hm2 (hr.below HB1.out) (hr2.below HB1.out))
  have s0 := Below.heap_alloc (w.alloc (.cells #[.slice A n c, .int .i64 x3] 68)) (.cells #[.slice A2 m d, .int .i64 y3] 68) w.heap.size (by simp)
  have s1 := s0.trans (heap_alloc_new w _)
  have s2 := heap_alloc_new (w.alloc (.cells #[.slice A n c, .int .i64 x3] 68)) (.cells #[.slice A2 m d, .int .i64 y3] 68)
  rw [hw1] at s1 s2
  have hz : (w.alloc (.cells #[.slice A n c, .int .i64 x3] 68)).heap.size = w.heap.size + 1 := by simp
  rw [hz] at s2
  have a0 := cell_of_row w1 _ 0 _ _ _ s1
  have a1 := cell_of_row w1 _ 1 _ _ _ s1
  have b0 := cell_of_row w1 _ 0 _ _ _ s2
  have b1 := cell_of_row w1 _ 1 _ _ _ s2
  obtain ⟨o, ho⟩ : ∃ o, decide (l = l2) = o := ⟨_, rfl⟩
  have HO := Lib.hid ho
  clear s0 s1 s2 hz hl hm hn hm2 hr hr2 ho
  by_cases h3 : x3 = y3
  · have i3 : (x3 == y3) = true := W.eqT h3
    have HH := Lib.hid (show decide (((l, x3) : Vd) = (l2, y3)) = o by rw [← HO.out, h3]; simp)
    clear h3
    go_enter Tryd.func54, Tryd.ntmps54
    go_wp2_with (first
      | (go_at_call 52; go_must (refine C1.out.mono ?_); rintro e w2 ⟨he, hb⟩; rw [HO.out] at he; subst he; have HB2 := Lib.hid (HB1.out.trans (hb.mono HB1.out.size)); clear hb))
    go_ret
    exact ⟨by rw [HH.out]; rfl, HB2.out⟩
  · have i3 : (x3 == y3) = false := W.eqF h3
    have HH := Lib.hid (show decide (((l, x3) : Vd) = (l2, y3)) = false from decide_eq_false (fun h => h3 (by injection h)))
    clear h3
    go_enter Tryd.func54, Tryd.ntmps54
    go_wp2_with (fail)
    go_ret
    exact ⟨by rw [HH.out]; rfl, HB1.out⟩
end Go.Proofs.YtgjningfpkoooaaDoor.Ro
