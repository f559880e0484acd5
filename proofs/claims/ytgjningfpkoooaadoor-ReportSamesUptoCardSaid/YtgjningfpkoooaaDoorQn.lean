/- report.Same. -/
import Derived.Test.YtgjningfpkoooaaDoorQm
namespace Go.Proofs.YtgjningfpkoooaaDoor.Ro
set_option linter.unusedVariables false
set_option linter.unusedSimpArgs false
open Go.RowKit Go.Proofs.YtgjningfpkoooaaDoor.W

set_option maxHeartbeats 8000000 in
set_option maxRecDepth 100000 in
theorem c_eqfH (A A2 : Option Addr) (n m c d : Nat) (hs hs2 : List Ht) (w : World) (hl : hs.length = n) (hm : hs2.length = m) (hn : n ≤ 1000000000000) (hm2 : m ≤ 1000000000000) (hr : RR hS w 0 A hs) (hr2 : RR hS w 0 A2 hs2) :
    Calls Tryd.prog 50 #[.slice A n c, .slice A2 m d, .func (Fn.func 51) #[] #[]] w (EqIs w (decide (hs = hs2))) := by
  have HL := Lib.hid hl
  have HM := Lib.hid hm
  by_cases hnm : n = m
  · obtain rfl := hnm
    have i1 : ((n : Int) != (n : Int)) = false := W.neF rfl
    have HR := Lib.hid hr
    have HR2 := Lib.hid hr2
    clear hl hm hr hr2 hm2
    go_enter Tryd.func50, Tryd.ntmps50
    go_wp2_with (fail)
    go_loopg [17] n (fun g s17 wx => ∃ i : Nat, i + g = n ∧ s17 = .int .i64 (i : Nat) ∧ Hid (Below w.heap.size w wx ∧ hs.take i = hs2.take i))
    case atStart => exact ⟨0, by omega, rfl, Lib.hid ⟨Below.refl _ _, by rw [List.take_zero, List.take_zero]⟩⟩
    case round =>
      obtain ⟨i, hig, rfl, hst⟩ := hrel
      cases gk with
      | zero =>
        obtain rfl : i = n := by omega
        have hk : ¬ (i : Int) < (i : Int) := by omega
        go_wp2_with (fail)
        go_ret
        refine ⟨?_, hst.out.1⟩
        have h9 := hst.out.2
        rw [List.take_of_length_le (by rw [HL.out]; exact Nat.le_refl _), List.take_of_length_le (by rw [HM.out]; exact Nat.le_refl _)] at h9
        rw [decide_eq_true h9]
        rfl
      | succ g =>
        have hk : (i : Int) < (n : Int) := by omega
        have hk0 : (0 : Int) ≤ (i : Int) := by omega
        obtain ⟨⟨x1, xp, x3⟩, hx⟩ : ∃ x, hs[i]? = some x := ⟨_, List.getElem?_eq_getElem (by rw [HL.out]; omega)⟩
        obtain ⟨⟨y1, yp, y3⟩, hy⟩ : ∃ x, hs2[i]? = some x := ⟨_, List.getElem?_eq_getElem (by rw [HM.out]; omega)⟩
        obtain ⟨gb, off, Ap, np, cp, rfl, hlt, q0, q1, q2, q3, q4, q5, q6⟩ := (HR.out.below hst.out.1).hit hx
        obtain ⟨gb2, off2, Aq, nq, cq, rfl, hlt2, r0, r1, r2, r3, r4, r5, r6⟩ := (HR2.out.below hst.out.1).hit hy
        dsimp only at q0 q1 q2 q3 q6 r0 r1 r2 r3 r6
        have HX := Lib.hid hx
        have HY := Lib.hid hy
        obtain ⟨w3, hw3⟩ : ∃ w3, (wr.alloc (.cells #[.int .i64 x1, .slice Ap np cp, .int .i64 x3] 44)).alloc (.cells #[.int .i64 y1, .slice Aq nq cq, .int .i64 y3] 44) = w3 := ⟨_, rfl⟩
        have HB3 := Lib.hid (show Below wr.heap.size wr w3 by rw [← hw3]; exact ((Below.refl _ _).alloc (Nat.le_refl _) _).alloc (by simp) _)
        have s0 := Below.heap_alloc (wr.alloc (.cells #[.int .i64 x1, .slice Ap np cp, .int .i64 x3] 44)) (.cells #[.int .i64 y1, .slice Aq nq cq, .int .i64 y3] 44) wr.heap.size (by simp)
        have s1 := s0.trans (heap_alloc_new wr _)
        have s2 := heap_alloc_new (wr.alloc (.cells #[.int .i64 x1, .slice Ap np cp, .int .i64 x3] 44)) (.cells #[.int .i64 y1, .slice Aq nq cq, .int .i64 y3] 44)
        rw [hw3] at s1 s2
        have hz : (wr.alloc (.cells #[.int .i64 x1, .slice Ap np cp, .int .i64 x3] 44)).heap.size = wr.heap.size + 1 := by simp
        rw [hz] at s2
        have a0 := cell_of_row w3 _ 0 _ _ _ s1
        have a1 := cell_of_row w3 _ 1 _ _ _ s1
        have a2 := cell_of_row w3 _ 2 _ _ _ s1
        have b0 := cell_of_row w3 _ 0 _ _ _ s2
        have b1 := cell_of_row w3 _ 1 _ _ _ s2
        have b2 := cell_of_row w3 _ 2 _ _ _ s2
        have t0 : (wr.alloc (.cells #[.int .i64 x1, .slice Ap np cp, .int .i64 x3] 44)).cell? ⟨gb2, off2 + i * 3, none⟩ = _ := (Below.cell ((Below.refl wr.heap.size wr).alloc (Nat.le_refl _) _) hlt2).trans r0
        have t1 : (wr.alloc (.cells #[.int .i64 x1, .slice Ap np cp, .int .i64 x3] 44)).cell? ⟨gb2, off2 + i * 3 + 1, none⟩ = _ := (Below.cell ((Below.refl wr.heap.size wr).alloc (Nat.le_refl _) _) hlt2).trans r1
        have t2 : (wr.alloc (.cells #[.int .i64 x1, .slice Ap np cp, .int .i64 x3] 44)).cell? ⟨gb2, off2 + i * 3 + 2, none⟩ = _ := (Below.cell ((Below.refl wr.heap.size wr).alloc (Nat.le_refl _) _) hlt2).trans r2
        have HE3 := Lib.hid (hst.out.1.trans (HB3.out.mono hst.out.1.size))
        have C1 := Lib.hid (c_same1 x1 x3 y1 y3 Ap Aq np nq cp cq xp yp w3 q3 r3 q5 r5 (q6.below HB3.out) (r6.below HB3.out))
        obtain ⟨o, ho⟩ : ∃ o, decide ((x1, xp, x3) = (y1, yp, y3)) = o := ⟨_, rfl⟩
        rw [ho] at C1
        have HO := Lib.hid ho
        clear hx hy q3 r3 q5 r5 q6 r6 ho s0 s1 s2 hz
        cases o with
        | false =>
          go_wp2_with (first
            | (go_at_call 51; go_must (refine C1.out.mono ?_); rintro e w4 ⟨rfl, hb⟩; have HE4 := Lib.hid (HE3.out.trans (hb.mono HE3.out.size)); clear hb))
          go_ret
          refine ⟨?_, HE4.out⟩
          rw [decide_eq_false (fun h => of_decide_eq_false HO.out (by
            have h1 := HX.out
            rw [h, HY.out] at h1
            injection h1 with h1
            exact h1.symm))]
          rfl
        | true =>
          go_wp2_with (first
            | (go_at_call 51; go_must (refine C1.out.mono ?_); rintro e w4 ⟨rfl, hb⟩; have HE4 := Lib.hid (HE3.out.trans (hb.mono HE3.out.size)); clear hb))
          go_roundg g
          case measure => omega
          case rel => exact ⟨i + 1, by omega, by go_num, Lib.hid ⟨HE4.out, by rw [take_snoc' HX.out, take_snoc' HY.out, hst.out.2, of_decide_eq_true HO.out]⟩⟩
  · have i1 : ((n : Int) != (m : Int)) = true := W.neT (by omega)
    have HH := Lib.hid (show decide (hs = hs2) = false from decide_eq_false (fun h => hnm (by rw [← hl, ← hm, h])))
    clear hl hm hr hr2 hnm
    go_enter Tryd.func50, Tryd.ntmps50
    go_wp2_with (fail)
    go_ret
    exact ⟨by rw [HH.out]; rfl, Below.refl _ _⟩
set_option maxHeartbeats 8000000 in
set_option maxRecDepth 100000 in
theorem c_eqfV (A A2 : Option Addr) (n m c d : Nat) (hs hs2 : List Vd) (w : World) (hl : hs.length = n) (hm : hs2.length = m) (hn : n ≤ 1000000000000) (hm2 : m ≤ 1000000000000) (hr : RR vS w 0 A hs) (hr2 : RR vS w 0 A2 hs2) :
    Calls Tryd.prog 53 #[.slice A n c, .slice A2 m d, .func (Fn.func 54) #[] #[]] w (EqIs w (decide (hs = hs2))) := by
  have HL := Lib.hid hl
  have HM := Lib.hid hm
  by_cases hnm : n = m
  · obtain rfl := hnm
    have i1 : ((n : Int) != (n : Int)) = false := W.neF rfl
    have HR := Lib.hid hr
    have HR2 := Lib.hid hr2
    clear hl hm hr hr2 hm2
    go_enter Tryd.func53, Tryd.ntmps53
    go_wp2_with (fail)
    go_loopg [17] n (fun g s17 wx => ∃ i : Nat, i + g = n ∧ s17 = .int .i64 (i : Nat) ∧ Hid (Below w.heap.size w wx ∧ hs.take i = hs2.take i))
    case atStart => exact ⟨0, by omega, rfl, Lib.hid ⟨Below.refl _ _, by rw [List.take_zero, List.take_zero]⟩⟩
    case round =>
      obtain ⟨i, hig, rfl, hst⟩ := hrel
      cases gk with
      | zero =>
        obtain rfl : i = n := by omega
        have hk : ¬ (i : Int) < (i : Int) := by omega
        go_wp2_with (fail)
        go_ret
        refine ⟨?_, hst.out.1⟩
        have h9 := hst.out.2
        rw [List.take_of_length_le (by rw [HL.out]; exact Nat.le_refl _), List.take_of_length_le (by rw [HM.out]; exact Nat.le_refl _)] at h9
        rw [decide_eq_true h9]
        rfl
      | succ g =>
        have hk : (i : Int) < (n : Int) := by omega
        have hk0 : (0 : Int) ≤ (i : Int) := by omega
        obtain ⟨⟨xp, x3⟩, hx⟩ : ∃ x, hs[i]? = some x := ⟨_, List.getElem?_eq_getElem (by rw [HL.out]; omega)⟩
        obtain ⟨⟨yp, y3⟩, hy⟩ : ∃ x, hs2[i]? = some x := ⟨_, List.getElem?_eq_getElem (by rw [HM.out]; omega)⟩
        obtain ⟨gb, off, Ap, np, cp, rfl, hlt, q0, q1, q3, q4, q5, q6⟩ := (HR.out.below hst.out.1).verd hx
        obtain ⟨gb2, off2, Aq, nq, cq, rfl, hlt2, r0, r1, r3, r4, r5, r6⟩ := (HR2.out.below hst.out.1).verd hy
        dsimp only at q0 q1 q3 q6 r0 r1 r3 r6
        have HX := Lib.hid hx
        have HY := Lib.hid hy
        obtain ⟨w3, hw3⟩ : ∃ w3, (wr.alloc (.cells #[.slice Ap np cp, .int .i64 x3] 68)).alloc (.cells #[.slice Aq nq cq, .int .i64 y3] 68) = w3 := ⟨_, rfl⟩
        have HB3 := Lib.hid (show Below wr.heap.size wr w3 by rw [← hw3]; exact ((Below.refl _ _).alloc (Nat.le_refl _) _).alloc (by simp) _)
        have s0 := Below.heap_alloc (wr.alloc (.cells #[.slice Ap np cp, .int .i64 x3] 68)) (.cells #[.slice Aq nq cq, .int .i64 y3] 68) wr.heap.size (by simp)
        have s1 := s0.trans (heap_alloc_new wr _)
        have s2 := heap_alloc_new (wr.alloc (.cells #[.slice Ap np cp, .int .i64 x3] 68)) (.cells #[.slice Aq nq cq, .int .i64 y3] 68)
        rw [hw3] at s1 s2
        have hz : (wr.alloc (.cells #[.slice Ap np cp, .int .i64 x3] 68)).heap.size = wr.heap.size + 1 := by simp
        rw [hz] at s2
        have a0 := cell_of_row w3 _ 0 _ _ _ s1
        have a1 := cell_of_row w3 _ 1 _ _ _ s1
        have b0 := cell_of_row w3 _ 0 _ _ _ s2
        have b1 := cell_of_row w3 _ 1 _ _ _ s2
        have t0 : (wr.alloc (.cells #[.slice Ap np cp, .int .i64 x3] 68)).cell? ⟨gb2, off2 + i * 2, none⟩ = _ := (Below.cell ((Below.refl wr.heap.size wr).alloc (Nat.le_refl _) _) hlt2).trans r0
        have t1 : (wr.alloc (.cells #[.slice Ap np cp, .int .i64 x3] 68)).cell? ⟨gb2, off2 + i * 2 + 1, none⟩ = _ := (Below.cell ((Below.refl wr.heap.size wr).alloc (Nat.le_refl _) _) hlt2).trans r1
        have HE3 := Lib.hid (hst.out.1.trans (HB3.out.mono hst.out.1.size))
        have C1 := Lib.hid (c_same2 x3 y3 Ap Aq np nq cp cq xp yp w3 q3 r3 q5 r5 (q6.below HB3.out) (r6.below HB3.out))
        obtain ⟨o, ho⟩ : ∃ o, decide ((xp, x3) = (yp, y3)) = o := ⟨_, rfl⟩
        rw [ho] at C1
        have HO := Lib.hid ho
        clear hx hy q3 r3 q5 r5 q6 r6 ho s0 s1 s2 hz
        cases o with
        | false =>
          go_wp2_with (first
            | (go_at_call 54; go_must (refine C1.out.mono ?_); rintro e w4 ⟨rfl, hb⟩; have HE4 := Lib.hid (HE3.out.trans (hb.mono HE3.out.size)); clear hb))
          go_ret
          refine ⟨?_, HE4.out⟩
          rw [decide_eq_false (fun h => of_decide_eq_false HO.out (by
            have h1 := HX.out
            rw [h, HY.out] at h1
            injection h1 with h1
            exact h1.symm))]
          rfl
        | true =>
          go_wp2_with (first
            | (go_at_call 54; go_must (refine C1.out.mono ?_); rintro e w4 ⟨rfl, hb⟩; have HE4 := Lib.hid (HE3.out.trans (hb.mono HE3.out.size)); clear hb))
          go_roundg g
          case measure => omega
          case rel => exact ⟨i + 1, by omega, by go_num, Lib.hid ⟨HE4.out, by rw [take_snoc' HX.out, take_snoc' HY.out, hst.out.2, of_decide_eq_true HO.out]⟩⟩
  · have i1 : ((n : Int) != (m : Int)) = true := W.neT (by omega)
    have HH := Lib.hid (show decide (hs = hs2) = false from decide_eq_false (fun h => hnm (by rw [← hl, ← hm, h])))
    clear hl hm hr hr2 hnm
    go_enter Tryd.func53, Tryd.ntmps53
    go_wp2_with (fail)
    go_ret
    exact ⟨by rw [HH.out]; rfl, Below.refl _ _⟩
set_option maxHeartbeats 8000000 in
set_option maxRecDepth 100000 in
theorem c_same (A : Option Addr) (n c : Nat) (A2 : Option Addr) (m c2 : Nat) (r : Rp) (P : Option Addr) (k d : Nat) (P2 : Option Addr) (l d2 : Nat) (q : Rp) (w : World) (hr : RepAt w 0 A n c A2 m c2 r) (hq : RepAt w 0 P k d P2 l d2 q) (hn : n ≤ 1000000000000) (hm : m ≤ 1000000000000) (hk : k ≤ 1000000000000) (hl : l ≤ 1000000000000) :
    Calls Tryd.prog 30 #[.agg #[.slice A n c, .slice A2 m c2], .agg #[.slice P k d, .slice P2 l d2]] w (EqIs w (decide (r = q))) := by
  obtain ⟨w1, hw1⟩ : ∃ w1, (w.alloc (.cells #[.slice A n c, .slice A2 m c2] 36)).alloc (.cells #[.slice P k d, .slice P2 l d2] 36) = w1 := ⟨_, rfl⟩
  have HB1 := Lib.hid (show Below w.heap.size w w1 by rw [← hw1]; exact ((Below.refl _ _).alloc (Nat.le_refl _) _).alloc (by simp) _)
  have s0 := Below.heap_alloc (w.alloc (.cells #[.slice A n c, .slice A2 m c2] 36)) (.cells #[.slice P k d, .slice P2 l d2] 36) w.heap.size (by simp)
  have s1 := s0.trans (heap_alloc_new w _)
  have s2 := heap_alloc_new (w.alloc (.cells #[.slice A n c, .slice A2 m c2] 36)) (.cells #[.slice P k d, .slice P2 l d2] 36)
  rw [hw1] at s1 s2
  have hz : (w.alloc (.cells #[.slice A n c, .slice A2 m c2] 36)).heap.size = w.heap.size + 1 := by simp
  rw [hz] at s2
  have hlt1 : w.heap.size + 1 < w1.heap.size := (Array.getElem?_eq_some_iff.1 s2).1
  have HCL := Lib.hid (show ∀ wx, Below w1.heap.size w1 wx → wx.cell? ⟨w.heap.size, 0, none⟩ = some (.slice A n c) ∧ wx.cell? ⟨w.heap.size, 1, none⟩ = some (.slice A2 m c2) ∧ wx.cell? ⟨w.heap.size + 1, 0, none⟩ = some (.slice P k d) ∧ wx.cell? ⟨w.heap.size + 1, 1, none⟩ = some (.slice P2 l d2) from fun wx hb =>
    ⟨cell_of_row wx _ 0 _ _ _ ((hb.block _ (by omega)).trans s1), cell_of_row wx _ 1 _ _ _ ((hb.block _ (by omega)).trans s1), cell_of_row wx _ 0 _ _ _ ((hb.block _ (by omega)).trans s2), cell_of_row wx _ 1 _ _ _ ((hb.block _ (by omega)).trans s2)⟩)
  obtain ⟨a0, a1, b0, b1⟩ := HCL.out w1 (Below.refl _ _)
  have hr1 := hr.below HB1.out
  have hq1 := hq.below HB1.out
  have HR := Lib.hid hr1
  have HQ := Lib.hid hq1
  have HZ := Lib.hid (show m ≤ 1000000000000 ∧ l ≤ 1000000000000 from ⟨hm, hl⟩)
  have C1 := Lib.hid (c_eqfH A P n k c d r.1 q.1 w1 hr1.1 hq1.1 hn hk hr1.2.2.2.2.1 hq1.2.2.2.2.1)
  obtain ⟨o, ho⟩ : ∃ o, decide (r.1 = q.1) = o := ⟨_, rfl⟩
  obtain ⟨o2, ho2⟩ : ∃ o, decide (r.2 = q.2) = o := ⟨_, rfl⟩
  have HD := Lib.hid (show decide (r = q) = (o && o2) from by
    rw [← ho, ← ho2]
    obtain ⟨r1, r2⟩ := r
    obtain ⟨q1, q2⟩ := q
    dsimp only
    by_cases h1 : r1 = q1
    · by_cases h2 : r2 = q2
      · simp [h1, h2]
      · simp [h1, h2]
    · simp [h1])
  rw [ho] at C1
  have HO2 := Lib.hid ho2
  clear s0 s1 s2 hz hlt1 hr hq hr1 hq1 ho ho2 hm hl
  cases o with
  | false =>
    go_enter Tryd.func30, Tryd.ntmps30
    go_wp2_with (first
      | (go_at_call 50; go_must (refine C1.out.mono ?_); rintro e w2 ⟨rfl, hb⟩; have HB2 := Lib.hid hb; clear hb))
    go_ret
    exact ⟨by rw [HD.out]; rfl, HB1.out.trans (HB2.out.mono HB1.out.size)⟩
  | true =>
    go_enter Tryd.func30, Tryd.ntmps30
    go_wp2_with (first
      | (go_at_call 50; go_must (refine C1.out.mono ?_); rintro e w2 ⟨rfl, hb⟩; have HB2 := Lib.hid hb; obtain ⟨e0, e1, f0, f1⟩ := HCL.out w2 hb; have C2 := Lib.hid (c_eqfV A2 P2 m l c2 d2 r.2 q.2 w2 HR.out.2.2.1 HQ.out.2.2.1 HZ.out.1 HZ.out.2 (HR.out.2.2.2.2.2.below hb) (HQ.out.2.2.2.2.2.below hb)); rw [HO2.out] at C2; clear hb)
      | (go_at_call 53; go_must (refine C2.out.mono ?_); rintro e w3 ⟨rfl, hb⟩; have HB3 := Lib.hid (HB2.out.trans (hb.mono HB2.out.size)); clear hb))
    go_ret
    exact ⟨by rw [HD.out]; rfl, HB1.out.trans (HB3.out.mono HB1.out.size)⟩
end Go.Proofs.YtgjningfpkoooaaDoor.Ro
