/- winkleref22.Same. -/
import Derived.Test.YtgjningfpkoooaaDoorQn
namespace Go.Proofs.YtgjningfpkoooaaDoor.Ro
set_option linter.unusedVariables false
set_option linter.unusedSimpArgs false
open Go.RowKit Go.Proofs.YtgjningfpkoooaaDoor.W

set_option maxHeartbeats 16000000 in
set_option maxRecDepth 100000 in
theorem r_same (A : Option Addr) (n c : Nat) (A2 : Option Addr) (m c2 : Nat) (r : Rp) (P : Option Addr) (k d : Nat) (P2 : Option Addr) (l d2 : Nat) (q : Rp) (w : World) (hr : RepAt w 0 A n c A2 m c2 r) (hq : RepAt w 0 P k d P2 l d2 q) (hn : n ≤ 1000000000000) (hm : m ≤ 1000000000000) (hk : k ≤ 1000000000000) (hl : l ≤ 1000000000000) :
    Calls Tryd.prog 26 #[.agg #[.slice A n c, .slice A2 m c2], .agg #[.slice P k d, .slice P2 l d2]] w (EqIs w (decide (r = q))) := by
  obtain ⟨w1, hw1⟩ : ∃ w1, (w.alloc (.cells #[.slice A n c, .slice A2 m c2] 36)).alloc (.cells #[.slice P k d, .slice P2 l d2] 36) = w1 := ⟨_, rfl⟩
  have HB1 := Lib.hid (show Below w.heap.size w w1 by rw [← hw1]; exact ((Below.refl _ _).alloc (Nat.le_refl _) _).alloc (by simp) _)
  have s0 := Below.heap_alloc (w.alloc (.cells #[.slice A n c, .slice A2 m c2] 36)) (.cells #[.slice P k d, .slice P2 l d2] 36) w.heap.size (by simp)
  have s1 := s0.trans (heap_alloc_new w _)
  have s2 := heap_alloc_new (w.alloc (.cells #[.slice A n c, .slice A2 m c2] 36)) (.cells #[.slice P k d, .slice P2 l d2] 36)
  rw [hw1] at s1 s2
  have hz : (w.alloc (.cells #[.slice A n c, .slice A2 m c2] 36)).heap.size = w.heap.size + 1 := by simp
  rw [hz] at s2
  have hlt1 : w.heap.size + 1 < w1.heap.size := (Array.getElem?_eq_some_iff.1 s2).1
  obtain ⟨p0, hp0⟩ : ∃ p, w.heap.size = p := ⟨_, rfl⟩
  obtain ⟨p1, hp1⟩ : ∃ p, p0 + 1 = p := ⟨_, rfl⟩
  have HCL := Lib.hid (show ∀ wx, Below w1.heap.size w1 wx → wx.cell? ⟨p0, 0, none⟩ = some (.slice A n c) ∧ wx.cell? ⟨p0, 1, none⟩ = some (.slice A2 m c2) ∧ wx.cell? ⟨p1, 0, none⟩ = some (.slice P k d) ∧ wx.cell? ⟨p1, 1, none⟩ = some (.slice P2 l d2) ∧ p0 < wx.heap.size ∧ p1 < wx.heap.size from fun wx hb => by
    rw [← hp1, ← hp0]
    exact ⟨cell_of_row wx _ 0 _ _ _ ((hb.block _ (by omega)).trans s1), cell_of_row wx _ 1 _ _ _ ((hb.block _ (by omega)).trans s1), cell_of_row wx _ 0 _ _ _ ((hb.block _ (by omega)).trans s2), cell_of_row wx _ 1 _ _ _ ((hb.block _ (by omega)).trans s2), by have := hb.size; omega, Nat.lt_of_lt_of_le hlt1 hb.size⟩)
  obtain ⟨a0, a1, b0, b1, plt0, plt⟩ := HCL.out w1 (Below.refl _ _)
  have HR := Lib.hid (hr.below HB1.out)
  have HQ := Lib.hid (hq.below HB1.out)
  have HRL := Lib.hid hr.1
  have HRL2 := Lib.hid hr.2.2.1
  have HQL := Lib.hid hq.1
  have HQL2 := Lib.hid hq.2.2.1
  clear s0 s1 s2 hz hlt1 hr hq
  by_cases hnk : n = k
  · by_cases hml : m = l
    · obtain rfl := hnk
      obtain rfl := hml
      have i1 : ((n : Int) != (n : Int)) = false := W.neF rfl
      have i2 : ((m : Int) != (m : Int)) = false := W.neF rfl
      go_enter Tryd.func26, Tryd.ntmps26
      go_wp2_with (fail)
      go_loopg [5] n (fun g s5 wx => ∃ i : Nat, i + g = n ∧ s5 = .int .i64 (i : Nat) ∧ Hid (Below w1.heap.size w1 wx ∧ r.1.take i = q.1.take i))
      case atStart => exact ⟨0, by omega, rfl, Lib.hid ⟨Below.refl _ _, by rw [List.take_zero, List.take_zero]⟩⟩
      case round =>
        obtain ⟨i, hig, rfl, hst⟩ := hrel
        obtain ⟨c0, c1, d0, d1, plr0, plr⟩ := HCL.out wr hst.out.1
        cases gk with
        | zero =>
          obtain rfl : i = n := by omega
          have hk : ¬ (i : Int) < (i : Int) := by omega
          have HEQ1 := Lib.hid (show r.1 = q.1 from by
            have h9 := hst.out.2
            rw [List.take_of_length_le (by rw [HRL.out]; exact Nat.le_refl _), List.take_of_length_le (by rw [HQL.out]; exact Nat.le_refl _)] at h9
            exact h9)
          have HE1 := Lib.hid hst.out.1
          clear hst
          go_wp2_with (fail)
          go_loopg [8] m (fun g s8 wx => ∃ j : Nat, j + g = m ∧ s8 = .int .i64 (j : Nat) ∧ Hid (Below w1.heap.size w1 wx ∧ r.2.take j = q.2.take j))
          case atStart => exact ⟨0, by omega, rfl, Lib.hid ⟨HE1.out, by rw [List.take_zero, List.take_zero]⟩⟩
          case round =>
            clear c0 c1 d0 d1 plr0 plr
            obtain ⟨j, hjg, rfl, hst⟩ := hrel
            obtain ⟨c0, c1, d0, d1, plr0, plr⟩ := HCL.out wr hst.out.1
            cases gk with
            | zero =>
              obtain rfl : j = m := by omega
              have hk : ¬ (j : Int) < (j : Int) := by omega
              go_wp2_with (fail)
              go_ret
              refine ⟨?_, HB1.out.trans (hst.out.1.mono HB1.out.size)⟩
              have h9 := hst.out.2
              rw [List.take_of_length_le (by rw [HRL2.out]; exact Nat.le_refl _), List.take_of_length_le (by rw [HQL2.out]; exact Nat.le_refl _)] at h9
              rw [decide_eq_true (show r = q from Prod.ext HEQ1.out h9)]
              rfl
            | succ g =>
              have hk : (j : Int) < (m : Int) := by omega
              have hk0 : (0 : Int) ≤ (j : Int) := by omega
              obtain ⟨⟨xp, x3⟩, hx⟩ : ∃ x, r.2[j]? = some x := ⟨_, List.getElem?_eq_getElem (by rw [HRL2.out]; omega)⟩
              obtain ⟨⟨yp, y3⟩, hy⟩ : ∃ x, q.2[j]? = some x := ⟨_, List.getElem?_eq_getElem (by rw [HQL2.out]; omega)⟩
              obtain ⟨gb, off, Ap, np, cp, rfl, hlt, q0, q1, q3, q4, q5, q6⟩ := (HR.out.2.2.2.2.2.below hst.out.1).verd hx
              obtain ⟨gb2, off2, Aq, nq, cq, rfl, hlt2, r0, r1, r3, r4, r5, r6⟩ := (HQ.out.2.2.2.2.2.below hst.out.1).verd hy
              dsimp only at q0 q1 q3 q6 r0 r1 r3 r6
              have HX := Lib.hid hx
              have HY := Lib.hid hy
              have HSI := Lib.hid hst.out
              have HSR := Lib.hid hst.out.1.size
              have C1 := Lib.hid (fun z => c_ints Ap Aq np nq cp cq xp yp (wr.drewN z) q3 r3 (by omega) (by omega) q6 r6)
              obtain ⟨o, ho⟩ : ∃ o, decide (xp = yp) = o := ⟨_, rfl⟩
              rw [ho] at C1
              have HO := Lib.hid ho
              clear hx hy q3 q6 r3 r6 hst ho
              have hcs : (x3 = y3 ∧ o = true) ∨ ((((xp, x3) : Vd) ≠ (yp, y3)) ∧ ((x3 = y3 ∧ o = false) ∨ x3 ≠ y3)) := by
                have h0 : o = false → xp ≠ yp := fun h => of_decide_eq_false (HO.out.trans h)
                by_cases h3 : x3 = y3
                · cases o with
                  | true => exact .inl ⟨h3, rfl⟩
                  | false => exact .inr ⟨fun h => h0 rfl (by injection h), .inl ⟨h3, rfl⟩⟩
                · exact .inr ⟨fun h => h3 (by injection h), .inr h3⟩
              rcases hcs with ⟨h3, rfl⟩ | ⟨hne, hcs⟩
              · have j3 : (x3 != y3) = false := W.neF h3
                have HXY := Lib.hid (show ((xp, x3) : Vd) = (yp, y3) by rw [h3, of_decide_eq_true HO.out])
                clear h3
                go_upto_region 12 with (fail)
                go_quiet (first
                  | (go_at_call 16; exact Calls.quiet_of (C1.out _)))
                have HE4 := Lib.hid (HSI.out.1.trans ((below_drawn (w := wr) ⟨nq, rfl⟩).mono HSR.out))
                clear C1
                generalize wr.drewN nq = w4 at *
                go_wp2_with (fail)
                go_roundg g
                case measure => omega
                case rel => exact ⟨j + 1, by omega, by go_num, Lib.hid ⟨HE4.out, by rw [take_snoc' HX.out, take_snoc' HY.out, HSI.out.2, HXY.out]⟩⟩
              · have HNE := Lib.hid (show decide (r = q) = false from decide_eq_false (fun h => by
                  subst h
                  have h1 := HX.out
                  rw [HY.out] at h1
                  injection h1 with h1
                  exact hne h1.symm))
                clear hne
                rcases hcs with ⟨h3, rfl⟩ | h3
                · have j3 : (x3 != y3) = false := W.neF h3
                  clear h3
                  go_upto_region 12 with (fail)
                  go_quiet (first
                    | (go_at_call 16; exact Calls.quiet_of (C1.out _)))
                  have HE4 := Lib.hid (HSI.out.1.trans ((below_drawn (w := wr) ⟨nq, rfl⟩).mono HSR.out))
                  clear C1
                  generalize wr.drewN nq = w4 at *
                  go_wp2_with (fail)
                  go_ret
                  exact ⟨by rw [HNE.out]; rfl, HB1.out.trans (HE4.out.mono HB1.out.size)⟩
                · have j3 : (x3 != y3) = true := W.neT h3
                  clear h3
                  go_upto_region 12 with (fail)
                  go_quiet (fail)
                  have HE4 := Lib.hid (HSI.out.1.trans ((below_drawn (w := wr) ⟨nq, rfl⟩).mono HSR.out))
                  clear C1
                  generalize wr.drewN nq = w4 at *
                  go_wp2_with (fail)
                  go_ret
                  exact ⟨by rw [HNE.out]; rfl, HB1.out.trans (HE4.out.mono HB1.out.size)⟩
        | succ g =>
          have hk : (i : Int) < (n : Int) := by omega
          have hk0 : (0 : Int) ≤ (i : Int) := by omega
          obtain ⟨⟨x1, xp, x3⟩, hx⟩ : ∃ x, r.1[i]? = some x := ⟨_, List.getElem?_eq_getElem (by rw [HRL.out]; omega)⟩
          obtain ⟨⟨y1, yp, y3⟩, hy⟩ : ∃ x, q.1[i]? = some x := ⟨_, List.getElem?_eq_getElem (by rw [HQL.out]; omega)⟩
          obtain ⟨gb, off, Ap, np, cp, rfl, hlt, q0, q1, q2, q3, q4, q5, q6⟩ := (HR.out.2.2.2.2.1.below hst.out.1).hit hx
          obtain ⟨gb2, off2, Aq, nq, cq, rfl, hlt2, r0, r1, r2, r3, r4, r5, r6⟩ := (HQ.out.2.2.2.2.1.below hst.out.1).hit hy
          dsimp only at q0 q1 q2 q3 q6 r0 r1 r2 r3 r6
          have HX := Lib.hid hx
          have HY := Lib.hid hy
          have H3 := Lib.hid q3
          have H6 := Lib.hid q6
          have J3 := Lib.hid r3
          have J6 := Lib.hid r6
          have HSI := Lib.hid hst.out
          have HSR := Lib.hid hst.out.1.size
          have hsz : np ≤ 1000000000000 ∧ nq ≤ 1000000000000 := ⟨q5, r5⟩
          clear hx hy q3 q6 r3 r6 hst
          go_upto_region 6 with (fail)
          go_region
          · have t0 := Below.heap_alloc (wr.alloc (.cells #[.int .i64 x1, .slice Ap np cp, .int .i64 x3] 44)) (.cells #[.int .i64 y1, .slice Aq nq cq, .int .i64 y3] 44) wr.heap.size (by simp)
            have t1 : ((wr.alloc (.cells #[.int .i64 x1, .slice Ap np cp, .int .i64 x3] 44)).alloc (.cells #[.int .i64 y1, .slice Aq nq cq, .int .i64 y3] 44)).drew.heap[wr.heap.size]? = _ := t0.trans (heap_alloc_new wr _)
            have t2 : ((wr.alloc (.cells #[.int .i64 x1, .slice Ap np cp, .int .i64 x3] 44)).alloc (.cells #[.int .i64 y1, .slice Aq nq cq, .int .i64 y3] 44)).drew.heap[(wr.alloc (.cells #[.int .i64 x1, .slice Ap np cp, .int .i64 x3] 44)).heap.size]? = _ := heap_alloc_new (wr.alloc (.cells #[.int .i64 x1, .slice Ap np cp, .int .i64 x3] 44)) (.cells #[.int .i64 y1, .slice Aq nq cq, .int .i64 y3] 44)
            have hz : (wr.alloc (.cells #[.int .i64 x1, .slice Ap np cp, .int .i64 x3] 44)).heap.size = wr.heap.size + 1 := by simp
            rw [hz] at t2
            have HB3 := Lib.hid (show Below wr.heap.size wr ((wr.alloc (.cells #[.int .i64 x1, .slice Ap np cp, .int .i64 x3] 44)).alloc (.cells #[.int .i64 y1, .slice Aq nq cq, .int .i64 y3] 44)).drew from (((Below.refl _ _).alloc (Nat.le_refl _) _).alloc (by simp) _).drew)
            clear t0 hz
            generalize ((wr.alloc (.cells #[.int .i64 x1, .slice Ap np cp, .int .i64 x3] 44)).alloc (.cells #[.int .i64 y1, .slice Aq nq cq, .int .i64 y3] 44)).drew = w3 at *
            have a0' := cell_of_row w3 _ 0 _ _ _ t1
            have a1' := cell_of_row w3 _ 1 _ _ _ t1
            have a2' := cell_of_row w3 _ 2 _ _ _ t1
            have b0' := cell_of_row w3 _ 0 _ _ _ t2
            have b1' := cell_of_row w3 _ 1 _ _ _ t2
            have b2' := cell_of_row w3 _ 2 _ _ _ t2
            clear t1 t2
            have HE3 := Lib.hid (HSI.out.1.trans (HB3.out.mono HSR.out))
            have C1 := Lib.hid (c_ints Ap Aq np nq cp cq xp yp w3 H3.out J3.out (by omega) (by omega) (H6.out.below HB3.out) (J6.out.below HB3.out))
            obtain ⟨o, ho⟩ : ∃ o, decide (xp = yp) = o := ⟨_, rfl⟩
            rw [ho] at C1
            have HO := Lib.hid ho
            clear ho
            have hcs : (x1 = y1 ∧ x3 = y3 ∧ o = true) ∨ ((((x1, xp, x3) : Ht) ≠ (y1, yp, y3)) ∧ ((x1 = y1 ∧ x3 = y3 ∧ o = false) ∨ (x1 = y1 ∧ x3 ≠ y3) ∨ x1 ≠ y1)) := by
              have h0 : o = false → xp ≠ yp := fun h => of_decide_eq_false (HO.out.trans h)
              by_cases h1 : x1 = y1
              · by_cases h3 : x3 = y3
                · cases o with
                  | true => exact .inl ⟨h1, h3, rfl⟩
                  | false => exact .inr ⟨fun h => h0 rfl (by injection h with _ h; injection h), .inl ⟨h1, h3, rfl⟩⟩
                · exact .inr ⟨fun h => h3 (by injection h with _ h; injection h), .inr (.inl ⟨h1, h3⟩)⟩
              · exact .inr ⟨fun h => h1 (by injection h), .inr (.inr h1)⟩
            rcases hcs with ⟨h1, h3, rfl⟩ | ⟨hne, hcs⟩
            · have j1 : (x1 != y1) = false := W.neF h1
              have j3 : (x3 != y3) = false := W.neF h3
              have HXY := Lib.hid (show ((x1, xp, x3) : Ht) = (y1, yp, y3) by rw [h1, h3, of_decide_eq_true HO.out])
              clear h1 h3
              go_wp2_with (first
                | (go_at_call 16; go_must (refine C1.out.mono ?_); rintro e w4 ⟨rfl, hd⟩; have HE4 := Lib.hid (HE3.out.trans ((below_drawn hd).mono HE3.out.size)); clear hd))
              go_roundg g
              all_goals first
                | omega
                | exact ⟨i + 1, by omega, by go_num, Lib.hid ⟨HE4.out, by rw [take_snoc' HX.out, take_snoc' HY.out, HSI.out.2, HXY.out]⟩⟩
            · have HNE := Lib.hid (show decide (r = q) = false from decide_eq_false (fun h => by
                subst h
                have h1 := HX.out
                rw [HY.out] at h1
                injection h1 with h1
                exact hne h1.symm))
              clear hne
              rcases hcs with ⟨h1, h3, rfl⟩ | ⟨h1, h3⟩ | h1
              · have j1 : (x1 != y1) = false := W.neF h1
                have j3 : (x3 != y3) = false := W.neF h3
                clear h1 h3
                go_wp2_with (first
                  | (go_at_call 16; go_must (refine C1.out.mono ?_); rintro e w4 ⟨rfl, hd⟩; have HE4 := Lib.hid (HE3.out.trans ((below_drawn hd).mono HE3.out.size)); clear hd))
                go_ret
                exact ⟨by rw [HNE.out]; rfl, HB1.out.trans (HE4.out.mono HB1.out.size)⟩
              · have j1 : (x1 != y1) = false := W.neF h1
                have j3 : (x3 != y3) = true := W.neT h3
                clear h1 h3
                go_wp2_with (fail)
                go_ret
                exact ⟨by rw [HNE.out]; rfl, HB1.out.trans (HE3.out.mono HB1.out.size)⟩
              · have j1 : (x1 != y1) = true := W.neT h1
                clear h1
                go_wp2_with (fail)
                go_ret
                exact ⟨by rw [HNE.out]; rfl, HB1.out.trans (HE3.out.mono HB1.out.size)⟩
          · have t0 := Below.heap_alloc (wr.alloc (.cells #[.int .i64 y1, .slice Aq nq cq, .int .i64 y3] 44)) (.cells #[.int .i64 x1, .slice Ap np cp, .int .i64 x3] 44) wr.heap.size (by simp)
            have t1 : ((wr.alloc (.cells #[.int .i64 y1, .slice Aq nq cq, .int .i64 y3] 44)).alloc (.cells #[.int .i64 x1, .slice Ap np cp, .int .i64 x3] 44)).drew.heap[wr.heap.size]? = _ := t0.trans (heap_alloc_new wr _)
            have t2 : ((wr.alloc (.cells #[.int .i64 y1, .slice Aq nq cq, .int .i64 y3] 44)).alloc (.cells #[.int .i64 x1, .slice Ap np cp, .int .i64 x3] 44)).drew.heap[(wr.alloc (.cells #[.int .i64 y1, .slice Aq nq cq, .int .i64 y3] 44)).heap.size]? = _ := heap_alloc_new (wr.alloc (.cells #[.int .i64 y1, .slice Aq nq cq, .int .i64 y3] 44)) (.cells #[.int .i64 x1, .slice Ap np cp, .int .i64 x3] 44)
            have hz : (wr.alloc (.cells #[.int .i64 y1, .slice Aq nq cq, .int .i64 y3] 44)).heap.size = wr.heap.size + 1 := by simp
            rw [hz] at t2
            have HB3 := Lib.hid (show Below wr.heap.size wr ((wr.alloc (.cells #[.int .i64 y1, .slice Aq nq cq, .int .i64 y3] 44)).alloc (.cells #[.int .i64 x1, .slice Ap np cp, .int .i64 x3] 44)).drew from (((Below.refl _ _).alloc (Nat.le_refl _) _).alloc (by simp) _).drew)
            clear t0 hz
            generalize ((wr.alloc (.cells #[.int .i64 y1, .slice Aq nq cq, .int .i64 y3] 44)).alloc (.cells #[.int .i64 x1, .slice Ap np cp, .int .i64 x3] 44)).drew = w3 at *
            have b0' := cell_of_row w3 _ 0 _ _ _ t1
            have b1' := cell_of_row w3 _ 1 _ _ _ t1
            have b2' := cell_of_row w3 _ 2 _ _ _ t1
            have a0' := cell_of_row w3 _ 0 _ _ _ t2
            have a1' := cell_of_row w3 _ 1 _ _ _ t2
            have a2' := cell_of_row w3 _ 2 _ _ _ t2
            clear t1 t2
            have HE3 := Lib.hid (HSI.out.1.trans (HB3.out.mono HSR.out))
            have C1 := Lib.hid (c_ints Ap Aq np nq cp cq xp yp w3 H3.out J3.out (by omega) (by omega) (H6.out.below HB3.out) (J6.out.below HB3.out))
            obtain ⟨o, ho⟩ : ∃ o, decide (xp = yp) = o := ⟨_, rfl⟩
            rw [ho] at C1
            have HO := Lib.hid ho
            clear ho
            have hcs : (x1 = y1 ∧ x3 = y3 ∧ o = true) ∨ ((((x1, xp, x3) : Ht) ≠ (y1, yp, y3)) ∧ ((x1 = y1 ∧ x3 = y3 ∧ o = false) ∨ (x1 = y1 ∧ x3 ≠ y3) ∨ x1 ≠ y1)) := by
              have h0 : o = false → xp ≠ yp := fun h => of_decide_eq_false (HO.out.trans h)
              by_cases h1 : x1 = y1
              · by_cases h3 : x3 = y3
                · cases o with
                  | true => exact .inl ⟨h1, h3, rfl⟩
                  | false => exact .inr ⟨fun h => h0 rfl (by injection h with _ h; injection h), .inl ⟨h1, h3, rfl⟩⟩
                · exact .inr ⟨fun h => h3 (by injection h with _ h; injection h), .inr (.inl ⟨h1, h3⟩)⟩
              · exact .inr ⟨fun h => h1 (by injection h), .inr (.inr h1)⟩
            rcases hcs with ⟨h1, h3, rfl⟩ | ⟨hne, hcs⟩
            · have j1 : (x1 != y1) = false := W.neF h1
              have j3 : (x3 != y3) = false := W.neF h3
              have HXY := Lib.hid (show ((x1, xp, x3) : Ht) = (y1, yp, y3) by rw [h1, h3, of_decide_eq_true HO.out])
              clear h1 h3
              go_wp2_with (first
                | (go_at_call 16; go_must (refine C1.out.mono ?_); rintro e w4 ⟨rfl, hd⟩; have HE4 := Lib.hid (HE3.out.trans ((below_drawn hd).mono HE3.out.size)); clear hd))
              go_roundg g
              all_goals first
                | omega
                | exact ⟨i + 1, by omega, by go_num, Lib.hid ⟨HE4.out, by rw [take_snoc' HX.out, take_snoc' HY.out, HSI.out.2, HXY.out]⟩⟩
            · have HNE := Lib.hid (show decide (r = q) = false from decide_eq_false (fun h => by
                subst h
                have h1 := HX.out
                rw [HY.out] at h1
                injection h1 with h1
                exact hne h1.symm))
              clear hne
              rcases hcs with ⟨h1, h3, rfl⟩ | ⟨h1, h3⟩ | h1
              · have j1 : (x1 != y1) = false := W.neF h1
                have j3 : (x3 != y3) = false := W.neF h3
                clear h1 h3
                go_wp2_with (first
                  | (go_at_call 16; go_must (refine C1.out.mono ?_); rintro e w4 ⟨rfl, hd⟩; have HE4 := Lib.hid (HE3.out.trans ((below_drawn hd).mono HE3.out.size)); clear hd))
                go_ret
                exact ⟨by rw [HNE.out]; rfl, HB1.out.trans (HE4.out.mono HB1.out.size)⟩
              · have j1 : (x1 != y1) = false := W.neF h1
                have j3 : (x3 != y3) = true := W.neT h3
                clear h1 h3
                go_wp2_with (fail)
                go_ret
                exact ⟨by rw [HNE.out]; rfl, HB1.out.trans (HE3.out.mono HB1.out.size)⟩
              · have j1 : (x1 != y1) = true := W.neT h1
                clear h1
                go_wp2_with (fail)
                go_ret
                exact ⟨by rw [HNE.out]; rfl, HB1.out.trans (HE3.out.mono HB1.out.size)⟩
    · have i1 : ((n : Int) != (k : Int)) = false := W.neF (by omega)
      have i2 : ((m : Int) != (l : Int)) = true := W.neT (by omega)
      have HNE := Lib.hid (show decide (r = q) = false from decide_eq_false (fun h => hml (by rw [← HRL2.out, ← HQL2.out, h])))
      clear hnk hml
      go_enter Tryd.func26, Tryd.ntmps26
      go_wp2_with (fail)
      go_ret
      exact ⟨by rw [HNE.out]; rfl, HB1.out⟩
  · have i1 : ((n : Int) != (k : Int)) = true := W.neT (by omega)
    have HNE := Lib.hid (show decide (r = q) = false from decide_eq_false (fun h => hnk (by rw [← HRL.out, ← HQL.out, h])))
    clear hnk
    go_enter Tryd.func26, Tryd.ntmps26
    go_wp2_with (fail)
    go_ret
    exact ⟨by rw [HNE.out]; rfl, HB1.out⟩
end Go.Proofs.YtgjningfpkoooaaDoor.Ro
