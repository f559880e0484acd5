/- winkleref22.Copy. -/
import Derived.Test.YtgjningfpkoooaaDoorQk
import Derived.Deep.RegionHeld3
namespace Go.Proofs.YtgjningfpkoooaaDoor.Ro
set_option linter.unusedVariables false
set_option linter.unusedSimpArgs false
open Go.RowKit Go.Proofs.YtgjningfpkoooaaDoor.W

def CopyIs (w : World) (r : Rp) (e : Ending) (w' : World) : Prop :=
  ∃ A n c A2 m c2, e = .returned (.agg #[.slice A n c, .slice A2 m c2]) ∧ Below w.heap.size w w' ∧ RepV w' w.heap.size A n c A2 m c2 r
theorem step_lies {P : Program} {w : World} {ops : Array Oper} {o : Oper} {a : Act} {K : Act → World → Prop} {Q : Exit → Act → World → Prop} {E : Prop} (hgd : o.guard = none) (s x : Operand) (t : TypeId)
    (ho : o.op = .call { callee := .builtin .append, args := #[s, x], argTypes := #[t, t] })
    (base : Nat) (e : TypeId) (i : TypeInfo) (z : Value) (size bytes : Nat) (ht : P.underlying t = some (.slice e)) (hi : P.info? e = some i) (hz : i.zero = some z)
    (hsize : i.size = size) (hby : i.bytes = bytes) (hzs : z.cells.size = size) (hsz : 0 < size)
    (v : Value) (n : Nat) (xs : List Value) (hs : a.eval s = v) (hown : w.ownsRow base e size v n xs)
    (ad : Addr) (m c : Nat) (news : List Value) (hx : a.eval x = .slice (some ad) m c) (hl : news.length = m * size) (hnews : ∀ j u, news[j]? = some u → w.cell? (ad.add j) = some u) (h1 : ∀ u ∈ news, u.oneCell' = true)
    (hm : 0 < m) (h63 : n + m ≤ maxLen) (hbytes : (n + m) * bytes ≤ 140737488355328) (hbase : base ≤ w.heap.size)
    (h : ∀ g cap w', w'.ownsRow base e size (.slice (some ⟨g, 0, none⟩) (n + m) cap) (n + m) (xs ++ news) → w.grownBy w' v.ownBlock → K (a.put o.dst (.slice (some ⟨g, 0, none⟩) (n + m) cap)) w') :
    if Region.wanted o (yielded ops a.tmps) = true then Oper.wp P o a w K Q else E :=
  step_append_lies w hgd s x t ho base e i z size bytes ht hi hz hsize hby hzs hsz v n xs hs hown ad m c news hx hl hnews h1 hm h63 hbytes hbase _ rfl fun g cap w' a1 a2 _ _ => h g cap w' a1 a2
theorem cell_set (w : World) {B H : Nat} (u : Value) (h : H ≠ B) (j : Nat) {i : Nat} : (w.setCell ⟨B, i, none⟩ u).cell? ⟨H, j, none⟩ = w.cell? ⟨H, j, none⟩ := World.cell?_of_block (a := ⟨H, j, none⟩) (Below.heap_setCell w ⟨B, i, none⟩ u H h)
set_option maxHeartbeats 16000000 in
set_option maxRecDepth 100000 in
theorem r_copy (A : Option Addr) (n c : Nat) (A2 : Option Addr) (m c2 : Nat) (r : Rp) (w : World) (hr : RepAt w 0 A n c A2 m c2 r) (hn : n ≤ 1000000000) (hm : m ≤ 1000000000) :
    Calls Tryd.prog 23 #[.agg #[.slice A n c, .slice A2 m c2]] w (CopyIs w r) := by
  obtain ⟨hs, vs⟩ := r
  obtain ⟨w1, hw1⟩ : ∃ w1, (w.alloc (.cells #[.slice A n c, .slice A2 m c2] 36)).alloc (.cells #[.slice none 0 0, .slice none 0 0] 36) = w1 := ⟨_, rfl⟩
  have HB1 := Lib.hid (show Below w.heap.size w w1 by rw [← hw1]; exact ((Below.refl _ _).alloc (Nat.le_refl _) _).alloc (by simp) _)
  have s0 := Below.heap_alloc (w.alloc (.cells #[.slice A n c, .slice A2 m c2] 36)) (.cells #[.slice none 0 0, .slice none 0 0] 36) w.heap.size (by simp)
  have s1 := s0.trans (heap_alloc_new w _)
  have s2 := heap_alloc_new (w.alloc (.cells #[.slice A n c, .slice A2 m c2] 36)) (.cells #[.slice none 0 0, .slice none 0 0] 36)
  rw [hw1] at s1 s2
  have hz : (w.alloc (.cells #[.slice A n c, .slice A2 m c2] 36)).heap.size = w.heap.size + 1 := by simp
  rw [hz] at s2
  have hlt1 : w.heap.size + 1 < w1.heap.size := (Array.getElem?_eq_some_iff.1 s2).1
  obtain ⟨B, hB⟩ : ∃ B, w1.heap.size = B := ⟨_, rfl⟩
  have HB := Lib.hid hB
  obtain ⟨p0, hp0⟩ : ∃ p, w.heap.size = p := ⟨_, rfl⟩
  obtain ⟨p1, hp1⟩ : ∃ p, p0 + 1 = p := ⟨_, rfl⟩
  have HP := Lib.hid (show w.heap.size = p0 ∧ p0 < p1 ∧ p1 < B from ⟨hp0, by omega, by omega⟩)
  have HCL := Lib.hid (show ∀ wx, Below B w1 wx → wx.cell? ⟨p0, 0, none⟩ = some (.slice A n c) ∧ wx.cell? ⟨p0, 1, none⟩ = some (.slice A2 m c2) ∧ p0 < wx.heap.size ∧ wx.heap[p1]? = some (.cells #[.slice none 0 0, .slice none 0 0] 36 (0, 0)) ∧ B ≤ wx.heap.size from fun wx hb => by
    have h1 := hb.size
    have q1 : wx.heap[p0]? = some (.cells #[.slice A n c, .slice A2 m c2] 36 (0, 0)) := by rw [← hp0]; exact (hb.block _ (by omega)).trans s1
    have q2 : wx.heap[p1]? = some (.cells #[.slice none 0 0, .slice none 0 0] 36 (0, 0)) := by rw [← hp1, ← hp0]; exact (hb.block _ (by omega)).trans s2
    exact ⟨cell_of_row wx _ 0 _ _ _ q1, cell_of_row wx _ 1 _ _ _ q1, by omega, q2, by omega⟩)
  have HR := Lib.hid (hr.below HB1.out)
  have HRL := Lib.hid (show hs.length = n from hr.1)
  have HRL2 := Lib.hid (show vs.length = m from hr.2.2.1)
  have HR0 := Lib.hid (show RepO (w1.alloc (.cells #[.slice none 0 0, .slice none 0 0] 36)) B B ([], []) from ⟨none, 0, 0, none, 0, 0, [], [], Nat.le_refl _, by rw [← hB]; exact heap_alloc_new w1 _, rfl, rfl, World.ownsRow_nil _ _ _ _, OP.nil _ _ _, World.ownsRow_nil _ _ _ _, OP.nil _ _ _⟩)
  have HE0 := Lib.hid (show Below B w1 (w1.alloc (.cells #[.slice none 0 0, .slice none 0 0] 36)) from hB ▸ (Below.refl _ _).alloc (Nat.le_refl _) _)
  clear s0 s1 s2 hz hlt1 hr
  go_enter Tryd.func23, Tryd.ntmps23
  go_upto_region 2 with (fail)
  generalize w1.alloc (.cells #[.slice none 0 0, .slice none 0 0] 36) = w2 at *
  clear hB hw1 hp0 hp1
  go_wp2_with (fail)
  go_loopg [4] n (fun g s4 wx => ∃ i : Nat, i + g = n ∧ s4 = .int .i64 (i : Nat) ∧ Hid (RepO wx B B (hs.take i, []) ∧ Below B w1 wx))
  case atStart => exact ⟨0, by omega, rfl, Lib.hid ⟨by rw [List.take_zero]; exact HR0.out, HE0.out⟩⟩
  case round =>
    obtain ⟨i, hig, rfl, hst⟩ := hrel
    obtain ⟨c0, c1, plt, _, hBle⟩ := HCL.out wr hst.out.2
    obtain ⟨Ah, nh, ch, Av, nv, cv, cs1, cs2, hro⟩ := hst.out.1
    cases gk with
    | zero =>
      obtain rfl : i = n := by omega
      have hk : ¬ (i : Int) < (i : Int) := by omega
      have HR1 := Lib.hid (show RepO wr B B (hs, vs.take 0) by rw [List.take_zero]; have h := hst.out.1; rw [List.take_of_length_le (by rw [HRL.out]; exact Nat.le_refl _)] at h; exact h)
      have HE1 := Lib.hid hst.out.2
      clear hst hro
      go_wp2_with (fail)
      clear c0 c1 plt hBle
      go_loopg [6] m (fun g s6 wx => ∃ j : Nat, j + g = m ∧ s6 = .int .i64 (j : Nat) ∧ Hid (RepO wx B B (hs, vs.take j) ∧ Below B w1 wx))
      case atStart => exact ⟨0, by omega, rfl, Lib.hid ⟨HR1.out, HE1.out⟩⟩
      case round =>
        obtain ⟨j, hjg, rfl, hst⟩ := hrel
        obtain ⟨c0, c1, plt, hp1, hBle⟩ := HCL.out wr hst.out.2
        obtain ⟨Ah, nh, ch, Av, nv, cv, cs1, cs2, hro⟩ := hst.out.1
        cases gk with
        | zero =>
          obtain rfl : j = m := by omega
          have hk : ¬ (j : Int) < (j : Int) := by omega
          have HRO := Lib.hid (show RO wr B B Ah nh ch Av nv cv cs1 cs2 (hs, vs) by rw [List.take_of_length_le (by rw [HRL2.out]; exact Nat.le_refl _)] at hro; exact hro)
          have HBK := Lib.hid hp1
          obtain ⟨d1, d2, dlt⟩ := HRO.out.cells
          have f1 := cell_of_row wr p1 0 _ _ _ hp1
          have f2 := cell_of_row wr p1 1 _ _ _ hp1
          have g1 := frozen_of_row wr p1 0 _ _ hp1
          have g2 := frozen_of_row wr p1 1 _ _ hp1
          clear hro hp1
          go_wp2_with (fail)
          have h0 := heap_set (heap_set HBK.out 0 (.slice Ah nh ch)) 1 (.slice Av nv cv)
          refine bodyPost_ret (results_cell_row rfl _ _ p1 _ _ _ _ rfl h0 Tryd.underlying36 rfl (by kernel_rfl)) rfl ?_
          have K := ((Kp.refl [p1] wr).setCell (p := ⟨p1, 0, none⟩) (.inl (by simp)) (.slice Ah nh ch)).setCell (p := ⟨p1, 1, none⟩) (.inl (by simp)) (.slice Av nv cv)
          have hb := HB1.out.trans (hst.out.2.mono (by rw [← HB.out]; exact HB1.out.size))
          have hp := HP.out
          refine ⟨Ah, nh, ch, Av, nv, cv, rfl, (hb.setCell (p := ⟨p1, 0, none⟩) (by show _ ≤ p1; omega) _).setCell (p := ⟨p1, 1, none⟩) (by show _ ≤ p1; omega) _, ?_⟩
          exact (HRO.out.rep.kp K (fun k hm cs t fr hc => by
            rw [List.mem_singleton.1 hm, HBK.out] at hc
            injection hc with hc
            injection hc with _ hc _
            exact hc.symm)).base (by omega)
        | succ g =>
          have hk : (j : Int) < (m : Int) := by omega
          have hk0 : (0 : Int) ≤ (j : Int) := by omega
          obtain ⟨⟨xp, x3⟩, hx⟩ : ∃ x, vs[j]? = some x := ⟨_, List.getElem?_eq_getElem (by rw [HRL2.out]; omega)⟩
          obtain ⟨gb, off, Ap, np, cp, rfl, hlt, q0, q1, q3, q4, q5, q6⟩ := (HR.out.2.2.2.2.2.below (by rw [HB.out]; exact hst.out.2)).verd hx
          dsimp only at q0 q1 q3 q6
          have HX := Lib.hid hx
          have HN := Lib.hid q3
          have hnp : np ≤ 1000000000000 := q5
          have hnh : nv = j := by have h1 := hro.2.2.2.1; rw [List.length_take, HRL2.out] at h1; omega
          subst hnh
          obtain ⟨wa, hwa⟩ : ∃ wa, wr.alloc (.cells #[.slice Ap np cp, .int .i64 x3] 68) = wa := ⟨_, rfl⟩
          have HBA := Lib.hid (show Below wr.heap.size wr wa by rw [← hwa]; exact (Below.refl _ _).alloc (Nat.le_refl _) _)
          have HZA := Lib.hid (show wa.heap.size = wr.heap.size + 1 by rw [← hwa]; simp)
          have HCA := Lib.hid (show ∀ wx, Below wa.heap.size wa wx → wx.cell? ⟨wr.heap.size, 0, none⟩ = some (.slice Ap np cp) ∧ wx.cell? ⟨wr.heap.size, 1, none⟩ = some (.int .i64 x3) ∧ wr.heap.size < wx.heap.size from fun wx hb => by
            have h0 : wa.heap[wr.heap.size]? = some (.cells #[.slice Ap np cp, .int .i64 x3] 68 (0, 0)) := by rw [← hwa]; exact heap_alloc_new wr _
            have h1 := (hb.block wr.heap.size (by rw [HZA.out]; exact Nat.lt_succ_self _)).trans h0
            exact ⟨cell_of_row wx _ 0 _ _ _ h1, cell_of_row wx _ 1 _ _ _ h1, (Array.getElem?_eq_some_iff.1 h1).1⟩)
          obtain ⟨a0, a1, alt⟩ := HCA.out wa (Below.refl _ _)
          have HROA := Lib.hid (hro.below HBA.out)
          obtain ⟨d0, d1, dlt⟩ := HROA.out.cells
          obtain ⟨ti, hti, htz, hts, htb⟩ := verd_info
          have HRV := Lib.hid (q6.below HBA.out)
          have HST := Lib.hid hst.out.2
          have HB0 := Lib.hid (show B < wr.heap.size from hro.cells.2.2)
          have HNB := Lib.hid (show some wr.heap.size ≠ (Value.slice Av nv cv).ownBlock from fun e => by have := (hro.2.2.2.2.2.2.1.lt _ e.symm).2; omega)
          clear hx q3 q6 hst hro
          go_upto_region 11 with (fail)
          clear hwa
          obtain ⟨T0, hT0⟩ : ∃ T0, (wa.alloc (.cells #[] 3)).drew = T0 := ⟨_, rfl⟩
          have HBT := Lib.hid (show Below wa.heap.size wa T0 by rw [← hT0]; exact ((Below.refl _ _).alloc (Nat.le_refl _) _).drew)
          have t1 : T0.ownsRow wa.heap.size 3 1 (.slice (some ⟨wa.heap.size, 0, none⟩) 0 0) 0 [] := by rw [← hT0]; exact own_heap (w' := (wa.alloc (.cells #[] 3)).drew) (own_lit (w := wa) (e := 3) (base := wa.heap.size) #[] rfl (Nat.le_refl _) (by unfold maxLen; omega)) rfl
          have t2 : RV T0 Ap (is64 xp) := HRV.out.below HBT.out
          have t3 : wa.heap.size ≤ T0.heap.size := HBT.out.size
          have t4 : xp.length = np := HN.out
          have t5 : (is64 xp).length = np := by unfold is64; rw [List.length_map]; exact t4
          obtain ⟨e0, e1, elt⟩ := HCA.out T0 HBT.out
          obtain ⟨f0, f1, flt⟩ := (HROA.out.below HBT.out).cells
          have hone : ∀ z ∈ is64 xp, z.oneCell' = true := fun z hz => by
            obtain ⟨y, _, rfl⟩ := List.mem_map.1 hz
            rfl
          have h63 : 0 + np ≤ maxLen := by unfold maxLen; omega
          have hbb : (0 + np) * 8 ≤ 140737488355328 := by omega
          have hn63 : nv + 1 ≤ maxLen := by unfold maxLen; omega
          have hnbb : (nv + 1) * 32 ≤ 140737488355328 := by omega
          have hBa : B ≤ wa.heap.size := by rw [HZA.out]; omega
          have h03 : 0 < 2 := by omega
          have h01 : 0 < 1 := by omega
          have hBr : wr.heap.size ≠ B := by have := HB0.out; omega
          have hnb : some (⟨wr.heap.size, 0, none⟩ : Addr).block ≠ (Value.slice Av nv cv).ownBlock := HNB.out
          refine wp_region_held_drew (S := (fun w' => w'.cell? ⟨wr.heap.size, 0, none⟩ = some (.slice Ap np cp) ∧ w'.cell? ⟨wr.heap.size, 1, none⟩ = some (.int .i64 x3))) (by kernel_rfl) ⟨a0, a1⟩ (fun hHeld => ?_)
          refine wpAnyH_take (i := 0) (v := ?v15) rfl (by kernel_rfl) (by kernel_rfl) (by kernel_rfl) (fun _ _ _ h => h) (Or.inl ⟨by rfl, ?hy15⟩) (by assumption) ?rest15
          case hy15 =>
            intro w hSw
            (try dsimp only at hSw)
            go_simp
            (try with_reducible rfl)
          (try simp only [Act.put, List.setIfInBounds_toArray, List.set_cons_zero, List.set_cons_succ])
          refine wpAnyH_take (i := 3) (v := ?v16) rfl (by kernel_rfl) (by kernel_rfl) (by kernel_rfl) (fun _ _ _ h => h) (Or.inl ⟨by rfl, ?hy16⟩) (by assumption) ?rest16
          case hy16 =>
            intro w hSw
            (try dsimp only at hSw)
            go_simp
            (try with_reducible rfl)
          (try simp only [Act.put, List.setIfInBounds_toArray, List.set_cons_zero, List.set_cons_succ])
          refine wpAnyH_take (i := 4) (v := ?v17) rfl (by kernel_rfl) (by kernel_rfl) (by kernel_rfl) (fun _ _ _ h => h) (Or.inl ⟨by rfl, ?hy17⟩) (by assumption) ?rest17
          case hy17 =>
            intro w hSw
            (try dsimp only at hSw)
            go_simp
            (try with_reducible rfl)
          (try simp only [Act.put, List.setIfInBounds_toArray, List.set_cons_zero, List.set_cons_succ])
          refine wpAnyH_take (i := 6) (v := ?v18) rfl (by kernel_rfl) (by kernel_rfl) (by kernel_rfl) (fun _ _ _ h => h) (Or.inl ⟨by rfl, ?hy18⟩) (by assumption) ?rest18
          case hy18 =>
            intro w hSw
            (try dsimp only at hSw)
            go_simp
            (try with_reducible rfl)
          (try simp only [Act.put, List.setIfInBounds_toArray, List.set_cons_zero, List.set_cons_succ])
          refine wpAnyH_take (i := 7) (v := ?v19) rfl (by kernel_rfl) (by kernel_rfl) (by kernel_rfl) (fun _ _ _ h => h) (Or.inl ⟨by rfl, ?hy19⟩) (by assumption) ?rest19
          case hy19 =>
            intro w hSw
            (try dsimp only at hSw)
            go_simp
            (try with_reducible rfl)
          (try simp only [Act.put, List.setIfInBounds_toArray, List.set_cons_zero, List.set_cons_succ])
          refine wpAnyH_ready (rs := [1, 2]) (by kernel_rfl) (by simp) ?_
          refine AllReadyH.cons rfl (fun K hK => ?_) ?_
          · go_simp
            refine hK.out _ _ ⟨a0, a1⟩ (fun hHeld => ?_)
            clear hK K
            (try simp only [Act.put, List.setIfInBounds_toArray, List.set_cons_zero, List.set_cons_succ])
            refine wpAnyH_ready (rs := [2]) (by kernel_rfl) (by simp) ?_
            refine AllReadyH.cons rfl (fun K hK => ?_) ?_
            · go_simp
              refine hK.out _ _ ⟨e0, e1⟩ (fun hHeld => ?_)
              clear hK K
              (try simp only [Act.put, List.setIfInBounds_toArray, List.set_cons_zero, List.set_cons_succ])
              refine wpAnyH_ready (rs := [5]) (by kernel_rfl) (by simp) ?_
              refine AllReadyH.cons rfl (fun K hK => ?_) ?_
              · refine step_ap (P := Tryd.prog) (t := 22) (e := 3) (z := .int .i64 0) (bytes := 8) int8 rfl (.tmp 48) (.tmp 50) rfl rfl t1 rfl t5 t2 hone h63 hbb t3 ?_; intro A7 c7 w7 hown hgrow _ _; rw [Nat.zero_add] at hown ⊢; rw [List.nil_append] at hown; have HO7 := Lib.hid hown; have HB7 := Lib.hid (HBT.out.grown hgrow t3 (fun k hk => (t1.lt k hk).1)); obtain ⟨g0, g1, glt⟩ := HCA.out w7 HB7.out; have HRO7 := Lib.hid (HROA.out.below HB7.out); obtain ⟨h0, h1, h2⟩ := HRO7.out.cells; have HB8 := Lib.hid (HB7.out.alloc HB7.out.size (.cells #[.slice A7 np c7, .int .i64 x3] 68)); obtain ⟨k0, k1, klt⟩ := HCA.out _ HB8.out; obtain ⟨kr0, kr1, kr2⟩ := (HROA.out.below HB8.out).cells; have u1 := (HROA.out.below HB8.out).2.2.2.2.2.2.1; have u2 := news_block w7 #[.slice A7 np c7, .int .i64 x3] 68; have u3 : B ≤ (w7.alloc (.cells #[.slice A7 np c7, .int .i64 x3] 68)).heap.size := Nat.le_trans hBa HB8.out.size; have u4 := one2 (.int .i64 x3) A7 np c7 rfl; clear hown hgrow
                refine hK.out _ _ ⟨g0, g1⟩ (fun hHeld => ?_)
                clear hK K
                (try simp only [Act.put, List.setIfInBounds_toArray, List.set_cons_zero, List.set_cons_succ])
                refine wpAnyH_take (i := 8) (v := ?v20) rfl (by kernel_rfl) (by kernel_rfl) (by kernel_rfl) (fun _ _ _ h => h) (Or.inl ⟨by rfl, ?hy20⟩) (by assumption) ?rest20
                case hy20 =>
                  intro w hSw
                  (try dsimp only at hSw)
                  go_simp
                  (try with_reducible rfl)
                (try simp only [Act.put, List.setIfInBounds_toArray, List.set_cons_zero, List.set_cons_succ])
                refine wpAnyH_ready (rs := [9]) (by kernel_rfl) (by simp) ?_
                refine AllReadyH.cons rfl (fun K hK => ?_) ?_
                · go_simp
                  refine hK.out _ _ ⟨k0, k1⟩ (fun hHeld => ?_)
                  clear hK K
                  (try simp only [Act.put, List.setIfInBounds_toArray, List.set_cons_zero, List.set_cons_succ])
                  refine wpAnyH_ready (rs := [10]) (by kernel_rfl) (by simp) ?_
                  refine AllReadyH.cons rfl (fun K hK => ?_) ?_
                  · refine step_lies (P := Tryd.prog) rfl (.tmp 47) (.tmp 55) 34 rfl B 68 ti _ 2 32 Tryd.underlying34 hti htz hts htb rfl h03 (.slice Av nv cv) nv cs2 (by rfl) u1 ⟨w7.heap.size, 0, none⟩ 1 1 [.slice A7 np c7, .int .i64 x3] (by rfl) rfl u2 u4 h01 hn63 hnbb u3 ?_; intro g9 cap9 w9 hown hgrow; have HO9 := Lib.hid hown; have HG9 := Lib.hid hgrow; have HBL := Lib.hid ((HROA.out.below HB8.out).blockV hgrow); have v1 := cell_of_row w9 B 1 _ _ _ HBL.out; have v2 := frozen_of_row w9 B 1 _ _ HBL.out; have l0 := (hgrow.cell_far ⟨wr.heap.size, 0, none⟩ klt hnb).trans k0; have l1 := (hgrow.cell_far ⟨wr.heap.size, 1, none⟩ klt hnb).trans k1; have m0 := (cell_set (i := 1) w9 (.slice (some ⟨g9, 0, none⟩) (nv + 1) cap9) hBr 0).trans l0; have m1 := (cell_set (i := 1) w9 (.slice (some ⟨g9, 0, none⟩) (nv + 1) cap9) hBr 1).trans l1; clear hown hgrow
                    refine hK.out _ _ ⟨l0, l1⟩ (fun hHeld => ?_)
                    clear hK K
                    (try simp only [Act.put, List.setIfInBounds_toArray, List.set_cons_zero, List.set_cons_succ])
                    refine wpAnyH_take (i := 11) (v := ?v21) rfl (by kernel_rfl) (by kernel_rfl) (by kernel_rfl) (fun _ _ _ h => h) (Or.inl ⟨by rfl, ?hy21⟩) (by assumption) ?rest21
                    case hy21 =>
                      intro w hSw
                      (try dsimp only at hSw)
                      go_simp
                      (try with_reducible rfl)
                    (try simp only [Act.put, List.setIfInBounds_toArray, List.set_cons_zero, List.set_cons_succ])
                    refine wpAnyH_ready (rs := [12]) (by kernel_rfl) (by simp) ?_
                    refine AllReadyH.cons rfl (fun K hK => ?_) ?_
                    · go_simp
                      refine hK.out _ _ ⟨m0, m1⟩ (fun hHeld => ?_)
                      clear hK K
                      (try simp only [Act.put, List.setIfInBounds_toArray, List.set_cons_zero, List.set_cons_succ])
                      refine wpAnyH_done (by kernel_rfl) ?_ _
                      go_wp2_with (fail)
                      go_roundg g
                      all_goals first
                        | omega
                        | (refine ⟨nv + 1, by omega, by go_num, Lib.hid ⟨?_, ?_⟩⟩
                           · have h9 := (HROA.out.below HB8.out).verd (x := (xp, x3)) ((HO7.out.mono hBa).alloc _) hnp HO9.out HG9.out
                             rw [take_snoc' HX.out]
                             exact ⟨_, _, _, _, _, _, _, _, h9⟩
                           · exact ((HST.out.trans ((HBA.out.trans (HB8.out.mono (by rw [HZA.out]; exact Nat.le_succ _))).mono (by have := HB0.out; omega))).grown HG9.out u3 (fun k hk => ((HROA.out.below HB8.out).2.2.2.2.2.2.1.lt k hk).1)).setCell (Nat.le_refl _) _)
                    exact AllReadyH.nil
                  exact AllReadyH.nil
                exact AllReadyH.nil
              exact AllReadyH.nil
            exact AllReadyH.nil
          refine AllReadyH.cons rfl (fun K hK => ?_) ?_
          · go_simp
            refine hK.out _ _ ⟨e0, e1⟩ (fun hHeld => ?_)
            clear hK K
            (try simp only [Act.put, List.setIfInBounds_toArray, List.set_cons_zero, List.set_cons_succ])
            refine wpAnyH_ready (rs := [1, 5]) (by kernel_rfl) (by simp) ?_
            refine AllReadyH.cons rfl (fun K hK => ?_) ?_
            · go_simp
              refine hK.out _ _ ⟨e0, e1⟩ (fun hHeld => ?_)
              clear hK K
              (try simp only [Act.put, List.setIfInBounds_toArray, List.set_cons_zero, List.set_cons_succ])
              refine wpAnyH_ready (rs := [5]) (by kernel_rfl) (by simp) ?_
              refine AllReadyH.cons rfl (fun K hK => ?_) ?_
              · refine step_ap (P := Tryd.prog) (t := 22) (e := 3) (z := .int .i64 0) (bytes := 8) int8 rfl (.tmp 48) (.tmp 50) rfl rfl t1 rfl t5 t2 hone h63 hbb t3 ?_; intro A7 c7 w7 hown hgrow _ _; rw [Nat.zero_add] at hown ⊢; rw [List.nil_append] at hown; have HO7 := Lib.hid hown; have HB7 := Lib.hid (HBT.out.grown hgrow t3 (fun k hk => (t1.lt k hk).1)); obtain ⟨g0, g1, glt⟩ := HCA.out w7 HB7.out; have HRO7 := Lib.hid (HROA.out.below HB7.out); obtain ⟨h0, h1, h2⟩ := HRO7.out.cells; have HB8 := Lib.hid (HB7.out.alloc HB7.out.size (.cells #[.slice A7 np c7, .int .i64 x3] 68)); obtain ⟨k0, k1, klt⟩ := HCA.out _ HB8.out; obtain ⟨kr0, kr1, kr2⟩ := (HROA.out.below HB8.out).cells; have u1 := (HROA.out.below HB8.out).2.2.2.2.2.2.1; have u2 := news_block w7 #[.slice A7 np c7, .int .i64 x3] 68; have u3 : B ≤ (w7.alloc (.cells #[.slice A7 np c7, .int .i64 x3] 68)).heap.size := Nat.le_trans hBa HB8.out.size; have u4 := one2 (.int .i64 x3) A7 np c7 rfl; clear hown hgrow
                refine hK.out _ _ ⟨g0, g1⟩ (fun hHeld => ?_)
                clear hK K
                (try simp only [Act.put, List.setIfInBounds_toArray, List.set_cons_zero, List.set_cons_succ])
                refine wpAnyH_take (i := 8) (v := ?v22) rfl (by kernel_rfl) (by kernel_rfl) (by kernel_rfl) (fun _ _ _ h => h) (Or.inl ⟨by rfl, ?hy22⟩) (by assumption) ?rest22
                case hy22 =>
                  intro w hSw
                  (try dsimp only at hSw)
                  go_simp
                  (try with_reducible rfl)
                (try simp only [Act.put, List.setIfInBounds_toArray, List.set_cons_zero, List.set_cons_succ])
                refine wpAnyH_ready (rs := [9]) (by kernel_rfl) (by simp) ?_
                refine AllReadyH.cons rfl (fun K hK => ?_) ?_
                · go_simp
                  refine hK.out _ _ ⟨k0, k1⟩ (fun hHeld => ?_)
                  clear hK K
                  (try simp only [Act.put, List.setIfInBounds_toArray, List.set_cons_zero, List.set_cons_succ])
                  refine wpAnyH_ready (rs := [10]) (by kernel_rfl) (by simp) ?_
                  refine AllReadyH.cons rfl (fun K hK => ?_) ?_
                  · refine step_lies (P := Tryd.prog) rfl (.tmp 47) (.tmp 55) 34 rfl B 68 ti _ 2 32 Tryd.underlying34 hti htz hts htb rfl h03 (.slice Av nv cv) nv cs2 (by rfl) u1 ⟨w7.heap.size, 0, none⟩ 1 1 [.slice A7 np c7, .int .i64 x3] (by rfl) rfl u2 u4 h01 hn63 hnbb u3 ?_; intro g9 cap9 w9 hown hgrow; have HO9 := Lib.hid hown; have HG9 := Lib.hid hgrow; have HBL := Lib.hid ((HROA.out.below HB8.out).blockV hgrow); have v1 := cell_of_row w9 B 1 _ _ _ HBL.out; have v2 := frozen_of_row w9 B 1 _ _ HBL.out; have l0 := (hgrow.cell_far ⟨wr.heap.size, 0, none⟩ klt hnb).trans k0; have l1 := (hgrow.cell_far ⟨wr.heap.size, 1, none⟩ klt hnb).trans k1; have m0 := (cell_set (i := 1) w9 (.slice (some ⟨g9, 0, none⟩) (nv + 1) cap9) hBr 0).trans l0; have m1 := (cell_set (i := 1) w9 (.slice (some ⟨g9, 0, none⟩) (nv + 1) cap9) hBr 1).trans l1; clear hown hgrow
                    refine hK.out _ _ ⟨l0, l1⟩ (fun hHeld => ?_)
                    clear hK K
                    (try simp only [Act.put, List.setIfInBounds_toArray, List.set_cons_zero, List.set_cons_succ])
                    refine wpAnyH_take (i := 11) (v := ?v23) rfl (by kernel_rfl) (by kernel_rfl) (by kernel_rfl) (fun _ _ _ h => h) (Or.inl ⟨by rfl, ?hy23⟩) (by assumption) ?rest23
                    case hy23 =>
                      intro w hSw
                      (try dsimp only at hSw)
                      go_simp
                      (try with_reducible rfl)
                    (try simp only [Act.put, List.setIfInBounds_toArray, List.set_cons_zero, List.set_cons_succ])
                    refine wpAnyH_ready (rs := [12]) (by kernel_rfl) (by simp) ?_
                    refine AllReadyH.cons rfl (fun K hK => ?_) ?_
                    · go_simp
                      refine hK.out _ _ ⟨m0, m1⟩ (fun hHeld => ?_)
                      clear hK K
                      (try simp only [Act.put, List.setIfInBounds_toArray, List.set_cons_zero, List.set_cons_succ])
                      refine wpAnyH_done (by kernel_rfl) ?_ _
                      go_wp2_with (fail)
                      go_roundg g
                      all_goals first
                        | omega
                        | (refine ⟨nv + 1, by omega, by go_num, Lib.hid ⟨?_, ?_⟩⟩
                           · have h9 := (HROA.out.below HB8.out).verd (x := (xp, x3)) ((HO7.out.mono hBa).alloc _) hnp HO9.out HG9.out
                             rw [take_snoc' HX.out]
                             exact ⟨_, _, _, _, _, _, _, _, h9⟩
                           · exact ((HST.out.trans ((HBA.out.trans (HB8.out.mono (by rw [HZA.out]; exact Nat.le_succ _))).mono (by have := HB0.out; omega))).grown HG9.out u3 (fun k hk => ((HROA.out.below HB8.out).2.2.2.2.2.2.1.lt k hk).1)).setCell (Nat.le_refl _) _)
                    exact AllReadyH.nil
                  exact AllReadyH.nil
                exact AllReadyH.nil
              exact AllReadyH.nil
            refine AllReadyH.cons rfl (fun K hK => ?_) ?_
            · refine step_ap (P := Tryd.prog) (t := 22) (e := 3) (z := .int .i64 0) (bytes := 8) int8 rfl (.tmp 48) (.tmp 50) rfl rfl t1 rfl t5 t2 hone h63 hbb t3 ?_; intro A7 c7 w7 hown hgrow _ _; rw [Nat.zero_add] at hown ⊢; rw [List.nil_append] at hown; have HO7 := Lib.hid hown; have HB7 := Lib.hid (HBT.out.grown hgrow t3 (fun k hk => (t1.lt k hk).1)); obtain ⟨g0, g1, glt⟩ := HCA.out w7 HB7.out; have HRO7 := Lib.hid (HROA.out.below HB7.out); obtain ⟨h0, h1, h2⟩ := HRO7.out.cells; have HB8 := Lib.hid (HB7.out.alloc HB7.out.size (.cells #[.slice A7 np c7, .int .i64 x3] 68)); obtain ⟨k0, k1, klt⟩ := HCA.out _ HB8.out; obtain ⟨kr0, kr1, kr2⟩ := (HROA.out.below HB8.out).cells; have u1 := (HROA.out.below HB8.out).2.2.2.2.2.2.1; have u2 := news_block w7 #[.slice A7 np c7, .int .i64 x3] 68; have u3 : B ≤ (w7.alloc (.cells #[.slice A7 np c7, .int .i64 x3] 68)).heap.size := Nat.le_trans hBa HB8.out.size; have u4 := one2 (.int .i64 x3) A7 np c7 rfl; clear hown hgrow
              refine hK.out _ _ ⟨g0, g1⟩ (fun hHeld => ?_)
              clear hK K
              (try simp only [Act.put, List.setIfInBounds_toArray, List.set_cons_zero, List.set_cons_succ])
              refine wpAnyH_take (i := 8) (v := ?v24) rfl (by kernel_rfl) (by kernel_rfl) (by kernel_rfl) (fun _ _ _ h => h) (Or.inl ⟨by rfl, ?hy24⟩) (by assumption) ?rest24
              case hy24 =>
                intro w hSw
                (try dsimp only at hSw)
                go_simp
                (try with_reducible rfl)
              (try simp only [Act.put, List.setIfInBounds_toArray, List.set_cons_zero, List.set_cons_succ])
              refine wpAnyH_ready (rs := [1, 9]) (by kernel_rfl) (by simp) ?_
              refine AllReadyH.cons rfl (fun K hK => ?_) ?_
              · go_simp
                refine hK.out _ _ ⟨g0, g1⟩ (fun hHeld => ?_)
                clear hK K
                (try simp only [Act.put, List.setIfInBounds_toArray, List.set_cons_zero, List.set_cons_succ])
                refine wpAnyH_ready (rs := [9]) (by kernel_rfl) (by simp) ?_
                refine AllReadyH.cons rfl (fun K hK => ?_) ?_
                · go_simp
                  refine hK.out _ _ ⟨k0, k1⟩ (fun hHeld => ?_)
                  clear hK K
                  (try simp only [Act.put, List.setIfInBounds_toArray, List.set_cons_zero, List.set_cons_succ])
                  refine wpAnyH_ready (rs := [10]) (by kernel_rfl) (by simp) ?_
                  refine AllReadyH.cons rfl (fun K hK => ?_) ?_
                  · refine step_lies (P := Tryd.prog) rfl (.tmp 47) (.tmp 55) 34 rfl B 68 ti _ 2 32 Tryd.underlying34 hti htz hts htb rfl h03 (.slice Av nv cv) nv cs2 (by rfl) u1 ⟨w7.heap.size, 0, none⟩ 1 1 [.slice A7 np c7, .int .i64 x3] (by rfl) rfl u2 u4 h01 hn63 hnbb u3 ?_; intro g9 cap9 w9 hown hgrow; have HO9 := Lib.hid hown; have HG9 := Lib.hid hgrow; have HBL := Lib.hid ((HROA.out.below HB8.out).blockV hgrow); have v1 := cell_of_row w9 B 1 _ _ _ HBL.out; have v2 := frozen_of_row w9 B 1 _ _ HBL.out; have l0 := (hgrow.cell_far ⟨wr.heap.size, 0, none⟩ klt hnb).trans k0; have l1 := (hgrow.cell_far ⟨wr.heap.size, 1, none⟩ klt hnb).trans k1; have m0 := (cell_set (i := 1) w9 (.slice (some ⟨g9, 0, none⟩) (nv + 1) cap9) hBr 0).trans l0; have m1 := (cell_set (i := 1) w9 (.slice (some ⟨g9, 0, none⟩) (nv + 1) cap9) hBr 1).trans l1; clear hown hgrow
                    refine hK.out _ _ ⟨l0, l1⟩ (fun hHeld => ?_)
                    clear hK K
                    (try simp only [Act.put, List.setIfInBounds_toArray, List.set_cons_zero, List.set_cons_succ])
                    refine wpAnyH_take (i := 11) (v := ?v25) rfl (by kernel_rfl) (by kernel_rfl) (by kernel_rfl) (fun _ _ _ h => h) (Or.inl ⟨by rfl, ?hy25⟩) (by assumption) ?rest25
                    case hy25 =>
                      intro w hSw
                      (try dsimp only at hSw)
                      go_simp
                      (try with_reducible rfl)
                    (try simp only [Act.put, List.setIfInBounds_toArray, List.set_cons_zero, List.set_cons_succ])
                    refine wpAnyH_ready (rs := [12]) (by kernel_rfl) (by simp) ?_
                    refine AllReadyH.cons rfl (fun K hK => ?_) ?_
                    · go_simp
                      refine hK.out _ _ ⟨m0, m1⟩ (fun hHeld => ?_)
                      clear hK K
                      (try simp only [Act.put, List.setIfInBounds_toArray, List.set_cons_zero, List.set_cons_succ])
                      refine wpAnyH_done (by kernel_rfl) ?_ _
                      go_wp2_with (fail)
                      go_roundg g
                      all_goals first
                        | omega
                        | (refine ⟨nv + 1, by omega, by go_num, Lib.hid ⟨?_, ?_⟩⟩
                           · have h9 := (HROA.out.below HB8.out).verd (x := (xp, x3)) ((HO7.out.mono hBa).alloc _) hnp HO9.out HG9.out
                             rw [take_snoc' HX.out]
                             exact ⟨_, _, _, _, _, _, _, _, h9⟩
                           · exact ((HST.out.trans ((HBA.out.trans (HB8.out.mono (by rw [HZA.out]; exact Nat.le_succ _))).mono (by have := HB0.out; omega))).grown HG9.out u3 (fun k hk => ((HROA.out.below HB8.out).2.2.2.2.2.2.1.lt k hk).1)).setCell (Nat.le_refl _) _)
                    exact AllReadyH.nil
                  exact AllReadyH.nil
                exact AllReadyH.nil
              refine AllReadyH.cons rfl (fun K hK => ?_) ?_
              · go_simp
                refine hK.out _ _ ⟨k0, k1⟩ (fun hHeld => ?_)
                clear hK K
                (try simp only [Act.put, List.setIfInBounds_toArray, List.set_cons_zero, List.set_cons_succ])
                refine wpAnyH_ready (rs := [1]) (by kernel_rfl) (by simp) ?_
                refine AllReadyH.cons rfl (fun K hK => ?_) ?_
                · go_simp
                  refine hK.out _ _ ⟨k0, k1⟩ (fun hHeld => ?_)
                  clear hK K
                  (try simp only [Act.put, List.setIfInBounds_toArray, List.set_cons_zero, List.set_cons_succ])
                  refine wpAnyH_ready (rs := [10]) (by kernel_rfl) (by simp) ?_
                  refine AllReadyH.cons rfl (fun K hK => ?_) ?_
                  · refine step_lies (P := Tryd.prog) rfl (.tmp 47) (.tmp 55) 34 rfl B 68 ti _ 2 32 Tryd.underlying34 hti htz hts htb rfl h03 (.slice Av nv cv) nv cs2 (by rfl) u1 ⟨w7.heap.size, 0, none⟩ 1 1 [.slice A7 np c7, .int .i64 x3] (by rfl) rfl u2 u4 h01 hn63 hnbb u3 ?_; intro g9 cap9 w9 hown hgrow; have HO9 := Lib.hid hown; have HG9 := Lib.hid hgrow; have HBL := Lib.hid ((HROA.out.below HB8.out).blockV hgrow); have v1 := cell_of_row w9 B 1 _ _ _ HBL.out; have v2 := frozen_of_row w9 B 1 _ _ HBL.out; have l0 := (hgrow.cell_far ⟨wr.heap.size, 0, none⟩ klt hnb).trans k0; have l1 := (hgrow.cell_far ⟨wr.heap.size, 1, none⟩ klt hnb).trans k1; have m0 := (cell_set (i := 1) w9 (.slice (some ⟨g9, 0, none⟩) (nv + 1) cap9) hBr 0).trans l0; have m1 := (cell_set (i := 1) w9 (.slice (some ⟨g9, 0, none⟩) (nv + 1) cap9) hBr 1).trans l1; clear hown hgrow
                    refine hK.out _ _ ⟨l0, l1⟩ (fun hHeld => ?_)
                    clear hK K
                    (try simp only [Act.put, List.setIfInBounds_toArray, List.set_cons_zero, List.set_cons_succ])
                    refine wpAnyH_take (i := 11) (v := ?v26) rfl (by kernel_rfl) (by kernel_rfl) (by kernel_rfl) (fun _ _ _ h => h) (Or.inl ⟨by rfl, ?hy26⟩) (by assumption) ?rest26
                    case hy26 =>
                      intro w hSw
                      (try dsimp only at hSw)
                      go_simp
                      (try with_reducible rfl)
                    (try simp only [Act.put, List.setIfInBounds_toArray, List.set_cons_zero, List.set_cons_succ])
                    refine wpAnyH_ready (rs := [12]) (by kernel_rfl) (by simp) ?_
                    refine AllReadyH.cons rfl (fun K hK => ?_) ?_
                    · go_simp
                      refine hK.out _ _ ⟨m0, m1⟩ (fun hHeld => ?_)
                      clear hK K
                      (try simp only [Act.put, List.setIfInBounds_toArray, List.set_cons_zero, List.set_cons_succ])
                      refine wpAnyH_done (by kernel_rfl) ?_ _
                      go_wp2_with (fail)
                      go_roundg g
                      all_goals first
                        | omega
                        | (refine ⟨nv + 1, by omega, by go_num, Lib.hid ⟨?_, ?_⟩⟩
                           · have h9 := (HROA.out.below HB8.out).verd (x := (xp, x3)) ((HO7.out.mono hBa).alloc _) hnp HO9.out HG9.out
                             rw [take_snoc' HX.out]
                             exact ⟨_, _, _, _, _, _, _, _, h9⟩
                           · exact ((HST.out.trans ((HBA.out.trans (HB8.out.mono (by rw [HZA.out]; exact Nat.le_succ _))).mono (by have := HB0.out; omega))).grown HG9.out u3 (fun k hk => ((HROA.out.below HB8.out).2.2.2.2.2.2.1.lt k hk).1)).setCell (Nat.le_refl _) _)
                    exact AllReadyH.nil
                  exact AllReadyH.nil
                exact AllReadyH.nil
              exact AllReadyH.nil
            exact AllReadyH.nil
          exact AllReadyH.nil
    | succ g =>
      have hk : (i : Int) < (n : Int) := by omega
      have hk0 : (0 : Int) ≤ (i : Int) := by omega
      obtain ⟨⟨x1, xp, x3⟩, hx⟩ : ∃ x, hs[i]? = some x := ⟨_, List.getElem?_eq_getElem (by rw [HRL.out]; omega)⟩
      obtain ⟨gb, off, Ap, np, cp, rfl, hlt, q0, q1, q2, q3, q4, q5, q6⟩ := (HR.out.2.2.2.2.1.below (by rw [HB.out]; exact hst.out.2)).hit hx
      dsimp only at q0 q1 q2 q3 q6
      have HX := Lib.hid hx
      have HN := Lib.hid q3
      have hnp : np ≤ 1000000000000 := q5
      have hnh : nh = i := by have h1 := hro.2.2.1; rw [List.length_take, HRL.out] at h1; omega
      subst hnh
      obtain ⟨wa, hwa⟩ : ∃ wa, wr.alloc (.cells #[.int .i64 x1, .slice Ap np cp, .int .i64 x3] 44) = wa := ⟨_, rfl⟩
      have HBA := Lib.hid (show Below wr.heap.size wr wa by rw [← hwa]; exact (Below.refl _ _).alloc (Nat.le_refl _) _)
      have HZA := Lib.hid (show wa.heap.size = wr.heap.size + 1 by rw [← hwa]; simp)
      have HCA := Lib.hid (show ∀ wx, Below wa.heap.size wa wx → wx.cell? ⟨wr.heap.size, 0, none⟩ = some (.int .i64 x1) ∧ wx.cell? ⟨wr.heap.size, 1, none⟩ = some (.slice Ap np cp) ∧ wx.cell? ⟨wr.heap.size, 2, none⟩ = some (.int .i64 x3) ∧ wr.heap.size < wx.heap.size from fun wx hb => by
        have h0 : wa.heap[wr.heap.size]? = some (.cells #[.int .i64 x1, .slice Ap np cp, .int .i64 x3] 44 (0, 0)) := by rw [← hwa]; exact heap_alloc_new wr _
        have h1 := (hb.block wr.heap.size (by rw [HZA.out]; exact Nat.lt_succ_self _)).trans h0
        exact ⟨cell_of_row wx _ 0 _ _ _ h1, cell_of_row wx _ 1 _ _ _ h1, cell_of_row wx _ 2 _ _ _ h1, (Array.getElem?_eq_some_iff.1 h1).1⟩)
      obtain ⟨a0, a1, a2, alt⟩ := HCA.out wa (Below.refl _ _)
      have HROA := Lib.hid (hro.below HBA.out)
      obtain ⟨d0, d1, dlt⟩ := HROA.out.cells
      obtain ⟨ti, hti, htz, hts, htb⟩ := hit_info
      have HRV := Lib.hid (q6.below HBA.out)
      have HST := Lib.hid hst.out.2
      have HB0 := Lib.hid (show B < wr.heap.size from hro.cells.2.2)
      have HNB := Lib.hid (show some wr.heap.size ≠ (Value.slice Ah nh ch).ownBlock from fun e => by have := (hro.2.2.2.2.1.lt _ e.symm).2; omega)
      clear hx q3 q6 hst hro
      go_upto_region 6 with (fail)
      clear hwa
      obtain ⟨T0, hT0⟩ : ∃ T0, (wa.alloc (.cells #[] 3)).drew = T0 := ⟨_, rfl⟩
      have HBT := Lib.hid (show Below wa.heap.size wa T0 by rw [← hT0]; exact ((Below.refl _ _).alloc (Nat.le_refl _) _).drew)
      have t1 : T0.ownsRow wa.heap.size 3 1 (.slice (some ⟨wa.heap.size, 0, none⟩) 0 0) 0 [] := by rw [← hT0]; exact own_heap (w' := (wa.alloc (.cells #[] 3)).drew) (own_lit (w := wa) (e := 3) (base := wa.heap.size) #[] rfl (Nat.le_refl _) (by unfold maxLen; omega)) rfl
      have t2 : RV T0 Ap (is64 xp) := HRV.out.below HBT.out
      have t3 : wa.heap.size ≤ T0.heap.size := HBT.out.size
      have t4 : xp.length = np := HN.out
      have t5 : (is64 xp).length = np := by unfold is64; rw [List.length_map]; exact t4
      obtain ⟨e0, e1, e2, elt⟩ := HCA.out T0 HBT.out
      obtain ⟨f0, f1, flt⟩ := (HROA.out.below HBT.out).cells
      have hone : ∀ z ∈ is64 xp, z.oneCell' = true := fun z hz => by
        obtain ⟨y, _, rfl⟩ := List.mem_map.1 hz
        rfl
      have h63 : 0 + np ≤ maxLen := by unfold maxLen; omega
      have hbb : (0 + np) * 8 ≤ 140737488355328 := by omega
      have hn63 : nh + 1 ≤ maxLen := by unfold maxLen; omega
      have hnbb : (nh + 1) * 40 ≤ 140737488355328 := by omega
      have hBa : B ≤ wa.heap.size := by rw [HZA.out]; omega
      have h03 : 0 < 3 := by omega
      have h01 : 0 < 1 := by omega
      have hBr : wr.heap.size ≠ B := by have := HB0.out; omega
      have hnb : some (⟨wr.heap.size, 0, none⟩ : Addr).block ≠ (Value.slice Ah nh ch).ownBlock := HNB.out
      refine wp_region_held_drew (S := (fun w' => w'.cell? ⟨wr.heap.size, 0, none⟩ = some (.int .i64 x1) ∧ w'.cell? ⟨wr.heap.size, 1, none⟩ = some (.slice Ap np cp) ∧ w'.cell? ⟨wr.heap.size, 2, none⟩ = some (.int .i64 x3))) (by kernel_rfl) ⟨a0, a1, a2⟩ (fun hHeld => ?_)
      refine wpAnyH_take (i := 0) (v := ?v1) rfl (by kernel_rfl) (by kernel_rfl) (by kernel_rfl) (fun _ _ _ h => h) (Or.inl ⟨by rfl, ?hy1⟩) (by assumption) ?rest1
      case hy1 =>
        intro w hSw
        (try dsimp only at hSw)
        go_simp
        (try with_reducible rfl)
      (try simp only [Act.put, List.setIfInBounds_toArray, List.set_cons_zero, List.set_cons_succ])
      refine wpAnyH_take (i := 2) (v := ?v2) rfl (by kernel_rfl) (by kernel_rfl) (by kernel_rfl) (fun _ _ _ h => h) (Or.inl ⟨by rfl, ?hy2⟩) (by assumption) ?rest2
      case hy2 =>
        intro w hSw
        (try dsimp only at hSw)
        go_simp
        (try with_reducible rfl)
      (try simp only [Act.put, List.setIfInBounds_toArray, List.set_cons_zero, List.set_cons_succ])
      refine wpAnyH_take (i := 3) (v := ?v3) rfl (by kernel_rfl) (by kernel_rfl) (by kernel_rfl) (fun _ _ _ h => h) (Or.inl ⟨by rfl, ?hy3⟩) (by assumption) ?rest3
      case hy3 =>
        intro w hSw
        (try dsimp only at hSw)
        go_simp
        (try with_reducible rfl)
      (try simp only [Act.put, List.setIfInBounds_toArray, List.set_cons_zero, List.set_cons_succ])
      refine wpAnyH_take (i := 5) (v := ?v4) rfl (by kernel_rfl) (by kernel_rfl) (by kernel_rfl) (fun _ _ _ h => h) (Or.inl ⟨by rfl, ?hy4⟩) (by assumption) ?rest4
      case hy4 =>
        intro w hSw
        (try dsimp only at hSw)
        go_simp
        (try with_reducible rfl)
      (try simp only [Act.put, List.setIfInBounds_toArray, List.set_cons_zero, List.set_cons_succ])
      refine wpAnyH_take (i := 6) (v := ?v5) rfl (by kernel_rfl) (by kernel_rfl) (by kernel_rfl) (fun _ _ _ h => h) (Or.inl ⟨by rfl, ?hy5⟩) (by assumption) ?rest5
      case hy5 =>
        intro w hSw
        (try dsimp only at hSw)
        go_simp
        (try with_reducible rfl)
      (try simp only [Act.put, List.setIfInBounds_toArray, List.set_cons_zero, List.set_cons_succ])
      refine wpAnyH_take (i := 8) (v := ?v6) rfl (by kernel_rfl) (by kernel_rfl) (by kernel_rfl) (fun _ _ _ h => h) (Or.inl ⟨by rfl, ?hy6⟩) (by assumption) ?rest6
      case hy6 =>
        intro w hSw
        (try dsimp only at hSw)
        go_simp
        (try with_reducible rfl)
      (try simp only [Act.put, List.setIfInBounds_toArray, List.set_cons_zero, List.set_cons_succ])
      refine wpAnyH_take (i := 9) (v := ?v7) rfl (by kernel_rfl) (by kernel_rfl) (by kernel_rfl) (fun _ _ _ h => h) (Or.inl ⟨by rfl, ?hy7⟩) (by assumption) ?rest7
      case hy7 =>
        intro w hSw
        (try dsimp only at hSw)
        go_simp
        (try with_reducible rfl)
      (try simp only [Act.put, List.setIfInBounds_toArray, List.set_cons_zero, List.set_cons_succ])
      refine wpAnyH_ready (rs := [1, 4]) (by kernel_rfl) (by simp) ?_
      refine AllReadyH.cons rfl (fun K hK => ?_) ?_
      · go_simp
        refine hK.out _ _ ⟨a0, a1, a2⟩ (fun hHeld => ?_)
        clear hK K
        (try simp only [Act.put, List.setIfInBounds_toArray, List.set_cons_zero, List.set_cons_succ])
        refine wpAnyH_ready (rs := [4]) (by kernel_rfl) (by simp) ?_
        refine AllReadyH.cons rfl (fun K hK => ?_) ?_
        · go_simp
          refine hK.out _ _ ⟨e0, e1, e2⟩ (fun hHeld => ?_)
          clear hK K
          (try simp only [Act.put, List.setIfInBounds_toArray, List.set_cons_zero, List.set_cons_succ])
          refine wpAnyH_ready (rs := [7]) (by kernel_rfl) (by simp) ?_
          refine AllReadyH.cons rfl (fun K hK => ?_) ?_
          · refine step_ap (P := Tryd.prog) (t := 22) (e := 3) (z := .int .i64 0) (bytes := 8) int8 rfl (.tmp 24) (.tmp 26) rfl rfl t1 rfl t5 t2 hone h63 hbb t3 ?_; intro A7 c7 w7 hown hgrow _ _; rw [Nat.zero_add] at hown ⊢; rw [List.nil_append] at hown; have HO7 := Lib.hid hown; have HB7 := Lib.hid (HBT.out.grown hgrow t3 (fun k hk => (t1.lt k hk).1)); obtain ⟨g0, g1, g2, glt⟩ := HCA.out w7 HB7.out; have HRO7 := Lib.hid (HROA.out.below HB7.out); obtain ⟨h0, h1, h2⟩ := HRO7.out.cells; have HB8 := Lib.hid (HB7.out.alloc HB7.out.size (.cells #[.int .i64 x1, .slice A7 np c7, .int .i64 x3] 44)); obtain ⟨k0, k1, k2, klt⟩ := HCA.out _ HB8.out; obtain ⟨kr0, kr1, kr2⟩ := (HROA.out.below HB8.out).cells; have u1 := (HROA.out.below HB8.out).2.2.2.2.1; have u2 := news_block w7 #[.int .i64 x1, .slice A7 np c7, .int .i64 x3] 44; have u3 : B ≤ (w7.alloc (.cells #[.int .i64 x1, .slice A7 np c7, .int .i64 x3] 44)).heap.size := Nat.le_trans hBa HB8.out.size; have u4 := one3 (.int .i64 x1) (.int .i64 x3) A7 np c7 rfl rfl; clear hown hgrow
            refine hK.out _ _ ⟨g0, g1, g2⟩ (fun hHeld => ?_)
            clear hK K
            (try simp only [Act.put, List.setIfInBounds_toArray, List.set_cons_zero, List.set_cons_succ])
            refine wpAnyH_take (i := 10) (v := ?v8) rfl (by kernel_rfl) (by kernel_rfl) (by kernel_rfl) (fun _ _ _ h => h) (Or.inl ⟨by rfl, ?hy8⟩) (by assumption) ?rest8
            case hy8 =>
              intro w hSw
              (try dsimp only at hSw)
              go_simp
              (try with_reducible rfl)
            (try simp only [Act.put, List.setIfInBounds_toArray, List.set_cons_zero, List.set_cons_succ])
            refine wpAnyH_ready (rs := [11]) (by kernel_rfl) (by simp) ?_
            refine AllReadyH.cons rfl (fun K hK => ?_) ?_
            · go_simp
              refine hK.out _ _ ⟨k0, k1, k2⟩ (fun hHeld => ?_)
              clear hK K
              (try simp only [Act.put, List.setIfInBounds_toArray, List.set_cons_zero, List.set_cons_succ])
              refine wpAnyH_ready (rs := [12]) (by kernel_rfl) (by simp) ?_
              refine AllReadyH.cons rfl (fun K hK => ?_) ?_
              · refine step_lies (P := Tryd.prog) rfl (.tmp 21) (.tmp 31) 33 rfl B 44 ti _ 3 40 Tryd.underlying33 hti htz hts htb rfl h03 (.slice Ah nh ch) nh cs1 (by rfl) u1 ⟨w7.heap.size, 0, none⟩ 1 1 [.int .i64 x1, .slice A7 np c7, .int .i64 x3] (by rfl) rfl u2 u4 h01 hn63 hnbb u3 ?_; intro g9 cap9 w9 hown hgrow; have HO9 := Lib.hid hown; have HG9 := Lib.hid hgrow; have HBL := Lib.hid ((HROA.out.below HB8.out).blockH hgrow); have v1 := cell_of_row w9 B 0 _ _ _ HBL.out; have v2 := frozen_of_row w9 B 0 _ _ HBL.out; have l0 := (hgrow.cell_far ⟨wr.heap.size, 0, none⟩ klt hnb).trans k0; have l1 := (hgrow.cell_far ⟨wr.heap.size, 1, none⟩ klt hnb).trans k1; have l2 := (hgrow.cell_far ⟨wr.heap.size, 2, none⟩ klt hnb).trans k2; have m0 := (cell_set (i := 0) w9 (.slice (some ⟨g9, 0, none⟩) (nh + 1) cap9) hBr 0).trans l0; have m1 := (cell_set (i := 0) w9 (.slice (some ⟨g9, 0, none⟩) (nh + 1) cap9) hBr 1).trans l1; have m2 := (cell_set (i := 0) w9 (.slice (some ⟨g9, 0, none⟩) (nh + 1) cap9) hBr 2).trans l2; clear hown hgrow
                refine hK.out _ _ ⟨l0, l1, l2⟩ (fun hHeld => ?_)
                clear hK K
                (try simp only [Act.put, List.setIfInBounds_toArray, List.set_cons_zero, List.set_cons_succ])
                refine wpAnyH_take (i := 13) (v := ?v9) rfl (by kernel_rfl) (by kernel_rfl) (by kernel_rfl) (fun _ _ _ h => h) (Or.inl ⟨by rfl, ?hy9⟩) (by assumption) ?rest9
                case hy9 =>
                  intro w hSw
                  (try dsimp only at hSw)
                  go_simp
                  (try with_reducible rfl)
                (try simp only [Act.put, List.setIfInBounds_toArray, List.set_cons_zero, List.set_cons_succ])
                refine wpAnyH_ready (rs := [14]) (by kernel_rfl) (by simp) ?_
                refine AllReadyH.cons rfl (fun K hK => ?_) ?_
                · go_simp
                  refine hK.out _ _ ⟨m0, m1, m2⟩ (fun hHeld => ?_)
                  clear hK K
                  (try simp only [Act.put, List.setIfInBounds_toArray, List.set_cons_zero, List.set_cons_succ])
                  refine wpAnyH_done (by kernel_rfl) ?_ _
                  go_wp2_with (fail)
                  go_roundg g
                  all_goals first
                    | omega
                    | (refine ⟨nh + 1, by omega, by go_num, Lib.hid ⟨?_, ?_⟩⟩
                       · have h9 := (HROA.out.below HB8.out).hit (x := (x1, xp, x3)) ((HO7.out.mono hBa).alloc _) hnp HO9.out HG9.out
                         rw [take_snoc' HX.out]
                         exact ⟨_, _, _, _, _, _, _, _, h9⟩
                       · exact ((HST.out.trans ((HBA.out.trans (HB8.out.mono (by rw [HZA.out]; exact Nat.le_succ _))).mono (by have := HB0.out; omega))).grown HG9.out u3 (fun k hk => ((HROA.out.below HB8.out).2.2.2.2.1.lt k hk).1)).setCell (Nat.le_refl _) _)
                exact AllReadyH.nil
              exact AllReadyH.nil
            exact AllReadyH.nil
          exact AllReadyH.nil
        exact AllReadyH.nil
      refine AllReadyH.cons rfl (fun K hK => ?_) ?_
      · go_simp
        refine hK.out _ _ ⟨e0, e1, e2⟩ (fun hHeld => ?_)
        clear hK K
        (try simp only [Act.put, List.setIfInBounds_toArray, List.set_cons_zero, List.set_cons_succ])
        refine wpAnyH_ready (rs := [1, 7]) (by kernel_rfl) (by simp) ?_
        refine AllReadyH.cons rfl (fun K hK => ?_) ?_
        · go_simp
          refine hK.out _ _ ⟨e0, e1, e2⟩ (fun hHeld => ?_)
          clear hK K
          (try simp only [Act.put, List.setIfInBounds_toArray, List.set_cons_zero, List.set_cons_succ])
          refine wpAnyH_ready (rs := [7]) (by kernel_rfl) (by simp) ?_
          refine AllReadyH.cons rfl (fun K hK => ?_) ?_
          · refine step_ap (P := Tryd.prog) (t := 22) (e := 3) (z := .int .i64 0) (bytes := 8) int8 rfl (.tmp 24) (.tmp 26) rfl rfl t1 rfl t5 t2 hone h63 hbb t3 ?_; intro A7 c7 w7 hown hgrow _ _; rw [Nat.zero_add] at hown ⊢; rw [List.nil_append] at hown; have HO7 := Lib.hid hown; have HB7 := Lib.hid (HBT.out.grown hgrow t3 (fun k hk => (t1.lt k hk).1)); obtain ⟨g0, g1, g2, glt⟩ := HCA.out w7 HB7.out; have HRO7 := Lib.hid (HROA.out.below HB7.out); obtain ⟨h0, h1, h2⟩ := HRO7.out.cells; have HB8 := Lib.hid (HB7.out.alloc HB7.out.size (.cells #[.int .i64 x1, .slice A7 np c7, .int .i64 x3] 44)); obtain ⟨k0, k1, k2, klt⟩ := HCA.out _ HB8.out; obtain ⟨kr0, kr1, kr2⟩ := (HROA.out.below HB8.out).cells; have u1 := (HROA.out.below HB8.out).2.2.2.2.1; have u2 := news_block w7 #[.int .i64 x1, .slice A7 np c7, .int .i64 x3] 44; have u3 : B ≤ (w7.alloc (.cells #[.int .i64 x1, .slice A7 np c7, .int .i64 x3] 44)).heap.size := Nat.le_trans hBa HB8.out.size; have u4 := one3 (.int .i64 x1) (.int .i64 x3) A7 np c7 rfl rfl; clear hown hgrow
            refine hK.out _ _ ⟨g0, g1, g2⟩ (fun hHeld => ?_)
            clear hK K
            (try simp only [Act.put, List.setIfInBounds_toArray, List.set_cons_zero, List.set_cons_succ])
            refine wpAnyH_take (i := 10) (v := ?v10) rfl (by kernel_rfl) (by kernel_rfl) (by kernel_rfl) (fun _ _ _ h => h) (Or.inl ⟨by rfl, ?hy10⟩) (by assumption) ?rest10
            case hy10 =>
              intro w hSw
              (try dsimp only at hSw)
              go_simp
              (try with_reducible rfl)
            (try simp only [Act.put, List.setIfInBounds_toArray, List.set_cons_zero, List.set_cons_succ])
            refine wpAnyH_ready (rs := [11]) (by kernel_rfl) (by simp) ?_
            refine AllReadyH.cons rfl (fun K hK => ?_) ?_
            · go_simp
              refine hK.out _ _ ⟨k0, k1, k2⟩ (fun hHeld => ?_)
              clear hK K
              (try simp only [Act.put, List.setIfInBounds_toArray, List.set_cons_zero, List.set_cons_succ])
              refine wpAnyH_ready (rs := [12]) (by kernel_rfl) (by simp) ?_
              refine AllReadyH.cons rfl (fun K hK => ?_) ?_
              · refine step_lies (P := Tryd.prog) rfl (.tmp 21) (.tmp 31) 33 rfl B 44 ti _ 3 40 Tryd.underlying33 hti htz hts htb rfl h03 (.slice Ah nh ch) nh cs1 (by rfl) u1 ⟨w7.heap.size, 0, none⟩ 1 1 [.int .i64 x1, .slice A7 np c7, .int .i64 x3] (by rfl) rfl u2 u4 h01 hn63 hnbb u3 ?_; intro g9 cap9 w9 hown hgrow; have HO9 := Lib.hid hown; have HG9 := Lib.hid hgrow; have HBL := Lib.hid ((HROA.out.below HB8.out).blockH hgrow); have v1 := cell_of_row w9 B 0 _ _ _ HBL.out; have v2 := frozen_of_row w9 B 0 _ _ HBL.out; have l0 := (hgrow.cell_far ⟨wr.heap.size, 0, none⟩ klt hnb).trans k0; have l1 := (hgrow.cell_far ⟨wr.heap.size, 1, none⟩ klt hnb).trans k1; have l2 := (hgrow.cell_far ⟨wr.heap.size, 2, none⟩ klt hnb).trans k2; have m0 := (cell_set (i := 0) w9 (.slice (some ⟨g9, 0, none⟩) (nh + 1) cap9) hBr 0).trans l0; have m1 := (cell_set (i := 0) w9 (.slice (some ⟨g9, 0, none⟩) (nh + 1) cap9) hBr 1).trans l1; have m2 := (cell_set (i := 0) w9 (.slice (some ⟨g9, 0, none⟩) (nh + 1) cap9) hBr 2).trans l2; clear hown hgrow
                refine hK.out _ _ ⟨l0, l1, l2⟩ (fun hHeld => ?_)
                clear hK K
                (try simp only [Act.put, List.setIfInBounds_toArray, List.set_cons_zero, List.set_cons_succ])
                refine wpAnyH_take (i := 13) (v := ?v11) rfl (by kernel_rfl) (by kernel_rfl) (by kernel_rfl) (fun _ _ _ h => h) (Or.inl ⟨by rfl, ?hy11⟩) (by assumption) ?rest11
                case hy11 =>
                  intro w hSw
                  (try dsimp only at hSw)
                  go_simp
                  (try with_reducible rfl)
                (try simp only [Act.put, List.setIfInBounds_toArray, List.set_cons_zero, List.set_cons_succ])
                refine wpAnyH_ready (rs := [14]) (by kernel_rfl) (by simp) ?_
                refine AllReadyH.cons rfl (fun K hK => ?_) ?_
                · go_simp
                  refine hK.out _ _ ⟨m0, m1, m2⟩ (fun hHeld => ?_)
                  clear hK K
                  (try simp only [Act.put, List.setIfInBounds_toArray, List.set_cons_zero, List.set_cons_succ])
                  refine wpAnyH_done (by kernel_rfl) ?_ _
                  go_wp2_with (fail)
                  go_roundg g
                  all_goals first
                    | omega
                    | (refine ⟨nh + 1, by omega, by go_num, Lib.hid ⟨?_, ?_⟩⟩
                       · have h9 := (HROA.out.below HB8.out).hit (x := (x1, xp, x3)) ((HO7.out.mono hBa).alloc _) hnp HO9.out HG9.out
                         rw [take_snoc' HX.out]
                         exact ⟨_, _, _, _, _, _, _, _, h9⟩
                       · exact ((HST.out.trans ((HBA.out.trans (HB8.out.mono (by rw [HZA.out]; exact Nat.le_succ _))).mono (by have := HB0.out; omega))).grown HG9.out u3 (fun k hk => ((HROA.out.below HB8.out).2.2.2.2.1.lt k hk).1)).setCell (Nat.le_refl _) _)
                exact AllReadyH.nil
              exact AllReadyH.nil
            exact AllReadyH.nil
          exact AllReadyH.nil
        refine AllReadyH.cons rfl (fun K hK => ?_) ?_
        · refine step_ap (P := Tryd.prog) (t := 22) (e := 3) (z := .int .i64 0) (bytes := 8) int8 rfl (.tmp 24) (.tmp 26) rfl rfl t1 rfl t5 t2 hone h63 hbb t3 ?_; intro A7 c7 w7 hown hgrow _ _; rw [Nat.zero_add] at hown ⊢; rw [List.nil_append] at hown; have HO7 := Lib.hid hown; have HB7 := Lib.hid (HBT.out.grown hgrow t3 (fun k hk => (t1.lt k hk).1)); obtain ⟨g0, g1, g2, glt⟩ := HCA.out w7 HB7.out; have HRO7 := Lib.hid (HROA.out.below HB7.out); obtain ⟨h0, h1, h2⟩ := HRO7.out.cells; have HB8 := Lib.hid (HB7.out.alloc HB7.out.size (.cells #[.int .i64 x1, .slice A7 np c7, .int .i64 x3] 44)); obtain ⟨k0, k1, k2, klt⟩ := HCA.out _ HB8.out; obtain ⟨kr0, kr1, kr2⟩ := (HROA.out.below HB8.out).cells; have u1 := (HROA.out.below HB8.out).2.2.2.2.1; have u2 := news_block w7 #[.int .i64 x1, .slice A7 np c7, .int .i64 x3] 44; have u3 : B ≤ (w7.alloc (.cells #[.int .i64 x1, .slice A7 np c7, .int .i64 x3] 44)).heap.size := Nat.le_trans hBa HB8.out.size; have u4 := one3 (.int .i64 x1) (.int .i64 x3) A7 np c7 rfl rfl; clear hown hgrow
          refine hK.out _ _ ⟨g0, g1, g2⟩ (fun hHeld => ?_)
          clear hK K
          (try simp only [Act.put, List.setIfInBounds_toArray, List.set_cons_zero, List.set_cons_succ])
          refine wpAnyH_take (i := 10) (v := ?v12) rfl (by kernel_rfl) (by kernel_rfl) (by kernel_rfl) (fun _ _ _ h => h) (Or.inl ⟨by rfl, ?hy12⟩) (by assumption) ?rest12
          case hy12 =>
            intro w hSw
            (try dsimp only at hSw)
            go_simp
            (try with_reducible rfl)
          (try simp only [Act.put, List.setIfInBounds_toArray, List.set_cons_zero, List.set_cons_succ])
          refine wpAnyH_ready (rs := [1, 11]) (by kernel_rfl) (by simp) ?_
          refine AllReadyH.cons rfl (fun K hK => ?_) ?_
          · go_simp
            refine hK.out _ _ ⟨g0, g1, g2⟩ (fun hHeld => ?_)
            clear hK K
            (try simp only [Act.put, List.setIfInBounds_toArray, List.set_cons_zero, List.set_cons_succ])
            refine wpAnyH_ready (rs := [11]) (by kernel_rfl) (by simp) ?_
            refine AllReadyH.cons rfl (fun K hK => ?_) ?_
            · go_simp
              refine hK.out _ _ ⟨k0, k1, k2⟩ (fun hHeld => ?_)
              clear hK K
              (try simp only [Act.put, List.setIfInBounds_toArray, List.set_cons_zero, List.set_cons_succ])
              refine wpAnyH_ready (rs := [12]) (by kernel_rfl) (by simp) ?_
              refine AllReadyH.cons rfl (fun K hK => ?_) ?_
              · refine step_lies (P := Tryd.prog) rfl (.tmp 21) (.tmp 31) 33 rfl B 44 ti _ 3 40 Tryd.underlying33 hti htz hts htb rfl h03 (.slice Ah nh ch) nh cs1 (by rfl) u1 ⟨w7.heap.size, 0, none⟩ 1 1 [.int .i64 x1, .slice A7 np c7, .int .i64 x3] (by rfl) rfl u2 u4 h01 hn63 hnbb u3 ?_; intro g9 cap9 w9 hown hgrow; have HO9 := Lib.hid hown; have HG9 := Lib.hid hgrow; have HBL := Lib.hid ((HROA.out.below HB8.out).blockH hgrow); have v1 := cell_of_row w9 B 0 _ _ _ HBL.out; have v2 := frozen_of_row w9 B 0 _ _ HBL.out; have l0 := (hgrow.cell_far ⟨wr.heap.size, 0, none⟩ klt hnb).trans k0; have l1 := (hgrow.cell_far ⟨wr.heap.size, 1, none⟩ klt hnb).trans k1; have l2 := (hgrow.cell_far ⟨wr.heap.size, 2, none⟩ klt hnb).trans k2; have m0 := (cell_set (i := 0) w9 (.slice (some ⟨g9, 0, none⟩) (nh + 1) cap9) hBr 0).trans l0; have m1 := (cell_set (i := 0) w9 (.slice (some ⟨g9, 0, none⟩) (nh + 1) cap9) hBr 1).trans l1; have m2 := (cell_set (i := 0) w9 (.slice (some ⟨g9, 0, none⟩) (nh + 1) cap9) hBr 2).trans l2; clear hown hgrow
                refine hK.out _ _ ⟨l0, l1, l2⟩ (fun hHeld => ?_)
                clear hK K
                (try simp only [Act.put, List.setIfInBounds_toArray, List.set_cons_zero, List.set_cons_succ])
                refine wpAnyH_take (i := 13) (v := ?v13) rfl (by kernel_rfl) (by kernel_rfl) (by kernel_rfl) (fun _ _ _ h => h) (Or.inl ⟨by rfl, ?hy13⟩) (by assumption) ?rest13
                case hy13 =>
                  intro w hSw
                  (try dsimp only at hSw)
                  go_simp
                  (try with_reducible rfl)
                (try simp only [Act.put, List.setIfInBounds_toArray, List.set_cons_zero, List.set_cons_succ])
                refine wpAnyH_ready (rs := [14]) (by kernel_rfl) (by simp) ?_
                refine AllReadyH.cons rfl (fun K hK => ?_) ?_
                · go_simp
                  refine hK.out _ _ ⟨m0, m1, m2⟩ (fun hHeld => ?_)
                  clear hK K
                  (try simp only [Act.put, List.setIfInBounds_toArray, List.set_cons_zero, List.set_cons_succ])
                  refine wpAnyH_done (by kernel_rfl) ?_ _
                  go_wp2_with (fail)
                  go_roundg g
                  all_goals first
                    | omega
                    | (refine ⟨nh + 1, by omega, by go_num, Lib.hid ⟨?_, ?_⟩⟩
                       · have h9 := (HROA.out.below HB8.out).hit (x := (x1, xp, x3)) ((HO7.out.mono hBa).alloc _) hnp HO9.out HG9.out
                         rw [take_snoc' HX.out]
                         exact ⟨_, _, _, _, _, _, _, _, h9⟩
                       · exact ((HST.out.trans ((HBA.out.trans (HB8.out.mono (by rw [HZA.out]; exact Nat.le_succ _))).mono (by have := HB0.out; omega))).grown HG9.out u3 (fun k hk => ((HROA.out.below HB8.out).2.2.2.2.1.lt k hk).1)).setCell (Nat.le_refl _) _)
                exact AllReadyH.nil
              exact AllReadyH.nil
            exact AllReadyH.nil
          refine AllReadyH.cons rfl (fun K hK => ?_) ?_
          · go_simp
            refine hK.out _ _ ⟨k0, k1, k2⟩ (fun hHeld => ?_)
            clear hK K
            (try simp only [Act.put, List.setIfInBounds_toArray, List.set_cons_zero, List.set_cons_succ])
            refine wpAnyH_ready (rs := [1]) (by kernel_rfl) (by simp) ?_
            refine AllReadyH.cons rfl (fun K hK => ?_) ?_
            · go_simp
              refine hK.out _ _ ⟨k0, k1, k2⟩ (fun hHeld => ?_)
              clear hK K
              (try simp only [Act.put, List.setIfInBounds_toArray, List.set_cons_zero, List.set_cons_succ])
              refine wpAnyH_ready (rs := [12]) (by kernel_rfl) (by simp) ?_
              refine AllReadyH.cons rfl (fun K hK => ?_) ?_
              · refine step_lies (P := Tryd.prog) rfl (.tmp 21) (.tmp 31) 33 rfl B 44 ti _ 3 40 Tryd.underlying33 hti htz hts htb rfl h03 (.slice Ah nh ch) nh cs1 (by rfl) u1 ⟨w7.heap.size, 0, none⟩ 1 1 [.int .i64 x1, .slice A7 np c7, .int .i64 x3] (by rfl) rfl u2 u4 h01 hn63 hnbb u3 ?_; intro g9 cap9 w9 hown hgrow; have HO9 := Lib.hid hown; have HG9 := Lib.hid hgrow; have HBL := Lib.hid ((HROA.out.below HB8.out).blockH hgrow); have v1 := cell_of_row w9 B 0 _ _ _ HBL.out; have v2 := frozen_of_row w9 B 0 _ _ HBL.out; have l0 := (hgrow.cell_far ⟨wr.heap.size, 0, none⟩ klt hnb).trans k0; have l1 := (hgrow.cell_far ⟨wr.heap.size, 1, none⟩ klt hnb).trans k1; have l2 := (hgrow.cell_far ⟨wr.heap.size, 2, none⟩ klt hnb).trans k2; have m0 := (cell_set (i := 0) w9 (.slice (some ⟨g9, 0, none⟩) (nh + 1) cap9) hBr 0).trans l0; have m1 := (cell_set (i := 0) w9 (.slice (some ⟨g9, 0, none⟩) (nh + 1) cap9) hBr 1).trans l1; have m2 := (cell_set (i := 0) w9 (.slice (some ⟨g9, 0, none⟩) (nh + 1) cap9) hBr 2).trans l2; clear hown hgrow
                refine hK.out _ _ ⟨l0, l1, l2⟩ (fun hHeld => ?_)
                clear hK K
                (try simp only [Act.put, List.setIfInBounds_toArray, List.set_cons_zero, List.set_cons_succ])
                refine wpAnyH_take (i := 13) (v := ?v14) rfl (by kernel_rfl) (by kernel_rfl) (by kernel_rfl) (fun _ _ _ h => h) (Or.inl ⟨by rfl, ?hy14⟩) (by assumption) ?rest14
                case hy14 =>
                  intro w hSw
                  (try dsimp only at hSw)
                  go_simp
                  (try with_reducible rfl)
                (try simp only [Act.put, List.setIfInBounds_toArray, List.set_cons_zero, List.set_cons_succ])
                refine wpAnyH_ready (rs := [14]) (by kernel_rfl) (by simp) ?_
                refine AllReadyH.cons rfl (fun K hK => ?_) ?_
                · go_simp
                  refine hK.out _ _ ⟨m0, m1, m2⟩ (fun hHeld => ?_)
                  clear hK K
                  (try simp only [Act.put, List.setIfInBounds_toArray, List.set_cons_zero, List.set_cons_succ])
                  refine wpAnyH_done (by kernel_rfl) ?_ _
                  go_wp2_with (fail)
                  go_roundg g
                  all_goals first
                    | omega
                    | (refine ⟨nh + 1, by omega, by go_num, Lib.hid ⟨?_, ?_⟩⟩
                       · have h9 := (HROA.out.below HB8.out).hit (x := (x1, xp, x3)) ((HO7.out.mono hBa).alloc _) hnp HO9.out HG9.out
                         rw [take_snoc' HX.out]
                         exact ⟨_, _, _, _, _, _, _, _, h9⟩
                       · exact ((HST.out.trans ((HBA.out.trans (HB8.out.mono (by rw [HZA.out]; exact Nat.le_succ _))).mono (by have := HB0.out; omega))).grown HG9.out u3 (fun k hk => ((HROA.out.below HB8.out).2.2.2.2.1.lt k hk).1)).setCell (Nat.le_refl _) _)
                exact AllReadyH.nil
              exact AllReadyH.nil
            exact AllReadyH.nil
          exact AllReadyH.nil
        exact AllReadyH.nil
      exact AllReadyH.nil
end Go.Proofs.YtgjningfpkoooaaDoor.Ro
