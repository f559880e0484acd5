/- RouteOrders: the walk. -/
import Derived.Test.YtgjningfpkoooaaDoorOp
namespace Go.Proofs.YtgjningfpkoooaaDoor.Ro
set_option linter.unusedVariables false
set_option linter.unusedSimpArgs false
open Go.RowKit Go.Proofs.YtgjningfpkoooaaDoor.W

theorem rv_takeI {w : World} {A : Option Addr} {l r : List Int} (h : RV w A (is64 (l ++ r))) : RV w A (is64 l) := by
  have h1 := h.take l.length
  unfold is64 at h1 ⊢
  rwa [← List.map_take, List.take_left' rfl] at h1
set_option maxHeartbeats 4000000 in
set_option maxRecDepth 100000 in
theorem c_orders (A : Option Addr) (n c : Nat) (a : List Int) (A2 : Option Addr) (n2 c2 : Nat) (b : List Int) (k : Int) (w : World) (hG : Gw w)
    (hl : a.length = n) (hc : n ≤ c) (hn : n * 8 ≤ 140737488351232) (hr : RV w A (is64 a)) (hl2 : b.length = n2) (hc2 : n2 ≤ c2) (hn2 : n2 * 8 ≤ 140737488351232) (hr2 : RV w A2 (is64 b)) (hk : (Lit.int .i64 k).wf = true) :
    Calls Tryd.prog 5 #[.slice A n c, .slice A2 n2 c2, .int .i64 k] w (TrueP w) := by
  have HG := Lib.hid hG
  have HL := Lib.hid hl
  have HL2 := Lib.hid hl2
  have HR := Lib.hid hr
  have HR2 := Lib.hid hr2
  clear hG hl hl2 hr hr2 hc hc2 hk
  have h77 : ∀ u ∈ [Value.int .i64 7, Value.int .i64 7], u.oneCell' = true := fun z hz => by simp at hz; subst hz; rfl
  go_enter Tryd.func5, Tryd.ntmps5
  have tk1 : True := trivial
  go_upto_region 2 with (first
    | (at_builtin; have _t := tk1; go_must (refine wpList_ap int8 rfl _ _ rfl rfl (own_lit (base := w.heap.size) #[] rfl (Nat.le_refl _) (by unfold maxLen; omega)) rfl (by rw [is64_len]; exact HL.out) (HR.out.alloc _) (is64_one a) (by unfold maxLen; omega) (by omega) (by simp) ?_); intro A4 c4 w0 hown1 hgrow1 hat1 hle1; have HB0 := Lib.hid (grownBy_below (grow_new' hgrow1)); have HO0 := Lib.hid (show w0.ownsRow w.heap.size 3 1 (.slice A4 n c4) n (is64 a) by simpa using hown1); clear hown1 hgrow1 hat1 hle1 tk1 _t)
    | (at_builtin; go_must (refine wpList_ap int8 rfl _ _ rfl rfl (HO0.out.alloc _) rfl (m := 2) (news := [Value.int .i64 7, Value.int .i64 7]) rfl (RV.new (w := w0) #[Value.int .i64 7, Value.int .i64 7] 3) h77 (by unfold maxLen; omega) (by omega) (by have h9 := HB0.out.size; simp; omega) ?_); intro A5 c5 w1 hown1 hgrow1 hat1 hle1; have HO1 := Lib.hid hown1; have HB1 := Lib.hid ((HB0.out.alloc HB0.out.size _).grown hgrow1 (by have h9 := HB0.out.size; simp; omega) (fun k hk => (HO0.out.lt k hk).1)); have hle5 := hle1; clear hown1 hgrow1 hat1 hle1))
  obtain ⟨g5, rfl⟩ : ∃ g, A5 = some ⟨g, 0, none⟩ := by
    rcases HO1.out.2 with ⟨_, h2⟩ | ⟨g, cap, cur, h1, _⟩
    · omega
    · injection h1 with h1; exact ⟨g, h1⟩
  have i0 : (0 : Int) ≤ (n : Int) := by omega
  have i1 : (n : Int) ≤ (c5 : Int) := by omega
  have HI := Lib.hid (show RV w1 (some ⟨g5, 0, none⟩) (is64 (a ++ [7, 7])) by have h9 := RV.own HO1.out; unfold is64 at h9 ⊢; rw [List.map_append]; exact h9)
  have HG5 := Lib.hid (show g5 < w1.heap.size from (HO1.out.lt g5 rfl).2)
  have CC := Lib.hid (c_child (some ⟨g5, 0, none⟩) n c5 a k w1 HL.out (by omega) (rv_takeI HI.out))
  clear HO0 HB0 hle5
  go_upto_region 3 with (first
    | (go_at_call 18; go_must (refine CC.out.mono ?_); rintro e w2 ⟨A8, c8, he, ho2, hb2⟩; rw [HL.out] at he ho2; subst he; have HO2 := Lib.hid ho2; have HB2 := Lib.hid hb2; clear ho2 hb2))
  obtain ⟨g8, hA8⟩ : ∃ g, A8 = some ⟨g, 0, none⟩ := by
    rcases HO2.out.2 with ⟨_, h2⟩ | ⟨g, cap, cur, h1, _⟩
    · omega
    · injection h1 with h1; exact ⟨g, h1⟩
  subst hA8
  have HL8 := Lib.hid (show (a ++ [k]).length = n + 1 by rw [List.length_append, HL.out]; rfl)
  have HR8 := Lib.hid (show RV w2 (some ⟨g8, 0, none⟩) (is64 (a ++ [k])) from RV.own HO2.out)
  have HBW := Lib.hid (HB1.out.trans (HB2.out.mono HB1.out.size))
  have hg8 := HO2.out.lt g8 rfl
  have k1 : w2.cell? ⟨g8, n, none⟩ = some (.int .i64 k) := by
    obtain ⟨b', off', h1, _, h2⟩ := RV.geti HR8.out (i := n) (x := k) (by rw [List.getElem?_append_right (by rw [HL.out]; exact Nat.le_refl _), HL.out]; simp)
    injection h1 with h1
    injection h1 with h3 h4
    subst h3 h4
    rw [Nat.zero_add] at h2
    exact h2
  have k2 : w2.cell? ⟨g5, n, none⟩ = some (.int .i64 7) := by
    obtain ⟨b', off', h1, _, h2⟩ := RV.geti (HI.out.below HB2.out) (i := n) (x := 7) (by rw [List.getElem?_append_right (by rw [HL.out]; exact Nat.le_refl _), HL.out]; simp)
    injection h1 with h1
    injection h1 with h3 h4
    subst h3 h4
    rw [Nat.zero_add] at h2
    exact h2
  obtain ⟨y, hy⟩ : ∃ y, (a ++ [k])[0]? = some y := ⟨_, List.getElem?_eq_getElem (by rw [HL8.out]; omega)⟩
  have k0 : w2.cell? ⟨g8, 0, none⟩ = some (.int .i64 y) := by
    obtain ⟨b', off', h1, _, h2⟩ := RV.geti HR8.out hy
    injection h1 with h1
    injection h1 with h3 h4
    subst h3 h4
    exact h2
  have kf : ∀ j, w2.frozen? ⟨g8, j, none⟩ = false := by
    rcases HO2.out.2 with ⟨h1, h2⟩ | ⟨g, cap, cur, h1, _, h3, _⟩
    · omega
    · injection h1 with h1
      injection h1 with h1
      injection h1 with h1
      subst h1
      exact fun j => frozen_of_row w2 g8 j _ _ h3
  have hb8 : g8 < w2.heap.size := hg8.2
  have hb5 : g5 < w2.heap.size := Nat.lt_of_lt_of_le HG5.out HB2.out.size
  have HG8 := Lib.hid hg8.1
  have C1 := Lib.hid (c_ints (some ⟨g8, 0, none⟩) A n n c8 c a a w2 HL.out HL.out (by omega) (by omega) (rv_takeI HR8.out) (HR.out.below HBW.out))
  rw [show decide (a = a) = true from decide_eq_true rfl] at C1
  have i2 : (n : Int) < (n : Int) + 1 := by omega
  have i3 : (n : Int) < (n : Int) + 2 := by omega
  have i4 : (n : Int) + 1 ≤ (c8 : Int) := by
    rcases HO2.out.2 with ⟨h1, h2⟩ | ⟨g, cap, cur, h1, _, h3, h4, _⟩
    · omega
    · injection h1 with h1 h5 h6; omega
  have i5 : (n : Int) ≤ (c8 : Int) := by omega
  obtain ⟨z, hz⟩ : ∃ z, IntKind.i64.wrap (y + 1) = z := ⟨_, rfl⟩
  clear hy hg8 CC
  go_upto_region 5 with (first
    | (go_at_call 16; go_must (refine C1.out.mono ?_); rintro e w3 ⟨rfl, d3, rfl⟩))
  have j0 : (0 : Int) < (n : Int) + 1 := by omega
  go_upto_region 6 with (fail)
  have HK := Lib.hid (show Kp [g8] w2 ((w2.drewN d3).setCell ⟨g8, 0, none⟩ (.int .i64 z)) from ((Kp.refl [g8] w2).drewN d3).setCell (.inl (by simp)) _)
  change Code.wp _ _ _ _ ((w2.drewN d3).setCell ⟨g8, 0, none⟩ (.int .i64 z))
  generalize (w2.drewN d3).setCell ⟨g8, 0, none⟩ (.int .i64 z) = w4 at *
  have HBB := Lib.hid (show Below w1.heap.size w1 w4 from HB2.out.trans (HK.out.below HB2.out.size (by intro q hq; rw [List.mem_singleton.1 hq]; exact HG8.out)))
  have HB4 := Lib.hid (HB1.out.trans (HBB.out.mono HB1.out.size))
  clear k0 k1 k2 kf hb8 hb5 C1 hz
  have P1 := Lib.hid (show RV w4 (some ⟨g5, 0, none⟩) (is64 a) from (rv_takeI HI.out).below HBB.out)
  have P2 := Lib.hid (HR.out.below HB4.out)
  have P3 := Lib.hid (HR2.out.below HB4.out)
  obtain ⟨X1, hX1⟩ : ∃ x, less a b = x := ⟨_, rfl⟩
  obtain ⟨X2, hX2⟩ : ∃ x, less b a = x := ⟨_, rfl⟩
  obtain ⟨X3, hX3⟩ : ∃ x, under a b = x := ⟨_, rfl⟩
  obtain ⟨X4, hX4⟩ : ∃ x, under b a = x := ⟨_, rfl⟩
  have D0 := Lib.hid (c_ints (some ⟨g5, 0, none⟩) A n n c5 c a a w4 HL.out HL.out (by omega) (by omega) P1.out P2.out)
  rw [show decide (a = a) = true from decide_eq_true rfl] at D0
  have D1 := Lib.hid (fun (wx : World) (he : wx.heap = w4.heap) => c_pless A A2 n n2 c c2 a b wx HL.out HL2.out (by omega) (by omega) (rv_heap P2.out he) (rv_heap P3.out he))
  have D2 := Lib.hid (fun (wx : World) (he : wx.heap = w4.heap) => r_pless A A2 n n2 c c2 a b wx HL.out HL2.out (by omega) (by omega) (rv_heap P2.out he) (rv_heap P3.out he))
  have D3 := Lib.hid (fun (wx : World) (he : wx.heap = w4.heap) => c_pless A2 A n2 n c2 c b a wx HL2.out HL.out (by omega) (by omega) (rv_heap P3.out he) (rv_heap P2.out he))
  have D4 := Lib.hid (fun (wx : World) (he : wx.heap = w4.heap) => r_pless A2 A n2 n c2 c b a wx HL2.out HL.out (by omega) (by omega) (rv_heap P3.out he) (rv_heap P2.out he))
  have D5 := Lib.hid (fun (wx : World) (he : wx.heap = w4.heap) => c_punder A A2 n n2 c c2 a b wx HL.out HL2.out (by omega) (by omega) (rv_heap P2.out he) (rv_heap P3.out he))
  have D6 := Lib.hid (fun (wx : World) (he : wx.heap = w4.heap) => r_punder A A2 n n2 c c2 a b wx HL.out HL2.out (by omega) (by omega) (rv_heap P2.out he) (rv_heap P3.out he))
  have D7 := Lib.hid (fun (wx : World) (he : wx.heap = w4.heap) => c_punder A2 A n2 n c2 c b a wx HL2.out HL.out (by omega) (by omega) (rv_heap P3.out he) (rv_heap P2.out he))
  have D8 := Lib.hid (fun (wx : World) (he : wx.heap = w4.heap) => r_punder A2 A n2 n c2 c b a wx HL2.out HL.out (by omega) (by omega) (rv_heap P3.out he) (rv_heap P2.out he))
  rw [hX1] at D1 D2
  rw [hX2] at D3 D4
  rw [hX3] at D5 D6
  rw [hX4] at D7 D8
  clear hX1 hX2 hX3 hX4
  have tk1 : True := trivial
  have tk2 : True := trivial
  have tk3 : True := trivial
  have tk4 : True := trivial
  go_wp2_with (first
    | (go_at_call 16; go_must (refine D0.out.mono ?_); rintro e w5 ⟨rfl, d0, rfl⟩)
    | (go_at_call 19; have _t := tk1; go_must (refine (D1.out _ (by rfl)).mono ?_); rintro e w5 ⟨rfl, d1, rfl⟩; clear tk1 _t)
    | (go_at_call 19; go_must (refine (D3.out _ (by rfl)).mono ?_); rintro e w5 ⟨rfl, d4, rfl⟩)
    | (go_at_call 20; have _t := tk2; go_must (refine (D2.out _ (by rfl)).mono ?_); rintro e w5 ⟨rfl, d2, rfl⟩; clear tk2 _t)
    | (go_at_call 20; go_must (refine (D4.out _ (by rfl)).mono ?_); rintro e w5 ⟨rfl, d5, rfl⟩)
    | (go_at_call 21; have _t := tk3; go_must (refine (D5.out _ (by rfl)).mono ?_); rintro e w5 ⟨rfl, d6, rfl⟩; clear tk3 _t)
    | (go_at_call 21; go_must (refine (D7.out _ (by rfl)).mono ?_); rintro e w5 ⟨rfl, d7, rfl⟩)
    | (go_at_call 22; have _t := tk4; go_must (refine (D6.out _ (by rfl)).mono ?_); rintro e w5 ⟨rfl, d8, rfl⟩; clear tk4 _t)
    | (go_at_call 22; go_must (refine (D8.out _ (by rfl)).mono ?_); rintro e w5 ⟨rfl, d9, rfl⟩)
    | (go_at_call 17; go_must (refine (c_awake _ (gw_heap (HG.out.below HB4.out HG.out.sz) (by rfl))).mono ?_); rintro e w6 ⟨rfl, hb6⟩))
  go_ret
  exact ⟨rfl, (bel_draw HB4.out _).trans (hb6.mono HB4.out.size)⟩
end Go.Proofs.YtgjningfpkoooaaDoor.Ro
