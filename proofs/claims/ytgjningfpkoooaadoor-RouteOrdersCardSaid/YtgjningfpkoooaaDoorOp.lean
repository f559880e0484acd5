/- RouteTexts: the walk. -/
import Derived.Test.YtgjningfpkoooaaDoorOo
namespace Go.Proofs.YtgjningfpkoooaaDoor.Ro
set_option linter.unusedVariables false
set_option linter.unusedSimpArgs false
open Go.RowKit Go.Proofs.YtgjningfpkoooaaDoor.W

structure PI (w5 wx : World) (g n i : Nat) : Prop where
  kp : Kp [g] w5 wx
  row : 0 < n → ∃ cur, wx.heap[g]? = some (.cells cur 3 (0, 0)) ∧ n ≤ cur.size ∧ ∀ j, i ≤ j → j < n → ∃ x : Nat, x ≤ 2147483647 ∧ cur[j]? = some (.int .i64 (x : Nat))
theorem PI.step {w5 wx : World} {g n i : Nat} (h : PI w5 wx g n i) (hi : i < n) : ∃ x : Nat, x ≤ 2147483647 ∧ wx.cell? ⟨g, i, none⟩ = some (.int .i64 (x : Nat)) ∧ (∀ j, wx.frozen? ⟨g, j, none⟩ = false) ∧ g < wx.heap.size ∧ ∀ u, PI w5 (wx.setCell ⟨g, i, none⟩ u) g n (i + 1) := by
  obtain ⟨cur, h1, h2, h3⟩ := h.row (by omega)
  obtain ⟨x, hx, hc⟩ := h3 i (Nat.le_refl _) hi
  refine ⟨x, hx, by rw [cell_of_row wx g i _ _ _ h1]; exact hc, fun j => frozen_of_row wx g j _ _ h1, (Array.getElem?_eq_some_iff.1 h1).1, fun u => ⟨h.kp.setCell (.inl (by simp)) u, fun _ => ⟨_, heap_set h1 i u, by simp; exact h2, fun j hj hjn => ?_⟩⟩⟩
  obtain ⟨y, hy, hcy⟩ := h3 j (by omega) hjn
  refine ⟨y, hy, ?_⟩
  rw [Array.getElem?_setIfInBounds_ne (by omega)]
  exact hcy
theorem PI.drew {w5 wx : World} {g n i : Nat} (h : PI w5 wx g n i) (d : Nat) : PI w5 (wx.drewN d) g n i := ⟨h.kp.drewN d, h.row⟩
/-- The row of a path that was read: its block, and what stands in it. -/
theorem pi_start {w4 w5 : World} {B : Nat} {A : Option Addr} {n c : Nat} {p : List Nat} (ho : w4.ownsRow B 3 1 (.slice A n c) n (ints p)) (hp : ∀ x ∈ p, x ≤ 2147483647) (hb : Below w4.heap.size w4 w5) (hB : B ≤ w4.heap.size) :
    ∃ g, B ≤ g ∧ (0 < n → A = some ⟨g, 0, none⟩ ∧ g < w4.heap.size) ∧ PI w5 w5 g n 0 ∧ (g < w4.heap.size ∨ n = 0) := by
  rcases ho.2 with ⟨h1, h2⟩ | ⟨g, cap, cur, h1, h2, h3, h4, h5, h6, h7⟩
  · exact ⟨w4.heap.size, hB, fun h => by omega, ⟨Kp.refl _ _, fun h => by omega⟩, .inr h2⟩
  · have hg : g < w4.heap.size := (Array.getElem?_eq_some_iff.1 h3).1
    injection h1 with h1
    refine ⟨g, h2, fun _ => ⟨h1, hg⟩, ⟨Kp.refl _ _, fun _ => ⟨cur, (hb.block g hg).trans h3, by omega, fun j _ hj => ?_⟩⟩, .inl hg⟩
    have hl := ho.1
    rw [Nat.mul_one] at hl h7
    have h8 : j < p.length := by unfold ints at hl; rw [List.length_map] at hl; omega
    refine ⟨p[j], hp _ (List.getElem_mem h8), ?_⟩
    have h9 : (cur.toList.take n)[j]? = (ints p)[j]? := by rw [h7]
    rw [List.getElem?_take, if_pos hj, Array.getElem?_toList] at h9
    rw [h9]
    unfold ints
    rw [List.getElem?_map, List.getElem?_eq_getElem h8]
    rfl
theorem parse_top {s : List UInt8} : ∀ x ∈ (parseP s).getD [], x ≤ 2147483647 := by
  cases h : parseP s with
  | none => intro x hx; simp at hx
  | some p => exact ((parseP_iff s p).1 h).2
set_option maxHeartbeats 4000000 in
set_option maxRecDepth 100000 in
theorem c_texts (A : Option Addr) (n c : Nat) (l : List Int) (s : ByteArray) (w : World) (hG : Gw w)
    (hl : l.length = n) (hc : n ≤ c) (hn : n ≤ 140737488351232) (hr : RV w A (is64 l)) (hs : s.size ≤ 140737488351232) (hu : n + s.size ≤ 1048576) :
    Calls Tryd.prog 3 #[.slice A n c, .string s] w (TrueP w) := by
  have HG := Lib.hid hG
  have HL := Lib.hid hl
  have HR := Lib.hid hr
  have hn2 : n ≤ 1048576 := by omega
  have hs2 : s.size ≤ 1048576 := by omega
  clear hG hl hr hc hn hs hu
  obtain ⟨X, hX⟩ : ∃ X : ByteArray, (⟨(textP l).toArray⟩ : ByteArray) = X := ⟨_, rfl⟩
  obtain ⟨OK, hOK⟩ : ∃ b, okP l = b := ⟨_, rfl⟩
  obtain ⟨PL, hPL⟩ : ∃ p, (parseP s.data.toList).getD [] = p := ⟨_, rfl⟩
  obtain ⟨PB, hPB⟩ : ∃ b, (parseP s.data.toList).isSome = b := ⟨_, rfl⟩
  have HTOP := Lib.hid (show ∀ x ∈ PL, x ≤ 2147483647 by rw [← hPL]; exact parse_top)
  have TX := Lib.hid (show ∀ (wa : World) e wb, TextIs wa l e wb → e = .returned (.tuple #[.string X, .bool OK]) ∧ Below wa.heap.size wa wb from fun wa e wb h => by unfold TextIs at h; rw [hX, hOK] at h; exact h)
  have PX := Lib.hid (show ∀ (wa : World) e wb, ParseIs wa s.data.toList e wb → ∃ A n c, e = .returned (.tuple #[.slice A n c, .bool PB]) ∧ Below wa.heap.size wa wb ∧ PL.length = n ∧ wb.ownsRow wa.heap.size 3 1 (.slice A n c) n (ints PL) from fun wa e wb h => by unfold ParseIs at h; rw [hPL, hPB] at h; exact h)
  have HPN := Lib.hid (show PL.length ≤ 1000000000 by
    rw [← hPL]
    cases hp : parseP s.data.toList with
    | none => simp
    | some p =>
      have h1 := (parseP_iff s.data.toList p).1 hp
      have h2 : p.length ≤ (txt p).length := txt_ge p
      have h3 : s.data.toList.length = s.size := by rw [Lib.size_eq]
      rw [← h1.1] at h2
      simp
      omega)
  clear hX hOK hPL hPB
  go_enter Tryd.func3, Tryd.ntmps3
  go_upto_region 2 with (first
    | (at_builtin; go_must (refine wpList_ap int8 rfl _ _ rfl rfl (own_lit (base := w.heap.size) #[] rfl (Nat.le_refl _) (by unfold maxLen; omega)) rfl (by rw [is64_len]; exact HL.out) (HR.out.alloc _) (is64_one l) (by unfold maxLen; omega) (by omega) (by simp) ?_); intro A5 c5 w1 hown1 hgrow1 hat1 hle1; have HB1 := Lib.hid (grownBy_below (grow_new' hgrow1)); have HO1 := Lib.hid hown1; clear hown1 hgrow1 hat1 hle1))
  have HS := Lib.hid (show RV w1 A5 (is64 l) from RV.own (by simpa using HO1.out))
  clear HO1
  have C1 := Lib.hid (c_text A5 n c5 l w1 HL.out (by omega) HS.out (HG.out.below HB1.out HG.out.sz))
  go_upto_region 3 with (first
    | (go_at_call 12; go_must (refine C1.out.mono ?_); intro e w2 he; obtain ⟨rfl, hb⟩ := TX.out _ _ _ he; have HB2 := Lib.hid (HB1.out.trans (hb.mono HB1.out.size)); have HS2 := Lib.hid (HS.out.below hb); clear hb he))
  have C2 := Lib.hid (r_text A n c l w2 HL.out (by omega) (HR.out.below HB2.out))
  go_upto_region 4 with (first
    | (go_at_call 13; go_must (refine C2.out.mono ?_); intro e w3 he; obtain ⟨rfl, hb⟩ := TX.out _ _ _ he; have HB3 := Lib.hid (HB2.out.trans (hb.mono HB2.out.size)); have HS3 := Lib.hid (HS2.out.below hb); clear hb he))
  have C3 := Lib.hid (c_parse s w3 (by omega) (HG.out.below HB3.out HG.out.sz))
  clear C1 C2 HS HS2
  go_upto_region 5 with (first
    | (go_at_call 14; go_must (refine C3.out.mono ?_); intro e w4 he; obtain ⟨A6, n6, c6, rfl, hb, hn6, hown⟩ := PX.out _ _ _ he; have HB4 := Lib.hid (HB3.out.trans (hb.mono HB3.out.size)); have HB34 := Lib.hid hb; have HS4 := Lib.hid (HS3.out.below hb); have HO4 := Lib.hid hown; have HN6 := Lib.hid hn6; clear hb hn6 hown he))
  have C4 := Lib.hid (r_parse s w4 (by omega))
  clear C3 HS3
  go_upto_region 6 with (first
    | (go_at_call 15; go_must (refine C4.out.mono ?_); intro e w5 he; obtain ⟨A7, n7, c7, rfl, hb, hn7, hown⟩ := PX.out _ _ _ he; rw [HN6.out] at hn7; subst hn7; have HB5 := Lib.hid (HB4.out.trans (hb.mono HB4.out.size)); have HB45 := Lib.hid hb; have HS5 := Lib.hid (HS4.out.below hb); have HO5 := Lib.hid hown; clear hb hown he))
  have hn6 : n6 ≤ 1000000000 := by have h1 := HN6.out; have h2 := HPN.out; omega
  have C5 := Lib.hid (c_ints A5 A n n c5 c l l w5 HL.out HL.out (by omega) (by omega) HS5.out (HR.out.below HB5.out))
  rw [show decide (l = l) = true from decide_eq_true rfl] at C5
  have HZ := Lib.hid (show (zs PL).length = n6 by rw [zs_len]; exact HN6.out)
  have HRQ := Lib.hid (show RV w5 A7 (is64 (zs PL)) by rw [← ints_zs]; exact RV.own HO5.out)
  have C6 := Lib.hid (fun (wx : World) (he : wx.heap = w5.heap) => c_ints A6 A7 n6 n6 c6 c7 (zs PL) (zs PL) wx HZ.out HZ.out (by omega) (by omega) (rv_heap (show RV w5 A6 (is64 (zs PL)) by rw [← ints_zs]; exact (RV.own HO4.out).below HB45.out) he) (rv_heap HRQ.out he))
  rw [show decide (zs PL = zs PL) = true from decide_eq_true rfl] at C6
  clear C4 HS4 HS5
  have tk1 : True := trivial
  go_upto_region 8 with (first
    | (go_at_call 16; have _t := tk1; go_must (refine C5.out.mono ?_); rintro e wa ⟨rfl, da, rfl⟩; clear tk1 _t)
    | (go_at_call 16; go_must (refine (C6.out _ (by rfl)).mono ?_); rintro e wb ⟨rfl, db, rfl⟩))
  obtain ⟨gp, hg1, hg2, hg3, hg4⟩ := pi_start HO4.out HTOP.out HB45.out HB34.out.size
  have HPI := Lib.hid hg3
  have HGA := Lib.hid hg2
  have HG1 := Lib.hid (show w.heap.size ≤ gp from Nat.le_trans HB3.out.size hg1)
  have HQS := Lib.hid (show RS w5 [gp] A7 (is64 (zs PL)) from by
    rcases hg4 with h | h
    · refine RV.avoids HRQ.out fun ad hA hm => ?_
      have h1 := RV.own_block HO5.out hA
      rw [List.mem_singleton.1 hm] at h1
      omega
    · have h9 : zs PL = [] := List.eq_nil_of_length_eq_zero (by rw [HZ.out, h])
      rw [h9]
      exact RS.nil _ _ _)
  clear hg1 hg2 hg3 hg4 C5 C6 HO4 HO5
  go_wp2_with (fail)
  go_loopg [14] n6 (fun g s14 wx => ∃ (i : Nat), i + g = n6 ∧ s14 = .int .i64 (i : Nat) ∧ Hid (PI w5 wx gp n6 i))
  case atStart => exact ⟨0, by omega, rfl, Lib.hid (HPI.out.drew _)⟩
  case round =>
    obtain ⟨i, hig, rfl, hst⟩ := hrel
    cases gk with
    | zero =>
      obtain rfl : i = n6 := by omega
      have hk : ¬ (i : Int) < (i : Int) := by omega
      have HBX := Lib.hid (show Below w.heap.size w5 wr from hst.out.kp.below HB5.out.size (by intro k hk2; rw [List.mem_singleton.1 hk2]; exact HG1.out))
      have HBW := Lib.hid (HB5.out.trans HBX.out)
      have HQ := Lib.hid (show RV wr A7 (is64 (zs PL)) from (HQS.out.kept hst.out.kp (by intro k hk2; exact .inl hk2)).reads)
      have C7 := Lib.hid (c_parse s wr (by omega) (HG.out.below HBW.out HG.out.sz))
      go_upto_region 13 with (first
        | (go_at_call 14; go_must (refine C7.out.mono ?_); intro e w7 he; obtain ⟨A8, n8, c8, rfl, hb, hn8, hown⟩ := PX.out _ _ _ he; rw [HN6.out] at hn8; subst hn8; have HB7 := Lib.hid (HBW.out.trans (hb.mono HBW.out.size)); have HQ7 := Lib.hid (HQ.out.below hb); have HR7 := Lib.hid (show RV w7 A8 (is64 (zs PL)) by rw [← ints_zs]; exact RV.own hown); clear hb hown he))
      have C8 := Lib.hid (c_ints A8 A7 i i c8 c7 (zs PL) (zs PL) w7 HZ.out HZ.out (by omega) (by omega) HR7.out HQ7.out)
      rw [show decide (zs PL = zs PL) = true from decide_eq_true rfl] at C8
      go_wp2_with (first
        | (go_at_call 16; go_must (refine C8.out.mono ?_); rintro e w8 ⟨rfl, d8, rfl⟩)
        | (go_at_call 17; go_must (refine (c_awake _ (gw_heap (HG.out.below HB7.out HG.out.sz) (by rfl))).mono ?_); rintro e w9 ⟨rfl, hb9⟩))
      go_ret
      exact ⟨rfl, (bel_draw HB7.out d8).trans (hb9.mono HB7.out.size)⟩
    | succ g =>
      have hk : (i : Int) < (n6 : Int) := by omega
      have hk0 : (0 : Int) ≤ (i : Int) := by omega
      obtain ⟨rfl, hgl⟩ := HGA.out (by omega)
      obtain ⟨x, hx, hcell, hfz, hlt, HST⟩ := hst.out.step (by omega)
      have HSTEP := Lib.hid HST
      have hxw : IntKind.i64.wrap ((x : Int) + 1) = (x : Int) + 1 := IntWalk.i64_in _ (by omega)
      clear HST hgl
      go_wp2_with (fail)
      go_roundg g
      case measure => omega
      case rel => exact ⟨i + 1, by omega, by go_num, Lib.hid (HSTEP.out _)⟩
end Go.Proofs.YtgjningfpkoooaaDoor.Ro
