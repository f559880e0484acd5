/- RouteUnder: the walk. -/
import Derived.Test.YtgjningfpkoooaaDoorOm
import Derived.Stop.LaidErr
namespace Go.Proofs.YtgjningfpkoooaaDoor.Ro
set_option linter.unusedVariables false
set_option linter.unusedSimpArgs false
open Go.RowKit Go.Proofs.YtgjningfpkoooaaDoor.W

theorem is64_one (l : List Int) : ∀ u ∈ is64 l, u.oneCell' = true := by
  intro u hu
  unfold is64 at hu
  obtain ⟨x, _, rfl⟩ := List.mem_map.1 hu
  rfl
theorem is64_len (l : List Int) : (is64 l).length = l.length := by simp [is64]
theorem is64_snoc (l : List Int) (x : Int) : is64 (l ++ [x]) = is64 l ++ [Value.int .i64 x] := by unfold is64; rw [List.map_append]; rfl
set_option maxHeartbeats 4000000 in
set_option maxRecDepth 100000 in
theorem c_under (A : Option Addr) (n c : Nat) (a : List Int) (A2 : Option Addr) (n2 c2 : Nat) (bl : List Int) (A3 : Option Addr) (n3 c3 : Nat) (b : List Int) (w : World) (hG : Gw w)
    (hl : a.length = n) (hc : n ≤ c) (hn : n ≤ 140737488351232) (hr : RV w A (is64 a)) (hl2 : bl.length = n2) (hc2 : n2 ≤ c2) (hn2 : n2 ≤ 140737488351232) (hr2 : RV w A2 (is64 bl)) (hl3 : b.length = n3) (hc3 : n3 ≤ c3) (hn3 : n3 ≤ 140737488351232) (hr3 : RV w A3 (is64 b))
    (hu : n + n2 + n3 ≤ 1048576) :
    Calls Tryd.prog 7 #[.slice A n c, .slice A2 n2 c2, .slice A3 n3 c3] w (TrueP w) := by
  have HG := Lib.hid hG
  have HL := Lib.hid hl
  have HL2 := Lib.hid hl2
  have HL3 := Lib.hid hl3
  have HR := Lib.hid hr
  have HR2 := Lib.hid hr2
  have HR3 := Lib.hid hr3
  clear hG hl hl2 hl3 hr hr2 hr3 hc hc2 hc3 hn hn2 hn3
  go_enter Tryd.func7, Tryd.ntmps7
  go_upto_region 2 with (first
    | (at_builtin; go_must (refine wpList_ap int8 rfl _ _ rfl rfl (own_lit (base := w.heap.size) #[] rfl (Nat.le_refl _) (by unfold maxLen; omega)) rfl (by rw [is64_len]; exact HL.out) (HR.out.alloc _) (is64_one a) (by unfold maxLen; omega) (by omega) (by simp) ?_); intro A5 c5 w1 hown1 hgrow1 hat1 hle1; have HB1 := Lib.hid (grownBy_below (grow_new' hgrow1)); have HO1 := Lib.hid hown1; clear hown1 hgrow1 hat1 hle1))
  have HS := Lib.hid (show w1.ownsRow w.heap.size 3 1 (.slice A5 n c5) n (is64 a) by simpa using HO1.out)
  clear HO1
  go_wp2_with (fail)
  go_loopg [7, 8] n2 (fun g s7 s8 wx => ∃ (i : Nat) (A7 : Option Addr) (c7 N : Nat) (l : List Int), i + g = n2 ∧ s8 = .int .i64 (i : Nat) ∧ s7 = .slice A7 N c7 ∧ N ≤ n + i ∧ Hid (Below w.heap.size w wx ∧ wx.ownsRow w.heap.size 3 1 (.slice A7 N c7) N (is64 l) ∧ l = a ++ bl.take i ∧ l.length = N))
  case atStart => exact ⟨0, A5, c5, n, a, by omega, rfl, rfl, Nat.le_refl _, Lib.hid ⟨HB1.out, HS.out, by simp, HL.out⟩⟩
  case round =>
    obtain ⟨i, A7, c7, N, l, hig, rfl, rfl, hN, hst⟩ := hrel
    cases gk with
    | zero =>
      obtain rfl : i = n2 := by omega
      have hk : ¬ (i : Int) < (i : Int) := by omega
      have HAB := Lib.hid (fun (wx : World) (he : wx.heap = wr.heap) => c_pless A A3 n n3 c c3 a b wx HL.out HL3.out (by omega) (by omega) (rv_heap (HR.out.below hst.out.1) he) (rv_heap (HR3.out.below hst.out.1) he))
      have HBA := Lib.hid (fun (wx : World) (he : wx.heap = wr.heap) => c_punder A3 A n3 n c3 c b a wx HL3.out HL.out (by omega) (by omega) (rv_heap (HR3.out.below hst.out.1) he) (rv_heap (HR.out.below hst.out.1) he))
      have HCB := Lib.hid (fun (wx : World) (he : wx.heap = wr.heap) => c_pless A7 A3 N n3 c7 c3 l b wx hst.out.2.2.2 HL3.out (by omega) (by omega) (rv_heap (RV.own hst.out.2.1) he) (rv_heap (HR3.out.below hst.out.1) he))
      have HAN := Lib.hid (fun (wx : World) (he : wx.heap = wr.heap) => c_punder A none n 0 c 0 a [] wx HL.out rfl (by omega) (by omega) (rv_heap (HR.out.below hst.out.1) he) (RV.nil _ _))
      have HAA := Lib.hid (fun (wx : World) (he : wx.heap = wr.heap) => c_punder A A n n c c a a wx HL.out HL.out (by omega) (by omega) (rv_heap (HR.out.below hst.out.1) he) (rv_heap (HR.out.below hst.out.1) he))
      rw [under_nil] at HAN
      rw [under_self] at HAA
      have hlb := less_below a bl b
      have hla : l = a ++ bl := by rw [hst.out.2.2.1, ← HL2.out, List.take_length]
      rw [← hla] at hlb
      have HGW := Lib.hid (HG.out.below hst.out.1 HG.out.sz)
      have DONE := Lib.hid (show ∀ (wx w' : World), Below wx.heap.size wx w' → wx.heap = wr.heap → wx.os = wr.os → wx.tape = wr.tape → wx.output = wr.output → TrueP w (.returned (.bool true)) w' from fun wx w' h5 h1 h2 h3 h4 => ⟨rfl, (bel_heap hst.out.1 h1 h2 h3 h4).trans (h5.mono (by rw [h1]; exact hst.out.1.size))⟩)
      clear hla HS
      have tk1 : True := trivial
      cases v1 : less a b with
      | false =>
        rw [v1] at HAB
        clear v1 hlb HBA HCB
        go_wp2_with (first
          | (go_at_call 19; go_must (refine (HAB.out _ (by rfl)).mono ?_); rintro e w3 ⟨rfl, d2, rfl⟩)
          | (go_at_call 21; have _t := tk1; go_must (refine (HAN.out _ (by rfl)).mono ?_); rintro e w4 ⟨rfl, d3, rfl⟩; clear tk1 _t)
          | (go_at_call 21; go_must (refine (HAA.out _ (by rfl)).mono ?_); rintro e w5 ⟨rfl, d4, rfl⟩)
          | (go_at_call 17; go_must (refine (c_awake _ (gw_heap HGW.out (by rfl))).mono ?_); rintro e w6 ⟨rfl, hb6⟩))
        go_ret
        exact DONE.out _ _ hb6 rfl rfl rfl rfl
      | true =>
        rw [v1] at HAB
        have tk0 : True := trivial
        cases v2 : under b a with
        | true =>
          rw [v2] at HBA
          clear v1 v2 hlb HCB
          go_wp2_with (first
            | (go_at_call 19; go_must (refine (HAB.out _ (by rfl)).mono ?_); rintro e w3 ⟨rfl, d2, rfl⟩)
            | (go_at_call 21; have _t := tk0; go_must (refine (HBA.out _ (by rfl)).mono ?_); rintro e w4 ⟨rfl, d5, rfl⟩; clear tk0 _t)
            | (go_at_call 21; have _t := tk1; go_must (refine (HAN.out _ (by rfl)).mono ?_); rintro e w4 ⟨rfl, d3, rfl⟩; clear tk1 _t)
            | (go_at_call 21; go_must (refine (HAA.out _ (by rfl)).mono ?_); rintro e w5 ⟨rfl, d4, rfl⟩)
            | (go_at_call 17; go_must (refine (c_awake _ (gw_heap HGW.out (by rfl))).mono ?_); rintro e w6 ⟨rfl, hb6⟩))
          go_ret
          exact DONE.out _ _ hb6 rfl rfl rfl rfl
        | false =>
          rw [v2] at HBA
          rw [hlb v1 v2] at HCB
          clear v1 v2 hlb
          have tk2 : True := trivial
          go_wp2_with (first
            | (go_at_call 19; have _t := tk2; go_must (refine (HAB.out _ (by rfl)).mono ?_); rintro e w3 ⟨rfl, d2, rfl⟩; clear tk2 _t)
            | (go_at_call 19; go_must (refine (HCB.out _ (by rfl)).mono ?_); rintro e w3 ⟨rfl, d6, rfl⟩)
            | (go_at_call 21; have _t := tk0; go_must (refine (HBA.out _ (by rfl)).mono ?_); rintro e w4 ⟨rfl, d5, rfl⟩; clear tk0 _t)
            | (go_at_call 21; have _t := tk1; go_must (refine (HAN.out _ (by rfl)).mono ?_); rintro e w4 ⟨rfl, d3, rfl⟩; clear tk1 _t)
            | (go_at_call 21; go_must (refine (HAA.out _ (by rfl)).mono ?_); rintro e w5 ⟨rfl, d4, rfl⟩)
            | (go_at_call 17; go_must (refine (c_awake _ (gw_heap HGW.out (by rfl))).mono ?_); rintro e w6 ⟨rfl, hb6⟩))
          go_ret
          exact DONE.out _ _ hb6 rfl rfl rfl rfl
    | succ g =>
      have hk : (i : Int) < (n2 : Int) := by omega
      have hk0 : (0 : Int) ≤ (i : Int) := by omega
      obtain ⟨x, hx⟩ : ∃ x, bl[i]? = some x := ⟨_, List.getElem?_eq_getElem (by rw [HL2.out]; omega)⟩
      obtain ⟨bb, off, rfl, hbb, hcc⟩ := RV.geti (HR2.out.below hst.out.1) hx
      have HX := Lib.hid hx
      clear hx
      have CC := Lib.hid (c_child A7 N c7 l x wr hst.out.2.2.2 (by omega) (RV.own hst.out.2.1))
      go_upto_region 6 with (first
        | (go_at_call 18; go_must (refine CC.out.mono ?_); rintro e w2 ⟨Ad, cd, he, ho2, hb2⟩; rw [hst.out.2.2.2] at he ho2; subst he; have HO2 := Lib.hid ho2; have HB2 := Lib.hid hb2; clear ho2 hb2))
      have HBW := Lib.hid (hst.out.1.trans (HB2.out.mono hst.out.1.size))
      have HLX := Lib.hid (show (l ++ [x]).length = N + 1 by rw [List.length_append, hst.out.2.2.2]; rfl)
      have HRC := Lib.hid (show RV w2 A7 (is64 l) from (RV.own hst.out.2.1).below HB2.out)
      have HRD := Lib.hid (show RV w2 Ad (is64 (l ++ [x])) from RV.own HO2.out)
      have H1 := Lib.hid (fun (wx : World) (he : wx.heap = w2.heap) => c_pless A7 Ad N (N + 1) c7 cd l (l ++ [x]) wx hst.out.2.2.2 HLX.out (by omega) (by omega) (rv_heap HRC.out he) (rv_heap HRD.out he))
      have H2 := Lib.hid (fun (wx : World) (he : wx.heap = w2.heap) => c_punder Ad A7 (N + 1) N cd c7 (l ++ [x]) l wx HLX.out hst.out.2.2.2 (by omega) (by omega) (rv_heap HRD.out he) (rv_heap HRC.out he))
      have H3 := Lib.hid (fun (wx : World) (he : wx.heap = w2.heap) => c_punder A7 Ad N (N + 1) c7 cd l (l ++ [x]) wx hst.out.2.2.2 HLX.out (by omega) (by omega) (rv_heap HRC.out he) (rv_heap HRD.out he))
      have H4 := Lib.hid (fun (wx : World) (he : wx.heap = w2.heap) => c_punder Ad A (N + 1) n cd c (l ++ [x]) a wx HLX.out HL.out (by omega) (by omega) (rv_heap HRD.out he) (rv_heap (HR.out.below HBW.out) he))
      rw [less_app] at H1
      rw [under_app] at H2
      rw [under_not] at H3
      rw [show under (l ++ [x]) a = true by rw [hst.out.2.2.1, List.append_assoc]; exact under_app _ _] at H4
      have hcc2 := (HB2.out.cell (p := ⟨bb, off + i, none⟩) hbb).trans hcc
      have hbb2 : bb < w2.heap.size := Nat.lt_of_lt_of_le hbb HB2.out.size
      have HOC := Lib.hid (own_below hst.out.2.1 HB2.out)
      have HZ2 := Lib.hid HBW.out.size
      clear hcc hbb CC
      have tk1 : True := trivial
      have tk2 : True := trivial
      go_upto_region 8 with (first
        | (go_at_call 19; go_must (refine (H1.out _ (by rfl)).mono ?_); rintro e w3 ⟨rfl, d1, rfl⟩)
        | (go_at_call 21; have _t := tk1; go_must (refine (H2.out _ (by rfl)).mono ?_); rintro e w4 ⟨rfl, d2, rfl⟩; clear tk1 _t)
        | (go_at_call 21; have _t := tk2; go_must (refine (H3.out _ (by rfl)).mono ?_); rintro e w4 ⟨rfl, d3, rfl⟩; clear tk2 _t)
        | (go_at_call 21; go_must (refine (H4.out _ (by rfl)).mono ?_); rintro e w4 ⟨rfl, d4, rfl⟩))
      have HEQ : ∃ w5 : World, w2.drewN (d1 + d2 + d3 + d4) = w5 := ⟨_, rfl⟩
      obtain ⟨w5, hw5⟩ := HEQ
      have HO5 := Lib.hid (show w5.ownsRow w.heap.size 3 1 (.slice A7 N c7) N (is64 l) from own_heap HOC.out (by rw [← hw5]; rfl))
      have HB5 := Lib.hid (show Below w.heap.size w w5 from bel_heap HBW.out (by rw [← hw5]; rfl) (by rw [← hw5]; rfl) (by rw [← hw5]; rfl) (by rw [← hw5]; rfl))
      have c5 : w5.cell? ⟨bb, off + i, none⟩ = some (.int .i64 x) := by rw [← hw5]; exact hcc2
      have hb5 : bb < w5.heap.size := by rw [← hw5]; exact hbb2
      rw [hw5]
      clear hw5 hcc2 hbb2 H1 H2 H3 H4 HO2 HB2 HBW HRC HRD HOC HZ2
      have hz5 : w.heap.size ≤ w5.heap.size := HB5.out.size
      have HZ6 := Lib.hid (show w.heap.size ≤ (w5.alloc (.cells #[.int .i64 x] 3)).heap.size from Nat.le_trans hz5 (by simp))
      have T1 := Lib.hid (HO5.out.alloc (.cells #[.int .i64 x] 3))
      have T2 := Lib.hid (RV.new (w := w5) #[Value.int .i64 x] 3)
      have T5 := Lib.hid (show Below w.heap.size w (w5.alloc (.cells #[.int .i64 x] 3)) from HB5.out.alloc hz5 _)
      have hone : ∀ z ∈ [Value.int .i64 x], z.oneCell' = true := fun z hz => by rw [List.mem_singleton.1 hz]; rfl
      have h63 : N + 1 ≤ maxLen := by unfold maxLen; omega
      have hbb : (N + 1) * 8 ≤ 140737488355328 := by omega
      go_wp2_with (at_builtin; go_must (refine wpList_ap (P := Tryd.prog) int8 rfl (.tmp 46) (.tmp 51) rfl rfl T1.out rfl (m := 1) (news := [Value.int .i64 x]) rfl T2.out hone h63 hbb HZ6.out ?_); intro A5 c5 w7 hown5 hgrow5 _ _; have HO7 := Lib.hid hown5; have HB7 := Lib.hid (T5.out.grown hgrow5 HZ6.out (fun k hk => (HO5.out.lt k hk).1)); clear hown5 hgrow5)
      all_goals go_roundg g
      all_goals first
        | omega
        | (refine ⟨i + 1, _, _, N + 1, l ++ [x], by omega, by go_num, rfl, by omega, Lib.hid ⟨HB7.out, ?_, ?_, HLX.out⟩⟩
           · rw [is64_snoc]; exact HO7.out
           · rw [take_snoc' HX.out, hst.out.2.2.1, List.append_assoc])
end Go.Proofs.YtgjningfpkoooaaDoor.Ro
