/- Report: addHit, addWhy. -/
import Derived.Test.YtgjningfpkoooaaDoorQi
namespace Go.Proofs.YtgjningfpkoooaaDoor.Ro
set_option linter.unusedVariables false
set_option linter.unusedSimpArgs false
open Go.RowKit Go.Proofs.YtgjningfpkoooaaDoor.W

def hitV (ws : List (List UInt8)) : Ht := (((valN (ws.getD 1 [])).getD 0 : Nat), zs ((parseP (ws.getD 2 [])).getD []), ((valN (ws.getD 3 [])).getD 0 : Nat))
def hitB (ws : List (List UInt8)) : Bool := (valN (ws.getD 1 [])).isSome && (parseP (ws.getD 2 [])).isSome && (valN (ws.getD 3 [])).isSome
theorem addH_iff (a : Rp) (ws : List (List UInt8)) : addH a ws = if hitB ws then some (a.1 ++ [hitV ws], a.2) else none := by
  unfold addH hitB hitV
  cases valN (ws.getD 1 []) <;> cases parseP (ws.getD 2 []) <;> cases valN (ws.getD 3 []) <;> rfl
def whyV (ws : List (List UInt8)) : Vd := (zs ((parseP (ws.getD 1 [])).getD []), ((valN (ws.getD 2 [])).getD 0 : Nat))
def whyB (ws : List (List UInt8)) : Bool := (parseP (ws.getD 1 [])).isSome && (valN (ws.getD 2 [])).isSome
theorem addV_iff (a : Rp) (ws : List (List UInt8)) : addV a ws = if whyB ws then some (a.1, a.2 ++ [whyV ws]) else none := by
  unfold addV whyB whyV
  cases parseP (ws.getD 1 []) <;> cases valN (ws.getD 2 []) <;> rfl
def AddIs (w : World) (B b : Nat) (ok : Bool) (a : Rp) (e : Ending) (w' : World) : Prop := e = .returned (.bool ok) ∧ Below B w w' ∧ RepO w' B b a
set_option maxHeartbeats 8000000 in
set_option maxRecDepth 100000 in
theorem c_addHit (B b bk c : Nat) (ws : List (List UInt8)) (a : Rp) (w : World) (h : RepO w B b a) (hr : RV w (some ⟨bk, 0, none⟩) (strs ws)) (hn : ws.length = 4) (hsz : ∀ v ∈ ws, v.length ≤ 1000000000) (ha : a.1.length ≤ 1000000000) (hB : B ≤ w.heap.size) (hG : Gw w) :
    Calls Tryd.prog 46 #[.pointer (some ⟨b, 0, none⟩), .slice (some ⟨bk, 0, none⟩) 4 c] w (AddIs w B b (hitB ws) (a.1 ++ [hitV ws], a.2)) := by
  obtain ⟨A, n, ca, A2, m, c2, cs1, cs2, h⟩ := h
  have HRO := Lib.hid h
  have HR := Lib.hid (show ∀ wx, Below w.heap.size w wx → RV wx (some ⟨bk, 0, none⟩) (strs ws) ∧ Gw wx ∧ RO wx B b A n ca A2 m c2 cs1 cs2 a ∧ B ≤ wx.heap.size from fun wx hb => ⟨hr.below hb, hG.below hb hG.sz, h.below hb, Nat.le_trans hB hb.size⟩)
  obtain ⟨S1, hS1⟩ : ∃ S : ByteArray, (⟨(ws.getD 1 []).toArray⟩ : ByteArray) = S := ⟨_, rfl⟩
  obtain ⟨S2, hS2⟩ : ∃ S : ByteArray, (⟨(ws.getD 2 []).toArray⟩ : ByteArray) = S := ⟨_, rfl⟩
  obtain ⟨S3, hS3⟩ : ∃ S : ByteArray, (⟨(ws.getD 3 []).toArray⟩ : ByteArray) = S := ⟨_, rfl⟩
  have HC := Lib.hid (show ∀ wx, Below w.heap.size w wx → wx.cell? ⟨bk, 1, none⟩ = some (.string S1) ∧ wx.cell? ⟨bk, 2, none⟩ = some (.string S2) ∧ wx.cell? ⟨bk, 3, none⟩ = some (.string S3) from fun wx hb => by
    have h1 := hr.below hb
    rw [← hS1, ← hS2, ← hS3]
    exact ⟨(strs_at h1 (i := 1) (by omega)).1, (strs_at h1 (i := 2) (by omega)).1, (strs_at h1 (i := 3) (by omega)).1⟩)
  have HSZ := Lib.hid (show S1.size ≤ 1000000000 ∧ S2.size ≤ 1000000000 ∧ S3.size ≤ 1000000000 from by
    have h1 : ∀ i, i < 4 → (⟨(ws.getD i []).toArray⟩ : ByteArray).size ≤ 1000000000 := fun i hi => by
      rw [size_str, List.getD_eq_getElem?_getD, List.getElem?_eq_getElem (by omega)]
      exact hsz _ (List.getElem_mem _)
    rw [← hS1, ← hS2, ← hS3]
    exact ⟨h1 1 (by omega), h1 2 (by omega), h1 3 (by omega)⟩)
  have HD1 := Lib.hid (show S1.data.toList = ws.getD 1 [] by rw [← hS1])
  have HD2 := Lib.hid (show S2.data.toList = ws.getD 2 [] by rw [← hS2])
  have HD3 := Lib.hid (show S3.data.toList = ws.getD 3 [] by rw [← hS3])
  have HBW := Lib.hid (show B ≤ w.heap.size ∧ n ≤ 1000000000 from ⟨hB, by have := h.2.2.1; omega⟩)
  have hnb : n ≤ 1000000000 := HBW.out.2
  have hlt : bk < w.heap.size := (strs_at hr (i := 0) (by omega)).2
  obtain ⟨a1, a2, a3⟩ := HC.out w (Below.refl _ _)
  obtain ⟨ti, hti, htz, hts, htb⟩ := hit_info
  have C1 := Lib.hid (c_value S1 w HSZ.out.1 hG)
  obtain ⟨v1, hv1⟩ : ∃ v, valN S1.data.toList = v := ⟨_, rfl⟩
  obtain ⟨v2, hv2⟩ : ∃ v, parseP S2.data.toList = v := ⟨_, rfl⟩
  obtain ⟨v3, hv3⟩ : ∃ v, valN S3.data.toList = v := ⟨_, rfl⟩
  obtain ⟨x1, hx1⟩ : ∃ v, v1.getD 0 = v := ⟨_, rfl⟩
  obtain ⟨L, hL⟩ : ∃ v, v2.getD [] = v := ⟨_, rfl⟩
  obtain ⟨x3, hx3⟩ : ∃ v, v3.getD 0 = v := ⟨_, rfl⟩
  obtain ⟨o1, ho1⟩ : ∃ v, v1.isSome = v := ⟨_, rfl⟩
  obtain ⟨o2, ho2⟩ : ∃ v, v2.isSome = v := ⟨_, rfl⟩
  obtain ⟨o3, ho3⟩ : ∃ v, v3.isSome = v := ⟨_, rfl⟩
  have HV := Lib.hid (show (valN S1.data.toList = v1 ∧ v1.getD 0 = x1 ∧ v1.isSome = o1) ∧ (parseP S2.data.toList = v2 ∧ v2.getD [] = L ∧ v2.isSome = o2) ∧ (valN S3.data.toList = v3 ∧ v3.getD 0 = x3 ∧ v3.isSome = o3) from ⟨⟨hv1, hx1, ho1⟩, ⟨hv2, hL, ho2⟩, ⟨hv3, hx3, ho3⟩⟩)
  have HHV := Lib.hid (show hitV ws = (((x1 : Nat) : Int), zs L, ((x3 : Nat) : Int)) from by unfold hitV; rw [← HD1.out, ← HD2.out, ← HD3.out, hv1, hv2, hv3, hx1, hx3, hL])
  have HHB := Lib.hid (show hitB ws = (o1 && o2 && o3) from by unfold hitB; rw [← HD1.out, ← HD2.out, ← HD3.out, hv1, hv2, hv3, ho1, ho2, ho3])
  have HL2 := Lib.hid (show L.length ≤ 1000000000000 from by
    rw [← hL, ← hv2]
    cases hp : parseP S2.data.toList with
    | none => simp
    | some p =>
      have h1 := (parseP_iff _ _).1 hp
      have h2 := txt_ge p
      rw [← h1.1] at h2
      have h3 : S2.data.toList.length ≤ 1000000000 := by rw [← Lib.size_eq]; exact HSZ.out.2.1
      show p.length ≤ _
      omega)
  clear h hr hn hsz ha hB hG hS1 hS2 hS3 hv1 hv2 hv3 hx1 hx3 hL ho1 ho2 ho3
  have tk1 : True := trivial
  have hcs : (o1 = true ∧ o2 = true) ∨ (o1 = true ∧ o2 = false) ∨ o1 = false := by cases o1 <;> cases o2 <;> simp
  rcases hcs with ⟨rfl, rfl⟩ | ⟨rfl, rfl⟩ | rfl
  all_goals go_enter Tryd.func46, Tryd.ntmps46
  all_goals go_wp2_with (first
    | (go_at_call 64; have _t := C3; go_must (refine C3.out.mono ?_); rintro e w3 ⟨he, hb⟩; rw [HV.out.2.2.1, HV.out.2.2.2.1, HV.out.2.2.2.2] at he; subst he; have HB3 := Lib.hid (HB2.out.trans (hb.mono HB2.out.size)); have HP3 := Lib.hid ((own_below HP2.out hb).alloc (.cells #[.int .i64 (x1 : Nat), .slice Ap np cp, .int .i64 (x3 : Nat)] 44)); obtain ⟨d1, d2, dlt⟩ := (HR.out _ HB3.out).2.2.1.cells; have hz3 : B ≤ w3.heap.size := (HR.out _ HB3.out).2.2.2; have HB3a := Lib.hid (HB3.out.trans ((Below.refl w3.heap.size w3).alloc (Nat.le_refl _) (.cells #[.int .i64 (x1 : Nat), .slice Ap np cp, .int .i64 (x3 : Nat)] 44) |>.mono HB3.out.size)); have HRO3 := Lib.hid (HR.out _ HB3a.out).2.2.1; clear hb _t; clear C3)
    | (go_at_call 64; have _t := tk1; go_must (refine C1.out.mono ?_); rintro e w1 ⟨he, hb⟩; rw [HV.out.1.1, HV.out.1.2.1, HV.out.1.2.2] at he; subst he; have HB1 := Lib.hid hb; obtain ⟨b1, b2, b3⟩ := HC.out w1 HB1.out; have C2 := Lib.hid (c_parse S2 w1 (Nat.le_trans HSZ.out.2.1 (by omega)) (HR.out w1 HB1.out).2.1); clear hb _t; clear tk1)
    | (go_at_call 14; go_must (refine C2.out.mono ?_); rintro e w2 ⟨Ap, np, cp, he, hb, hn, ho⟩; rw [HV.out.2.1.1, HV.out.2.1.2.2] at he; subst he; rw [HV.out.2.1.1, HV.out.2.1.2.1] at hn ho; have HB2 := Lib.hid (HB1.out.trans (hb.mono HB1.out.size)); have HP2 := Lib.hid (ho.mono (HR.out w1 HB1.out).2.2.2); have HN2 := Lib.hid hn; obtain ⟨b4, b5, b6⟩ := HC.out w2 HB2.out; have C3 := Lib.hid (c_value S3 w2 HSZ.out.2.2 (HR.out w2 HB2.out).2.1); clear hb hn ho)
    | (at_builtin; go_must (refine wpList_append_lies _ rfl (.tmp 36) (.tmp 41) _ (by rfl) B 44 ti _ 3 40 Tryd.underlying33 hti htz hts htb rfl (by omega) _ n cs1 (by rfl) HRO3.out.2.2.2.2.1 ⟨_, 0, none⟩ 1 1 [.int .i64 (x1 : Nat), .slice Ap np cp, .int .i64 (x3 : Nat)] (by rfl) rfl (news_block w3 #[.int .i64 (x1 : Nat), .slice Ap np cp, .int .i64 (x3 : Nat)] 44) (one3 _ _ _ _ _ rfl rfl) (by omega) (by unfold maxLen; omega) (by omega) (by simp; omega) _ rfl ?_); intro g5 cap5 w5 hown5 hgrow5 hat5 hlt5; have HOW := Lib.hid hown5; have HGR := Lib.hid hgrow5; have HBL := Lib.hid (HRO3.out.blockH hgrow5); have f1 := cell_of_row w5 b 0 _ _ _ HBL.out; have f2 := frozen_of_row w5 b 0 _ _ HBL.out; clear hown5 hgrow5 hat5))
  all_goals go_ret
  all_goals refine ⟨by rw [HHB.out]; rfl, ((HB3a.out.mono HBW.out.1).grown HGR.out (by simp; omega) (fun k hk => (HRO3.out.2.2.2.2.1.lt k hk).1)).setCell HRO3.out.1 _, ?_⟩
  all_goals
    have h9 := HRO3.out.hit (x := (((x1 : Nat) : Int), zs L, ((x3 : Nat) : Int))) (by have h8 := HP3.out; rw [ints_zs] at h8; exact h8) (by have := HN2.out; have := HL2.out; omega) HOW.out HGR.out
    rw [HHV.out]
    exact ⟨_, _, _, _, _, _, _, _, h9⟩
set_option maxHeartbeats 8000000 in
set_option maxRecDepth 100000 in
theorem c_addWhy (B b bk c : Nat) (ws : List (List UInt8)) (a : Rp) (w : World) (h : RepO w B b a) (hr : RV w (some ⟨bk, 0, none⟩) (strs ws)) (hn : ws.length = 3) (hsz : ∀ v ∈ ws, v.length ≤ 1000000000) (ha : a.2.length ≤ 1000000000) (hB : B ≤ w.heap.size) (hG : Gw w) :
    Calls Tryd.prog 47 #[.pointer (some ⟨b, 0, none⟩), .slice (some ⟨bk, 0, none⟩) 3 c] w (AddIs w B b (whyB ws) (a.1, a.2 ++ [whyV ws])) := by
  obtain ⟨A, n, ca, A2, m, c2, cs1, cs2, h⟩ := h
  have HRO := Lib.hid h
  have HR := Lib.hid (show ∀ wx, Below w.heap.size w wx → RV wx (some ⟨bk, 0, none⟩) (strs ws) ∧ Gw wx ∧ RO wx B b A n ca A2 m c2 cs1 cs2 a ∧ B ≤ wx.heap.size from fun wx hb => ⟨hr.below hb, hG.below hb hG.sz, h.below hb, Nat.le_trans hB hb.size⟩)
  obtain ⟨S2, hS2⟩ : ∃ S : ByteArray, (⟨(ws.getD 1 []).toArray⟩ : ByteArray) = S := ⟨_, rfl⟩
  obtain ⟨S3, hS3⟩ : ∃ S : ByteArray, (⟨(ws.getD 2 []).toArray⟩ : ByteArray) = S := ⟨_, rfl⟩
  have HC := Lib.hid (show ∀ wx, Below w.heap.size w wx → wx.cell? ⟨bk, 1, none⟩ = some (.string S2) ∧ wx.cell? ⟨bk, 2, none⟩ = some (.string S3) from fun wx hb => by
    have h1 := hr.below hb
    rw [← hS2, ← hS3]
    exact ⟨(strs_at h1 (i := 1) (by omega)).1, (strs_at h1 (i := 2) (by omega)).1⟩)
  have HSZ := Lib.hid (show S2.size ≤ 1000000000 ∧ S3.size ≤ 1000000000 from by
    have h1 : ∀ i, i < 3 → (⟨(ws.getD i []).toArray⟩ : ByteArray).size ≤ 1000000000 := fun i hi => by
      rw [size_str, List.getD_eq_getElem?_getD, List.getElem?_eq_getElem (by omega)]
      exact hsz _ (List.getElem_mem _)
    rw [← hS2, ← hS3]
    exact ⟨h1 1 (by omega), h1 2 (by omega)⟩)
  have HD2 := Lib.hid (show S2.data.toList = ws.getD 1 [] by rw [← hS2])
  have HD3 := Lib.hid (show S3.data.toList = ws.getD 2 [] by rw [← hS3])
  have HBW := Lib.hid (show B ≤ w.heap.size ∧ m ≤ 1000000000 from ⟨hB, by have := h.2.2.2.1; omega⟩)
  have hnb : m ≤ 1000000000 := HBW.out.2
  have hlt : bk < w.heap.size := (strs_at hr (i := 0) (by omega)).2
  obtain ⟨a1, a2⟩ := HC.out w (Below.refl _ _)
  obtain ⟨ti, hti, htz, hts, htb⟩ := verd_info
  have C2 := Lib.hid (c_parse S2 w (Nat.le_trans HSZ.out.1 (by omega)) hG)
  obtain ⟨v2, hv2⟩ : ∃ v, parseP S2.data.toList = v := ⟨_, rfl⟩
  obtain ⟨v3, hv3⟩ : ∃ v, valN S3.data.toList = v := ⟨_, rfl⟩
  obtain ⟨L, hL⟩ : ∃ v, v2.getD [] = v := ⟨_, rfl⟩
  obtain ⟨x3, hx3⟩ : ∃ v, v3.getD 0 = v := ⟨_, rfl⟩
  obtain ⟨o2, ho2⟩ : ∃ v, v2.isSome = v := ⟨_, rfl⟩
  obtain ⟨o3, ho3⟩ : ∃ v, v3.isSome = v := ⟨_, rfl⟩
  have HV := Lib.hid (show (parseP S2.data.toList = v2 ∧ v2.getD [] = L ∧ v2.isSome = o2) ∧ (valN S3.data.toList = v3 ∧ v3.getD 0 = x3 ∧ v3.isSome = o3) from ⟨⟨hv2, hL, ho2⟩, ⟨hv3, hx3, ho3⟩⟩)
  have HHV := Lib.hid (show whyV ws = (zs L, ((x3 : Nat) : Int)) from by unfold whyV; rw [← HD2.out, ← HD3.out, hv2, hv3, hx3, hL])
  have HHB := Lib.hid (show whyB ws = (o2 && o3) from by unfold whyB; rw [← HD2.out, ← HD3.out, hv2, hv3, ho2, ho3])
  have HL2 := Lib.hid (show L.length ≤ 1000000000000 from by
    rw [← hL, ← hv2]
    cases hp : parseP S2.data.toList with
    | none => simp
    | some p =>
      have h1 := (parseP_iff _ _).1 hp
      have h2 := txt_ge p
      rw [← h1.1] at h2
      have h3 : S2.data.toList.length ≤ 1000000000 := by rw [← Lib.size_eq]; exact HSZ.out.1
      show p.length ≤ _
      omega)
  clear h hr hn hsz ha hB hG hS2 hS3 hv2 hv3 hx3 hL ho2 ho3
  have hcs : o2 = true ∨ o2 = false := by cases o2 <;> simp
  rcases hcs with rfl | rfl
  all_goals go_enter Tryd.func47, Tryd.ntmps47
  all_goals go_wp2_with (first
    | (go_at_call 64; go_must (refine C3.out.mono ?_); rintro e w3 ⟨he, hb⟩; rw [HV.out.2.1, HV.out.2.2.1, HV.out.2.2.2] at he; subst he; have HB3 := Lib.hid (HB2.out.trans (hb.mono HB2.out.size)); have HP3 := Lib.hid ((own_below HP2.out hb).alloc (.cells #[.slice Ap np cp, .int .i64 (x3 : Nat)] 68)); obtain ⟨d1, d2, dlt⟩ := (HR.out _ HB3.out).2.2.1.cells; have hz3 : B ≤ w3.heap.size := (HR.out _ HB3.out).2.2.2; have HB3a := Lib.hid (HB3.out.trans ((Below.refl w3.heap.size w3).alloc (Nat.le_refl _) (.cells #[.slice Ap np cp, .int .i64 (x3 : Nat)] 68) |>.mono HB3.out.size)); have HRO3 := Lib.hid (HR.out _ HB3a.out).2.2.1; clear hb)
    | (go_at_call 14; go_must (refine C2.out.mono ?_); rintro e w2 ⟨Ap, np, cp, he, hb, hn, ho⟩; rw [HV.out.1.1, HV.out.1.2.2] at he; subst he; rw [HV.out.1.1, HV.out.1.2.1] at hn ho; have HB2 := Lib.hid hb; have HP2 := Lib.hid (ho.mono HBW.out.1); have HN2 := Lib.hid hn; obtain ⟨b4, b5⟩ := HC.out w2 HB2.out; have C3 := Lib.hid (c_value S3 w2 HSZ.out.2 (HR.out w2 HB2.out).2.1); clear hb hn ho)
    | (at_builtin; go_must (refine wpList_append_lies _ rfl (.tmp 27) (.tmp 31) _ (by rfl) B 68 ti _ 2 32 Tryd.underlying34 hti htz hts htb rfl (by omega) _ m cs2 (by rfl) HRO3.out.2.2.2.2.2.2.1 ⟨_, 0, none⟩ 1 1 [.slice Ap np cp, .int .i64 (x3 : Nat)] (by rfl) rfl (news_block w3 #[.slice Ap np cp, .int .i64 (x3 : Nat)] 68) (one2 _ _ _ _ rfl) (by omega) (by unfold maxLen; omega) (by omega) (by simp; omega) _ rfl ?_); intro g5 cap5 w5 hown5 hgrow5 hat5 hlt5; have HOW := Lib.hid hown5; have HGR := Lib.hid hgrow5; have HBL := Lib.hid (HRO3.out.blockV hgrow5); have f1 := cell_of_row w5 b 1 _ _ _ HBL.out; have f2 := frozen_of_row w5 b 1 _ _ HBL.out; clear hown5 hgrow5 hat5))
  all_goals go_ret
  all_goals refine ⟨by rw [HHB.out]; rfl, ((HB3a.out.mono HBW.out.1).grown HGR.out (by simp; omega) (fun k hk => (HRO3.out.2.2.2.2.2.2.1.lt k hk).1)).setCell HRO3.out.1 _, ?_⟩
  all_goals
    have h9 := HRO3.out.verd (x := (zs L, ((x3 : Nat) : Int))) (by have h8 := HP3.out; rw [ints_zs] at h8; exact h8) (by have := HN2.out; have := HL2.out; omega) HOW.out HGR.out
    rw [HHV.out]
    exact ⟨_, _, _, _, _, _, _, _, h9⟩
