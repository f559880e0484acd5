/- winkleref22.Parse. -/
import Derived.Test.YtgjningfpkoooaaDoorQk
namespace Go.Proofs.YtgjningfpkoooaaDoor.Ro
set_option linter.unusedVariables false
set_option linter.unusedSimpArgs false
open Go.RowKit Go.Proofs.YtgjningfpkoooaaDoor.W

/-- Where the reader of lines stands. -/
def Ln (s : List UInt8) (i f : Nat) : Prop := f ≤ i ∧ ∀ c ∈ (s.drop f).take (i - f), c ≠ 10
theorem Ln.go {s : List UInt8} {i f : Nat} (h : Ln s i f) {c : UInt8} (hc : s[i]? = some c) (h10 : c ≠ 10) : Ln s (i + 1) f := by
  refine ⟨by have := h.1; omega, fun x hx => ?_⟩
  have hd : (s.drop f)[i - f]? = some c := by rw [List.getElem?_drop, show f + (i - f) = i by have := h.1; omega]; exact hc
  obtain ⟨q1, q2⟩ := List.getElem?_eq_some_iff.1 hd
  rw [show i + 1 - f = (i - f) + 1 by have := h.1; omega, List.take_succ_eq_append_getElem q1, q2] at hx
  rcases List.mem_append.1 hx with hx | hx
  · exact h.2 x hx
  · rw [List.mem_singleton.1 hx]; exact h10
theorem Ln.line {s : List UInt8} {i f : Nat} (h : Ln s i f) (hc : s[i]? = some 10) : spc 10 (s.drop f) = (s.drop f).take (i - f) :: spc 10 (s.drop (i + 1)) := by
  have hd : (s.drop f)[i - f]? = some 10 := by rw [List.getElem?_drop, show f + (i - f) = i by have := h.1; omega]; exact hc
  obtain ⟨q1, q2⟩ := List.getElem?_eq_some_iff.1 hd
  have e : s.drop f = (s.drop f).take (i - f) ++ 10 :: s.drop (i + 1) := by
    conv => lhs; rw [← List.take_append_drop (i - f) (s.drop f)]
    rw [List.drop_eq_getElem_cons q1, q2, List.drop_drop, show f + (i - f + 1) = i + 1 by have := h.1; omega]
  conv => lhs; rw [e]
  exact spc_cut 10 _ _ h.2
theorem Ln.last {s : List UInt8} {i f : Nat} (h : Ln s i f) (hi : i = s.length) {a : Rp} (hf : f < i) : linesR a (spc 10 (s.drop f)) = none := by
  have e : (s.drop f).take (i - f) = s.drop f := List.take_of_length_le (by rw [List.length_drop]; omega)
  have h2 := spc_words 10 (s.drop f) [] (by rw [← e]; exact h.2) (by simp)
  rw [List.flatMap_nil, List.append_nil] at h2
  rw [h2]
  unfold linesR
  rw [if_pos rfl, if_neg (fun h0 => by
    have h3 := congrArg List.length h0
    rw [List.length_drop, List.length_nil] at h3
    omega)]
/-- What is told of a line, by what is seen of its words. -/
theorem line_cases (a : Rp) (ws : List (List UInt8)) :
    ((ws.getD 0 [] = hitW ∧ ws.length = 4 ∧ a.2 = []) ∧ lineR a ws = if hitB ws then some (a.1 ++ [hitV ws], a.2) else none) ∨
    ((ws.getD 0 [] ≠ hitW ∧ ws.getD 0 [] = whyW ∧ ws.length = 3) ∧ lineR a ws = if whyB ws then some (a.1, a.2 ++ [whyV ws]) else none) ∨
    (((ws.getD 0 [] = hitW ∧ ws.getD 0 [] ≠ whyW ∧ ws.length ≠ 4) ∨ (ws.getD 0 [] = hitW ∧ ws.getD 0 [] ≠ whyW ∧ ws.length = 4 ∧ a.2 ≠ []) ∨ (ws.getD 0 [] ≠ hitW ∧ ws.getD 0 [] = whyW ∧ ws.length ≠ 3) ∨ (ws.getD 0 [] ≠ hitW ∧ ws.getD 0 [] ≠ whyW)) ∧ lineR a ws = none) := by
  have hn : hitW ≠ whyW := by decide
  by_cases hh : ws.getD 0 [] = hitW
  · have hw : ws.getD 0 [] ≠ whyW := by rw [hh]; exact hn
    by_cases h4 : ws.length = 4
    · have hK : kindW ws = 1 := by unfold kindW; rw [if_pos ⟨hh, h4⟩]
      unfold lineR
      rw [if_pos hK]
      by_cases ha : a.2 = []
      · exact .inl ⟨⟨hh, h4, ha⟩, by rw [if_pos ha, addH_iff]⟩
      · exact .inr (.inr ⟨.inr (.inl ⟨hh, hw, h4, ha⟩), by rw [if_neg ha]⟩)
    · have hK : kindW ws = 0 := by unfold kindW; rw [if_neg (fun h => h4 h.2), if_neg (fun h => hw h.1)]
      exact .inr (.inr ⟨.inl ⟨hh, hw, h4⟩, by unfold lineR; rw [hK]; rfl⟩)
  · by_cases hw : ws.getD 0 [] = whyW
    · by_cases h3 : ws.length = 3
      · have hK : kindW ws = 2 := by unfold kindW; rw [if_neg (fun h => hh h.1), if_pos ⟨hw, h3⟩]
        exact .inr (.inl ⟨⟨hh, hw, h3⟩, by unfold lineR; rw [hK, if_neg (by omega), if_pos rfl, addV_iff]⟩)
      · have hK : kindW ws = 0 := by unfold kindW; rw [if_neg (fun h => hh h.1), if_neg (fun h => h3 h.2)]
        exact .inr (.inr ⟨.inr (.inr (.inl ⟨hh, hw, h3⟩)), by unfold lineR; rw [hK]; rfl⟩)
    · have hK : kindW ws = 0 := by unfold kindW; rw [if_neg (fun h => hh h.1), if_neg (fun h => hw h.1)]
      exact .inr (.inr ⟨.inr (.inr (.inr ⟨hh, hw⟩)), by unfold lineR; rw [hK]; rfl⟩)
set_option maxHeartbeats 16000000 in
set_option maxRecDepth 100000 in
theorem r_rparse (s : ByteArray) (w : World) (hs : s.size ≤ 1000000000) : Calls Tryd.prog 29 #[.string s] w (ParseRIs w s.data.toList) := by
  obtain ⟨w1, hw1⟩ : ∃ w1, w.alloc (.cells #[.slice none 0 0, .slice none 0 0] 36) = w1 := ⟨_, rfl⟩
  have HW1 := Lib.hid (show Below w.heap.size w w1 by rw [← hw1]; exact (Below.refl _ _).alloc (Nat.le_refl _) _)
  have HZ1 := Lib.hid (show w1.heap.size = w.heap.size + 1 by rw [← hw1]; simp)
  obtain ⟨B, hB⟩ : ∃ B, w1.heap.size = B := ⟨_, rfl⟩
  have HB := Lib.hid hB
  have HRB := Lib.hid (show ∀ wx, Below B w1 wx → wx.heap[w.heap.size]? = some (.cells #[.slice none 0 0, .slice none 0 0] 36 (0, 0)) from fun wx hb => by
    have h0 : w1.heap[w.heap.size]? = some (.cells #[.slice none 0 0, .slice none 0 0] 36 (0, 0)) := by rw [← hw1]; exact heap_alloc_new w _
    exact (hb.block w.heap.size (by rw [← hB, HZ1.out]; exact Nat.lt_succ_self _)).trans h0)
  obtain ⟨b0, hb0⟩ : ∃ b0, w.heap.size = b0 := ⟨_, rfl⟩
  have HR0 := Lib.hid (show RepO (w1.alloc (.cells #[.slice none 0 0, .slice none 0 0] 36)) B B ([], []) from ⟨none, 0, 0, none, 0, 0, [], [], Nat.le_refl _, by rw [← hB]; exact heap_alloc_new w1 _, rfl, rfl, World.ownsRow_nil _ _ _ _, OP.nil _ _ _, World.ownsRow_nil _ _ _ _, OP.nil _ _ _⟩)
  have HE0 := Lib.hid (show Below B w1 (w1.alloc (.cells #[.slice none 0 0, .slice none 0 0] 36)) from hB ▸ (Below.refl _ _).alloc (Nat.le_refl _) _)
  go_enter Tryd.func29, Tryd.ntmps29
  go_upto_region 2 with (fail)
  generalize w1.alloc (.cells #[.slice none 0 0, .slice none 0 0] 36) = w2 at *
  clear hB hw1
  rw [hb0] at HRB
  have HB0 := Lib.hid hb0
  have HSZ := Lib.hid hs
  clear hb0 hs
  obtain ⟨N, hN⟩ : ∃ N, s.size = N := ⟨_, rfl⟩
  have HN := Lib.hid (show s.data.toList.length = N by rw [← Lib.size_eq]; exact hN)
  have hNb : N ≤ 1000000000 := by rw [← hN]; exact HSZ.out
  have HFR := Lib.hid (show ∀ wx, Below B w1 wx → wx.cell? ⟨b0, 0, none⟩ = some (.slice none 0 0) ∧ wx.cell? ⟨b0, 1, none⟩ = some (.slice none 0 0) ∧ wx.frozen? ⟨b0, 0, none⟩ = false ∧ wx.frozen? ⟨b0, 1, none⟩ = false from fun wx hb => by
    have hbk := HRB.out _ hb
    exact ⟨cell_of_row wx b0 0 _ _ _ hbk, cell_of_row wx b0 1 _ _ _ hbk, frozen_of_row wx b0 0 _ _ hbk, frozen_of_row wx b0 1 _ _ hbk⟩)
  go_wp2_with (fail)
  go_loopg [5, 6] N (fun g s5 s6 wx => ∃ (i f : Nat) (a : Rp), i + g = N ∧ s6 = .int .i64 (i : Nat) ∧ s5 = .int .i64 (f : Nat) ∧ f ≤ i ∧ Hid (RepO wx B B a ∧ Below B w1 wx ∧ linesR a (spc 10 (s.data.toList.drop f)) = parseR s.data.toList ∧ Ln s.data.toList i f ∧ a.1.length + a.2.length ≤ f))
  case atStart => exact ⟨0, 0, ([], []), by omega, rfl, rfl, by omega, Lib.hid ⟨HR0.out, HE0.out, rfl, ⟨by omega, fun c hc => by rw [Nat.sub_self, List.take_zero] at hc; cases hc⟩, by simp⟩⟩
  case round =>
    obtain ⟨i, f, a, hig, rfl, rfl, hfi, hst⟩ := hrel
    obtain ⟨k1, k2, k3, k4⟩ := HFR.out _ hst.out.2.1
    obtain ⟨A, n, c, A2, m, c2, cs1, cs2, hro⟩ := hst.out.1
    have HRO := Lib.hid hro
    obtain ⟨d1, d2, dlt⟩ := hro.cells
    clear hro
    cases gk with
    | zero =>
      obtain rfl : i = N := by omega
      have hk : ¬ (i : Int) < (i : Int) := by omega
      have hbk := HRB.out _ hst.out.2.1
      have HBK := Lib.hid hbk
      clear hbk
      by_cases hf : f = i
      · have i1 : ((f : Int) != (i : Int)) = false := W.neF (by omega)
        have HP := Lib.hid (show parseR s.data.toList = some a by rw [← hst.out.2.2.1, hf, List.drop_eq_nil_of_le (by rw [HN.out]; omega), lines_end])
        clear hf
        go_wp2_with (fail)
        have h0 := heap_set (heap_set HBK.out 0 (.slice A n c)) 1 (.slice A2 m c2)
        refine bodyPost_ret (res_cell rfl _ _ b0 _ _ _ _ rfl h0 Tryd.underlying36 (by kernel_rfl)) rfl ?_
        exact parse_end HB0.out HBK.out (HW1.out.trans (hst.out.2.1.mono (by rw [← HB.out]; exact HW1.out.size))) (by rw [← HB.out, HZ1.out, HB0.out]; exact Nat.le_succ _) HRO.out.rep (by rw [HP.out]; rfl) (by rw [HP.out]; rfl)
      · have i1 : ((f : Int) != (i : Int)) = true := W.neT (by omega)
        have HP := Lib.hid (show parseR s.data.toList = none by rw [← hst.out.2.2.1]; exact hst.out.2.2.2.1.last HN.out.symm (by omega))
        clear hf
        go_wp2_with (fail)
        have h0 := heap_set (heap_set HBK.out 0 (.slice none 0 0)) 1 (.slice none 0 0)
        refine bodyPost_ret (res_cell rfl _ _ b0 _ _ _ _ rfl h0 Tryd.underlying36 (by kernel_rfl)) rfl ?_
        exact parse_end HB0.out HBK.out (HW1.out.trans (hst.out.2.1.mono (by rw [← HB.out]; exact HW1.out.size))) (Nat.le_refl _) (RepV.nil _ _) (by rw [HP.out]; rfl) (by rw [HP.out]; rfl)
    | succ g =>
      have hk : (i : Int) < (N : Int) := by omega
      have hk0 : (0 : Int) ≤ (i : Int) := by omega
      have hf0 : (0 : Int) ≤ (f : Int) := by omega
      have hfi2 : (f : Int) ≤ (i : Int) := by omega
      obtain ⟨ch, hch⟩ : ∃ c, s.data.toList[i]? = some c := ⟨_, List.getElem?_eq_getElem (by rw [HN.out]; omega)⟩
      obtain ⟨x, hx⟩ : ∃ x, ch.toNat = x := ⟨_, rfl⟩
      have hix : (s[i]'(by omega)).toNat = x := by rw [ba_get hch]; exact hx
      have HCH := Lib.hid hch
      have HX := Lib.hid hx
      have hx256 : x < 256 := by rw [← hx]; exact ch.toNat_lt
      clear hch hx
      by_cases h10 : x = 10
      · have i2 : ((x : Int) != 10) = false := W.neF (by omega)
        have HCE := Lib.hid (show ch = 10 from by apply UInt8.toNat_inj.1; rw [HX.out, h10]; rfl)
        clear h10
        obtain ⟨t, ht⟩ : ∃ t, (s.data.toList.drop f).take (i - f) = t := ⟨_, rfl⟩
        have HEX := Lib.hid (show s.extract f i = ⟨t.toArray⟩ by rw [extract_str, ht])
        have HLG := Lib.hid (show linesR a (spc 10 (s.data.toList.drop f)) = (lineR a (spc 32 t)).bind fun b => linesR b (spc 10 (s.data.toList.drop (i + 1))) from by
          rw [hst.out.2.2.2.1.line (by rw [HCH.out, HCE.out]), ht]
          conv => lhs; unfold linesR
          rw [if_neg (spc_ne 10 _)])
        have HBS := Lib.hid (show B ≤ wr.heap.size by have h := hst.out.2.1.size; rw [HB.out] at h; exact h)
        have htl : t.length ≤ 1000000000 := by rw [← ht, List.length_take, List.length_drop]; omega
        have HWL := Lib.hid (show ∀ v ∈ spc 32 t, v.length ≤ 1000000000 from fun v hv => Nat.le_trans (spc_word_len 32 t v hv) htl)
        have C1 := Lib.hid (r_words (s.extract f i) wr (by rw [HEX.out, size_str]; omega))
        have HTD := Lib.hid (show (s.extract f i).data.toList = t by rw [HEX.out])
        rw [HTD.out] at C1
        clear ht htl
        go_upto_region 8 with (first
          | (go_at_call 48; go_must (refine C1.out.mono ?_); rintro e w4 ⟨Aw, nw, cw, he, hnw, hcw, how, hb4⟩; subst he; have HO4 := Lib.hid how; have HB4 := Lib.hid hb4; have HN4 := Lib.hid hnw; clear hnw hcw how hb4))
        have hne := spc_ne 32 t
        obtain ⟨ws, hws⟩ : ∃ ws, spc 32 t = ws := ⟨_, rfl⟩
        rw [hws] at HO4 HN4 HLG HWL hne
        have hn0 : 0 < nw := by
          have h1 := HN4.out
          rcases Nat.eq_zero_or_pos nw with h | h
          · exact absurd (List.eq_nil_of_length_eq_zero (by omega)) hne
          · exact h
        obtain ⟨bk, cap, e4, hbk1, hbk2⟩ := HO4.out.form hn0
        injection e4 with e4 _ e5
        subst e4 e5
        have HRW := Lib.hid (RV.own HO4.out)
        have hnz : (0 : Int) < (nw : Int) := by omega
        obtain ⟨S0, hS0⟩ : ∃ S : ByteArray, (⟨(ws.getD 0 []).toArray⟩ : ByteArray) = S := ⟨_, rfl⟩
        have e1 : (S0.toList == [104, 105, 116]) = decide (ws.getD 0 [] = hitW) := str_eqb _ hitW hS0
        have e2 : (S0.toList == [119, 104, 121]) = decide (ws.getD 0 [] = whyW) := str_eqb _ whyW hS0
        have HE4 := Lib.hid (hst.out.2.1.trans (HB4.out.mono HBS.out))
        have HRO4 := Lib.hid (HRO.out.below HB4.out)
        obtain ⟨c00, hbklt⟩ := strs_at HRW.out (i := 0) (by rw [HN4.out]; exact hn0)
        rw [hS0] at c00
        obtain ⟨m1, m2, mlt⟩ := HRO4.out.cells
        obtain ⟨p1, p2, p3, p4⟩ := HFR.out _ HE4.out
        have HAL := Lib.hid (show a.1.length = n ∧ a.2.length = m ∧ n ≤ 1000000000 ∧ m ≤ 1000000000 from by
          have h1 := HRO.out.2.2.1
          have h2 := HRO.out.2.2.2.1
          have h3 := hst.out.2.2.2.2
          omega)
        have hnb : n ≤ 1000000000 ∧ m ≤ 1000000000 := HAL.out.2.2
        have HNX := Lib.hid (show Ln s.data.toList (i + 1) (i + 1) from ⟨Nat.le_refl _, fun c hc => by rw [Nat.sub_self, List.take_zero] at hc; cases hc⟩)
        clear hS0 k1 k2 k3 k4 d1 d2 dlt hne hws
        rcases line_cases a ws with ⟨⟨hh, h4, ha⟩, hl⟩ | ⟨⟨hh, hw, h3⟩, hl⟩ | ⟨hc, hl⟩
        · obtain rfl : nw = 4 := by have := HN4.out; omega
          have b1 : (S0.toList == [104, 105, 116]) = true := by rw [e1]; exact decide_eq_true hh
          have b3 : ((m : Int) == 0) = true := W.eqT (by have h1 := HAL.out.2.1; rw [ha] at h1; simp at h1; omega)
          have HA2 := Lib.hid ha
          clear e1 e2 hh h4 ha
          obtain ⟨S1, hS1⟩ : ∃ S : ByteArray, (⟨(ws.getD 1 []).toArray⟩ : ByteArray) = S := ⟨_, rfl⟩
          obtain ⟨S2, hS2⟩ : ∃ S : ByteArray, (⟨(ws.getD 2 []).toArray⟩ : ByteArray) = S := ⟨_, rfl⟩
          obtain ⟨S3, hS3⟩ : ∃ S : ByteArray, (⟨(ws.getD 3 []).toArray⟩ : ByteArray) = S := ⟨_, rfl⟩
          have HC := Lib.hid (show ∀ wx, Below w4.heap.size w4 wx → (wx.cell? ⟨bk, 1, none⟩ = some (.string S1) ∧ wx.cell? ⟨bk, 2, none⟩ = some (.string S2) ∧ wx.cell? ⟨bk, 3, none⟩ = some (.string S3)) ∧ RO wx B B A n c A2 m c2 cs1 cs2 a ∧ B ≤ wx.heap.size ∧ Below B w1 wx from fun wx hb => by
            have h1 := HRW.out.below hb
            have h2 := HN4.out
            rw [← hS1]
            rw [← hS2]
            rw [← hS3]
            have h3 : Below B w1 wx := HE4.out.trans (hb.mono (Nat.le_trans HBS.out HB4.out.size))
            exact ⟨⟨(strs_at h1 (i := 1) (by omega)).1, (strs_at h1 (i := 2) (by omega)).1, (strs_at h1 (i := 3) (by omega)).1⟩, HRO4.out.below hb, by have h4 := h3.size; rw [HB.out] at h4; exact h4, h3⟩)
          have HSS := Lib.hid (show S1.size ≤ 1000000000 ∧ S2.size ≤ 1000000000 ∧ S3.size ≤ 1000000000 from by
            have h1 : ∀ i, i < 4 → (⟨(ws.getD i []).toArray⟩ : ByteArray).size ≤ 1000000000 := fun i hi => by
              rw [size_str, List.getD_eq_getElem?_getD, List.getElem?_eq_getElem (by have := HN4.out; omega)]
              exact HWL.out _ (List.getElem_mem _)
            rw [← hS1, ← hS2, ← hS3]
            exact ⟨h1 1 (by omega), h1 2 (by omega), h1 3 (by omega)⟩)
          have HD1 := Lib.hid (show S1.data.toList = ws.getD 1 [] by rw [← hS1])
          have HD2 := Lib.hid (show S2.data.toList = ws.getD 2 [] by rw [← hS2])
          have HD3 := Lib.hid (show S3.data.toList = ws.getD 3 [] by rw [← hS3])
          obtain ⟨ti, hti, htz, hts, htb⟩ := hit_info
          obtain ⟨⟨a1, a2, a3⟩, _⟩ := HC.out w4 (Below.refl _ _)
          have C2 := Lib.hid (r_value S1 w4 HSS.out.1)
          obtain ⟨v1, hv1⟩ : ∃ v, valN S1.data.toList = v := ⟨_, rfl⟩
          obtain ⟨v2, hv2⟩ : ∃ v, parseP S2.data.toList = v := ⟨_, rfl⟩
          obtain ⟨v3, hv3⟩ : ∃ v, valN S3.data.toList = v := ⟨_, rfl⟩
          obtain ⟨x1, hx1⟩ : ∃ v, v1.getD 0 = v := ⟨_, rfl⟩
          obtain ⟨L, hL⟩ : ∃ v, v2.getD [] = v := ⟨_, rfl⟩
          obtain ⟨x3, hx3⟩ : ∃ v, v3.getD 0 = v := ⟨_, rfl⟩
          obtain ⟨o1, ho1⟩ : ∃ v, v1.isSome = v := ⟨_, rfl⟩
          obtain ⟨o2, ho2⟩ : ∃ v, v2.isSome = v := ⟨_, rfl⟩
          obtain ⟨o3, ho3⟩ : ∃ v, v3.isSome = v := ⟨_, rfl⟩
          have HV := Lib.hid (show (valN S1.data.toList = v1 ∧ v1.getD 0 = x1 ∧ v1.isSome = o1) ∧ (parseP S2.data.toList = v2 ∧ v2.getD [] = L ∧ v2.isSome = o2) ∧ (valN S3.data.toList = v3 ∧ v3.getD 0 = x3 ∧ v3.isSome = o3) from ⟨⟨hv1, hx1, ho1⟩, ⟨hv2, hL, ho2⟩, ⟨hv3, hx3, ho3⟩⟩)
          have HHV := Lib.hid (show hitV ws = (((x1 : Nat) : Int), zs L, ((x3 : Nat) : Int)) from by unfold hitV; rw [← HD1.out, ← HD2.out, ← HD3.out, hv1, hv2, hv3, hx1, hx3, hL])
          have hHB : hitB ws = (o1 && o2 && o3) := by unfold hitB; rw [← HD1.out, ← HD2.out, ← HD3.out, hv1, hv2, hv3, ho1, ho2, ho3]
          have HL2 := Lib.hid (show L.length ≤ 1000000000000 from by
            rw [← hL, ← hv2]
            cases hp : parseP S2.data.toList with
            | none => simp
            | some p =>
              have h1 := (parseP_iff _ _).1 hp
              have h2 := txt_ge p
              rw [← h1.1] at h2
              have h3 : S2.data.toList.length ≤ 1000000000 := by rw [← Lib.size_eq]; exact HSS.out.2.1
              show p.length ≤ _
              omega)
          rw [hHB] at hl
          have HLL := Lib.hid hl
          clear hl hHB hv2 hv3 hx3 hL ho2 ho3 hS2 hS3 hS1 hv1 hx1 ho1
          have tk1 : True := trivial
          have hcs : (o1 = true ∧ o2 = true ∧ o3 = true) ∨ ((o1 && o2 && o3) = false ∧ ((o1 = true ∧ o2 = true ∧ o3 = false) ∨ (o1 = true ∧ o2 = false) ∨ o1 = false)) := by cases o1 <;> cases o2 <;> cases o3 <;> simp
          rcases hcs with ⟨rfl, rfl, rfl⟩ | ⟨hbf, hcs⟩
          · have HP := Lib.hid (show parseR s.data.toList = linesR (a.1 ++ [(((x1 : Nat) : Int), zs L, ((x3 : Nat) : Int))], a.2) (spc 10 (s.data.toList.drop (i + 1))) by rw [← hst.out.2.2.1, HLG.out, HLL.out, if_pos (by rfl), HHV.out]; rfl)
            go_wp2_with (first
              | (go_at_call 49; have _t := C4; go_must (refine C4.out.mono ?_); rintro e w7 ⟨he, hb⟩; rw [HV.out.2.2.1, HV.out.2.2.2.1, HV.out.2.2.2.2] at he; subst he; have HB7 := Lib.hid (HB6.out.trans (hb.mono HB6.out.size)); have HP7 := Lib.hid ((own_below HP6.out hb).alloc (.cells #[.int .i64 (x1 : Nat), .slice Ap np cp, .int .i64 (x3 : Nat)] 44)); obtain ⟨_, r7, r8, r9⟩ := HC.out w7 HB7.out; obtain ⟨d1, d2, dlt⟩ := r7.cells; obtain ⟨s1, s2, s3, s4⟩ := HFR.out _ r9; have hz7 : B ≤ w7.heap.size := r8; have HB7a := Lib.hid (HB7.out.trans ((Below.refl w7.heap.size w7).alloc (Nat.le_refl _) (.cells #[.int .i64 (x1 : Nat), .slice Ap np cp, .int .i64 (x3 : Nat)] 44) |>.mono HB7.out.size)); have HRO7 := Lib.hid (HC.out _ HB7a.out).2.1; have HE7a := Lib.hid (HC.out _ HB7a.out).2.2.2; have HE7 := Lib.hid r9; clear hb _t r7 r8 r9; clear C4)
              | (go_at_call 49; have _t := tk1; go_must (refine C2.out.mono ?_); rintro e w5 ⟨he, hb⟩; rw [HV.out.1.1, HV.out.1.2.1, HV.out.1.2.2] at he; subst he; have HB5 := Lib.hid hb; obtain ⟨⟨b4, b5, b6⟩, _⟩ := HC.out w5 HB5.out; have C3 := Lib.hid (r_parse S2 w5 (Nat.le_trans HSS.out.2.1 (by omega))); clear hb _t; clear tk1)
              | (go_at_call 15; go_must (refine C3.out.mono ?_); rintro e w6 ⟨Ap, np, cp, he, hb, hn, ho⟩; rw [HV.out.2.1.1, HV.out.2.1.2.2] at he; subst he; rw [HV.out.2.1.1, HV.out.2.1.2.1] at hn ho; have HB6 := Lib.hid (HB5.out.trans (hb.mono HB5.out.size)); have HP6 := Lib.hid (ho.mono (HC.out w5 HB5.out).2.2.1); have HN6 := Lib.hid hn; obtain ⟨⟨b7, b8, b9⟩, _⟩ := HC.out w6 HB6.out; have C4 := Lib.hid (r_value S3 w6 HSS.out.2.2); clear hb hn ho)
              | (at_builtin; go_must (refine wpList_append_lies _ rfl (.tmp 85) (.tmp 90) _ (by rfl) B 44 ti _ 3 40 Tryd.underlying33 hti htz hts htb rfl (by omega) _ n cs1 (by rfl) HRO7.out.2.2.2.2.1 ⟨_, 0, none⟩ 1 1 [.int .i64 (x1 : Nat), .slice Ap np cp, .int .i64 (x3 : Nat)] (by rfl) rfl (news_block w7 #[.int .i64 (x1 : Nat), .slice Ap np cp, .int .i64 (x3 : Nat)] 44) (one3 _ _ _ _ _ rfl rfl) (by omega) (by unfold maxLen; omega) (by omega) (by simp; omega) _ rfl ?_); intro g8 cap8 w8 hown8 hgrow8 hat8 hlt8; have HOW := Lib.hid hown8; have HGR := Lib.hid hgrow8; have HBL := Lib.hid (HRO7.out.blockH hgrow8); have f1 := cell_of_row w8 B 0 _ _ _ HBL.out; have f2 := frozen_of_row w8 B 0 _ _ HBL.out; clear hown8 hgrow8 hat8))
            go_roundg g
            case measure => omega
            case rel =>
              refine ⟨i + 1, i + 1, (a.1 ++ [(((x1 : Nat) : Int), zs L, ((x3 : Nat) : Int))], a.2), by omega, by go_num, by go_num, by omega, Lib.hid ⟨?_, ?_, HP.out.symm, HNX.out, ?_⟩⟩
              · exact ⟨_, _, _, _, _, _, _, _, HRO7.out.hit (x := (((x1 : Nat) : Int), zs L, ((x3 : Nat) : Int))) (by have h8 := HP7.out; rw [ints_zs] at h8; exact h8) (by have := HN6.out; have := HL2.out; omega) HOW.out HGR.out⟩
              · exact (HE7a.out.grown HGR.out (by have h := HE7a.out.size; rw [HB.out] at h; exact h) (fun k hk => (HRO7.out.2.2.2.2.1.lt k hk).1)).setCell (Nat.le_refl _) _
              · have h1 := hst.out.2.2.2.2
                dsimp only
                rw [List.length_append, List.length_singleton]
                omega
          · have HP := Lib.hid (show parseR s.data.toList = none by rw [← hst.out.2.2.1, HLG.out, HLL.out, hbf]; rfl)
            clear hbf
            rcases hcs with ⟨rfl, rfl, rfl⟩ | ⟨rfl, rfl⟩ | rfl
            all_goals go_wp2_with (first
              | (go_at_call 49; have _t := C4; go_must (refine C4.out.mono ?_); rintro e w7 ⟨he, hb⟩; rw [HV.out.2.2.1, HV.out.2.2.2.1, HV.out.2.2.2.2] at he; subst he; have HB7 := Lib.hid (HB6.out.trans (hb.mono HB6.out.size)); have HP7 := Lib.hid ((own_below HP6.out hb).alloc (.cells #[.int .i64 (x1 : Nat), .slice Ap np cp, .int .i64 (x3 : Nat)] 44)); obtain ⟨_, r7, r8, r9⟩ := HC.out w7 HB7.out; obtain ⟨d1, d2, dlt⟩ := r7.cells; obtain ⟨s1, s2, s3, s4⟩ := HFR.out _ r9; have hz7 : B ≤ w7.heap.size := r8; have HB7a := Lib.hid (HB7.out.trans ((Below.refl w7.heap.size w7).alloc (Nat.le_refl _) (.cells #[.int .i64 (x1 : Nat), .slice Ap np cp, .int .i64 (x3 : Nat)] 44) |>.mono HB7.out.size)); have HRO7 := Lib.hid (HC.out _ HB7a.out).2.1; have HE7a := Lib.hid (HC.out _ HB7a.out).2.2.2; have HE7 := Lib.hid r9; clear hb _t r7 r8 r9; clear C4)
              | (go_at_call 49; have _t := tk1; go_must (refine C2.out.mono ?_); rintro e w5 ⟨he, hb⟩; rw [HV.out.1.1, HV.out.1.2.1, HV.out.1.2.2] at he; subst he; have HB5 := Lib.hid hb; obtain ⟨⟨b4, b5, b6⟩, _⟩ := HC.out w5 HB5.out; have C3 := Lib.hid (r_parse S2 w5 (Nat.le_trans HSS.out.2.1 (by omega))); clear hb _t; clear tk1)
              | (go_at_call 15; go_must (refine C3.out.mono ?_); rintro e w6 ⟨Ap, np, cp, he, hb, hn, ho⟩; rw [HV.out.2.1.1, HV.out.2.1.2.2] at he; subst he; rw [HV.out.2.1.1, HV.out.2.1.2.1] at hn ho; have HB6 := Lib.hid (HB5.out.trans (hb.mono HB5.out.size)); have HP6 := Lib.hid (ho.mono (HC.out w5 HB5.out).2.2.1); have HN6 := Lib.hid hn; obtain ⟨⟨b7, b8, b9⟩, _⟩ := HC.out w6 HB6.out; have C4 := Lib.hid (r_value S3 w6 HSS.out.2.2); clear hb hn ho))
            all_goals
              have hbk := HRB.out _ HE7.out
              have h0 := heap_set (heap_set hbk 0 (.slice none 0 0)) 1 (.slice none 0 0)
              refine bodyPost_ret (res_cell rfl _ _ b0 _ _ _ _ rfl h0 Tryd.underlying36 (by kernel_rfl)) rfl ?_
              exact parse_end HB0.out hbk (HW1.out.trans (HE7.out.mono (by rw [← HB.out]; exact HW1.out.size))) (Nat.le_refl _) (RepV.nil _ _) (by rw [HP.out]; rfl) (by rw [HP.out]; rfl)
        · obtain rfl : nw = 3 := by have := HN4.out; omega
          have b1 : (S0.toList == [104, 105, 116]) = false := by rw [e1]; exact decide_eq_false hh
          have b2 : (S0.toList == [119, 104, 121]) = true := by rw [e2]; exact decide_eq_true hw
          clear e1 e2 hh hw h3
          obtain ⟨S2, hS2⟩ : ∃ S : ByteArray, (⟨(ws.getD 1 []).toArray⟩ : ByteArray) = S := ⟨_, rfl⟩
          obtain ⟨S3, hS3⟩ : ∃ S : ByteArray, (⟨(ws.getD 2 []).toArray⟩ : ByteArray) = S := ⟨_, rfl⟩
          have HC := Lib.hid (show ∀ wx, Below w4.heap.size w4 wx → (wx.cell? ⟨bk, 1, none⟩ = some (.string S2) ∧ wx.cell? ⟨bk, 2, none⟩ = some (.string S3)) ∧ RO wx B B A n c A2 m c2 cs1 cs2 a ∧ B ≤ wx.heap.size ∧ Below B w1 wx from fun wx hb => by
            have h1 := HRW.out.below hb
            have h2 := HN4.out
            rw [← hS2]
            rw [← hS3]
            have h3 : Below B w1 wx := HE4.out.trans (hb.mono (Nat.le_trans HBS.out HB4.out.size))
            exact ⟨⟨(strs_at h1 (i := 1) (by omega)).1, (strs_at h1 (i := 2) (by omega)).1⟩, HRO4.out.below hb, by have h4 := h3.size; rw [HB.out] at h4; exact h4, h3⟩)
          have HSS := Lib.hid (show S2.size ≤ 1000000000 ∧ S3.size ≤ 1000000000 from by
            have h1 : ∀ i, i < 3 → (⟨(ws.getD i []).toArray⟩ : ByteArray).size ≤ 1000000000 := fun i hi => by
              rw [size_str, List.getD_eq_getElem?_getD, List.getElem?_eq_getElem (by have := HN4.out; omega)]
              exact HWL.out _ (List.getElem_mem _)
            rw [← hS2, ← hS3]
            exact ⟨h1 1 (by omega), h1 2 (by omega)⟩)
          have HD2 := Lib.hid (show S2.data.toList = ws.getD 1 [] by rw [← hS2])
          have HD3 := Lib.hid (show S3.data.toList = ws.getD 2 [] by rw [← hS3])
          obtain ⟨ti, hti, htz, hts, htb⟩ := verd_info
          obtain ⟨⟨a1, a2⟩, _⟩ := HC.out w4 (Below.refl _ _)
          have C3 := Lib.hid (r_parse S2 w4 (Nat.le_trans HSS.out.1 (by omega)))
          obtain ⟨v2, hv2⟩ : ∃ v, parseP S2.data.toList = v := ⟨_, rfl⟩
          obtain ⟨v3, hv3⟩ : ∃ v, valN S3.data.toList = v := ⟨_, rfl⟩
          obtain ⟨L, hL⟩ : ∃ v, v2.getD [] = v := ⟨_, rfl⟩
          obtain ⟨x3, hx3⟩ : ∃ v, v3.getD 0 = v := ⟨_, rfl⟩
          obtain ⟨o2, ho2⟩ : ∃ v, v2.isSome = v := ⟨_, rfl⟩
          obtain ⟨o3, ho3⟩ : ∃ v, v3.isSome = v := ⟨_, rfl⟩
          have HV := Lib.hid (show (parseP S2.data.toList = v2 ∧ v2.getD [] = L ∧ v2.isSome = o2) ∧ (valN S3.data.toList = v3 ∧ v3.getD 0 = x3 ∧ v3.isSome = o3) from ⟨⟨hv2, hL, ho2⟩, ⟨hv3, hx3, ho3⟩⟩)
          have HHV := Lib.hid (show whyV ws = (zs L, ((x3 : Nat) : Int)) from by unfold whyV; rw [← HD2.out, ← HD3.out, hv2, hv3, hx3, hL])
          have hHB : whyB ws = (o2 && o3) := by unfold whyB; rw [← HD2.out, ← HD3.out, hv2, hv3, ho2, ho3]
          have HL2 := Lib.hid (show L.length ≤ 1000000000000 from by
            rw [← hL, ← hv2]
            cases hp : parseP S2.data.toList with
            | none => simp
            | some p =>
              have h1 := (parseP_iff _ _).1 hp
              have h2 := txt_ge p
              rw [← h1.1] at h2
              have h3 : S2.data.toList.length ≤ 1000000000 := by rw [← Lib.size_eq]; exact HSS.out.1
              show p.length ≤ _
              omega)
          rw [hHB] at hl
          have HLL := Lib.hid hl
          clear hl hHB hv2 hv3 hx3 hL ho2 ho3 hS2 hS3
          have hcs : (o2 = true ∧ o3 = true) ∨ ((o2 && o3) = false ∧ ((o2 = true ∧ o3 = false) ∨ o2 = false)) := by cases o2 <;> cases o3 <;> simp
          rcases hcs with ⟨rfl, rfl⟩ | ⟨hbf, hcs⟩
          · have HP := Lib.hid (show parseR s.data.toList = linesR (a.1, a.2 ++ [(zs L, ((x3 : Nat) : Int))]) (spc 10 (s.data.toList.drop (i + 1))) by rw [← hst.out.2.2.1, HLG.out, HLL.out, if_pos (by rfl), HHV.out]; rfl)
            go_wp2_with (first
              | (go_at_call 49; have _t := C4; go_must (refine C4.out.mono ?_); rintro e w7 ⟨he, hb⟩; rw [HV.out.2.1, HV.out.2.2.1, HV.out.2.2.2] at he; subst he; have HB7 := Lib.hid (HB6.out.trans (hb.mono HB6.out.size)); have HP7 := Lib.hid ((own_below HP6.out hb).alloc (.cells #[.slice Ap np cp, .int .i64 (x3 : Nat)] 68)); obtain ⟨_, r7, r8, r9⟩ := HC.out w7 HB7.out; obtain ⟨d1, d2, dlt⟩ := r7.cells; obtain ⟨s1, s2, s3, s4⟩ := HFR.out _ r9; have hz7 : B ≤ w7.heap.size := r8; have HB7a := Lib.hid (HB7.out.trans ((Below.refl w7.heap.size w7).alloc (Nat.le_refl _) (.cells #[.slice Ap np cp, .int .i64 (x3 : Nat)] 68) |>.mono HB7.out.size)); have HRO7 := Lib.hid (HC.out _ HB7a.out).2.1; have HE7a := Lib.hid (HC.out _ HB7a.out).2.2.2; have HE7 := Lib.hid r9; clear hb _t r7 r8 r9; clear C4)
              | (go_at_call 15; go_must (refine C3.out.mono ?_); rintro e w6 ⟨Ap, np, cp, he, hb, hn, ho⟩; rw [HV.out.1.1, HV.out.1.2.2] at he; subst he; rw [HV.out.1.1, HV.out.1.2.1] at hn ho; have HB6 := Lib.hid hb; have HP6 := Lib.hid (ho.mono (HC.out w4 (Below.refl _ _)).2.2.1); have HN6 := Lib.hid hn; obtain ⟨⟨b7, b8⟩, _⟩ := HC.out w6 HB6.out; have C4 := Lib.hid (r_value S3 w6 HSS.out.2); clear hb hn ho)
              | (at_builtin; go_must (refine wpList_append_lies _ rfl (.tmp 125) (.tmp 129) _ (by rfl) B 68 ti _ 2 32 Tryd.underlying34 hti htz hts htb rfl (by omega) _ m cs2 (by rfl) HRO7.out.2.2.2.2.2.2.1 ⟨_, 0, none⟩ 1 1 [.slice Ap np cp, .int .i64 (x3 : Nat)] (by rfl) rfl (news_block w7 #[.slice Ap np cp, .int .i64 (x3 : Nat)] 68) (one2 _ _ _ _ rfl) (by omega) (by unfold maxLen; omega) (by omega) (by simp; omega) _ rfl ?_); intro g8 cap8 w8 hown8 hgrow8 hat8 hlt8; have HOW := Lib.hid hown8; have HGR := Lib.hid hgrow8; have HBL := Lib.hid (HRO7.out.blockV hgrow8); have f1 := cell_of_row w8 B 1 _ _ _ HBL.out; have f2 := frozen_of_row w8 B 1 _ _ HBL.out; clear hown8 hgrow8 hat8))
            go_roundg g
            case measure => omega
            case rel =>
              refine ⟨i + 1, i + 1, (a.1, a.2 ++ [(zs L, ((x3 : Nat) : Int))]), by omega, by go_num, by go_num, by omega, Lib.hid ⟨?_, ?_, HP.out.symm, HNX.out, ?_⟩⟩
              · exact ⟨_, _, _, _, _, _, _, _, HRO7.out.verd (x := (zs L, ((x3 : Nat) : Int))) (by have h8 := HP7.out; rw [ints_zs] at h8; exact h8) (by have := HN6.out; have := HL2.out; omega) HOW.out HGR.out⟩
              · exact (HE7a.out.grown HGR.out (by have h := HE7a.out.size; rw [HB.out] at h; exact h) (fun k hk => (HRO7.out.2.2.2.2.2.2.1.lt k hk).1)).setCell (Nat.le_refl _) _
              · have h1 := hst.out.2.2.2.2
                dsimp only
                rw [List.length_append, List.length_singleton]
                omega
          · have HP := Lib.hid (show parseR s.data.toList = none by rw [← hst.out.2.2.1, HLG.out, HLL.out, hbf]; rfl)
            clear hbf
            rcases hcs with ⟨rfl, rfl⟩ | rfl
            all_goals go_wp2_with (first
              | (go_at_call 49; have _t := C4; go_must (refine C4.out.mono ?_); rintro e w7 ⟨he, hb⟩; rw [HV.out.2.1, HV.out.2.2.1, HV.out.2.2.2] at he; subst he; have HB7 := Lib.hid (HB6.out.trans (hb.mono HB6.out.size)); have HP7 := Lib.hid ((own_below HP6.out hb).alloc (.cells #[.slice Ap np cp, .int .i64 (x3 : Nat)] 68)); obtain ⟨_, r7, r8, r9⟩ := HC.out w7 HB7.out; obtain ⟨d1, d2, dlt⟩ := r7.cells; obtain ⟨s1, s2, s3, s4⟩ := HFR.out _ r9; have hz7 : B ≤ w7.heap.size := r8; have HB7a := Lib.hid (HB7.out.trans ((Below.refl w7.heap.size w7).alloc (Nat.le_refl _) (.cells #[.slice Ap np cp, .int .i64 (x3 : Nat)] 68) |>.mono HB7.out.size)); have HRO7 := Lib.hid (HC.out _ HB7a.out).2.1; have HE7a := Lib.hid (HC.out _ HB7a.out).2.2.2; have HE7 := Lib.hid r9; clear hb _t r7 r8 r9; clear C4)
              | (go_at_call 15; go_must (refine C3.out.mono ?_); rintro e w6 ⟨Ap, np, cp, he, hb, hn, ho⟩; rw [HV.out.1.1, HV.out.1.2.2] at he; subst he; rw [HV.out.1.1, HV.out.1.2.1] at hn ho; have HB6 := Lib.hid hb; have HP6 := Lib.hid (ho.mono (HC.out w4 (Below.refl _ _)).2.2.1); have HN6 := Lib.hid hn; obtain ⟨⟨b7, b8⟩, _⟩ := HC.out w6 HB6.out; have C4 := Lib.hid (r_value S3 w6 HSS.out.2); clear hb hn ho))
            all_goals
              have hbk := HRB.out _ HE7.out
              have h0 := heap_set (heap_set hbk 0 (.slice none 0 0)) 1 (.slice none 0 0)
              refine bodyPost_ret (res_cell rfl _ _ b0 _ _ _ _ rfl h0 Tryd.underlying36 (by kernel_rfl)) rfl ?_
              exact parse_end HB0.out hbk (HW1.out.trans (HE7.out.mono (by rw [← HB.out]; exact HW1.out.size))) (Nat.le_refl _) (RepV.nil _ _) (by rw [HP.out]; rfl) (by rw [HP.out]; rfl)
        · have HP := Lib.hid (show parseR s.data.toList = none by rw [← hst.out.2.2.1, HLG.out, hl]; rfl)
          have hlen := HN4.out
          have hml := HAL.out.2.1
          have hcs : ((S0.toList == [104, 105, 116]) = true ∧ (S0.toList == [119, 104, 121]) = false ∧ ((nw : Int) == 4) = false) ∨ ((S0.toList == [104, 105, 116]) = true ∧ (S0.toList == [119, 104, 121]) = false ∧ ((nw : Int) == 4) = true ∧ ((m : Int) == 0) = false) ∨ ((S0.toList == [104, 105, 116]) = false ∧ (S0.toList == [119, 104, 121]) = true ∧ ((nw : Int) == 3) = false) ∨ ((S0.toList == [104, 105, 116]) = false ∧ (S0.toList == [119, 104, 121]) = false) := by
            rw [e1, e2]
            rcases hc with ⟨q1, q2, q3⟩ | ⟨q1, q2, q3, q4⟩ | ⟨q1, q2, q3⟩ | ⟨q1, q2⟩
            · exact .inl ⟨decide_eq_true q1, decide_eq_false q2, W.eqF (by omega)⟩
            · have : a.2.length ≠ 0 := fun h => q4 (List.eq_nil_of_length_eq_zero h)
              exact .inr (.inl ⟨decide_eq_true q1, decide_eq_false q2, W.eqT (by omega), W.eqF (by omega)⟩)
            · exact .inr (.inr (.inl ⟨decide_eq_false q1, decide_eq_true q2, W.eqF (by omega)⟩))
            · exact .inr (.inr (.inr ⟨decide_eq_false q1, decide_eq_false q2⟩))
          clear e1 e2 hc hl hlen hml
          rcases hcs with ⟨b1, b2, b3⟩ | ⟨b1, b2, b3, b4⟩ | ⟨b1, b2, b3⟩ | ⟨b1, b2⟩
          all_goals go_wp2_with (fail)
          all_goals
            have hbk := HRB.out _ HE4.out
            have h0 := heap_set (heap_set hbk 0 (.slice none 0 0)) 1 (.slice none 0 0)
            refine bodyPost_ret (res_cell rfl _ _ b0 _ _ _ _ rfl h0 Tryd.underlying36 (by kernel_rfl)) rfl ?_
            exact parse_end HB0.out hbk (HW1.out.trans (HE4.out.mono (by rw [← HB.out]; exact HW1.out.size))) (Nat.le_refl _) (RepV.nil _ _) (by rw [HP.out]; rfl) (by rw [HP.out]; rfl)
      · have i2 : ((x : Int) != 10) = true := W.neT (by omega)
        have HCE := Lib.hid (show ch ≠ 10 from by rintro rfl; exact h10 HX.out.symm)
        clear h10
        go_wp2_with (fail)
        go_roundg g
        case measure => omega
        case rel => exact ⟨i + 1, f, a, by omega, by go_num, rfl, by omega, Lib.hid ⟨hst.out.1, hst.out.2.1, hst.out.2.2.1, hst.out.2.2.2.1.go HCH.out HCE.out, hst.out.2.2.2.2⟩⟩
end Go.Proofs.YtgjningfpkoooaaDoor.Ro
