/- The inflater: the lengths of lengths. -/
import Derived.Test.YtdpnlmofkkdioaaDoorIt
namespace Go.Proofs.YtdpnlmofkkdioaaDoor.Hf
set_option linter.unusedVariables false
set_option linter.unusedSimpArgs false
open Go.RowKit Go.Proofs.YtdpnlmofkkdioaaDoor.W

theorem newOk_full {ls : List Nat} (h : kraft ls = 32768) : newOk ls = true := by
  unfold newOk
  rw [h]
  rfl
theorem Inf.turnW {w w' : World} {d r p q g : Nat} {l e c : Option Addr} {m m' : M} {out : List Int} {bs bs' : List Bool} {rdy rdy' : Bool} {o o' : Int} (h : Inf w d r p q g m out bs rdy o) (hk : Kp [d, r] w w') (hd : DB w' d r p g l e c m' rdy' o') (hT : Tbs w' [d, r, p, q, g] l e c m') (hr : ∃ b0, Rd w' r b0 ∧ (m'.why = 0 → b0 = bs'))
    (hrow : w'.ownsRow 0 3 1 (.slice (some ⟨g, 0, none⟩) m.row.length 320) m.row.length (ints m.row) → w'.ownsRow 0 3 1 (.slice (some ⟨g, 0, none⟩) m'.row.length 320) m'.row.length (ints m'.row)) : Inf w' d r p q g m' out bs' rdy' o' := by
  have hne := h.ne
  simp only [List.nodup_cons, List.mem_cons, List.not_mem_nil, or_false, not_or] at hne
  obtain ⟨⟨n1, n2, n3, n4⟩, ⟨n5, n6, n7⟩, ⟨n8, n9⟩, n10, _⟩ := hne
  refine ⟨⟨l, e, c, hd, hT⟩, hr, h.rg.kept hk ?_ ?_, hrow (own_kp h.row hk ?_), h.ne⟩
  · simp; exact ⟨fun h => n2 h.symm, fun h => n5 h.symm⟩
  · simp; exact ⟨fun h => n3 h.symm, fun h => n6 h.symm⟩
  · simp; exact ⟨fun h => n4 h.symm, fun h => n7 h.symm⟩
theorem fl_row {w : World} {d r p g : Nat} {l e c : Option Addr} {m : M} {rdy : Bool} {o : Int} (h : DB w d r p g l e c m rdy o) : RV w (some ⟨d, 12, none⟩) (ints m.fl) := fun i v hv => by
  obtain ⟨n, hn, rfl⟩ : ∃ n, m.fl[i]? = some n ∧ v = .int .i64 (n : Nat) := by
    unfold ints at hv
    rw [List.getElem?_map] at hv
    cases h9 : m.fl[i]? with
    | none => rw [h9] at hv; cases hv
    | some n => rw [h9] at hv; injection hv with hv; exact ⟨n, rfl, hv.symm⟩
  exact ⟨d, 12, rfl, h.lt, h.f hn⟩
set_option maxHeartbeats 8000000 in
set_option maxRecDepth 100000 in
theorem c_lol {w : World} {d r p q g : Nat} {m : M} {out : List Int} {bs : List Bool} (h : Inf w d r p q g m out bs false 0) (h0 : m.why = 0) (hph : m.ph = .lol) (hl : bs.length < 64) (hok : Ok m out) (hG : Gt w [d, r, p, q, g]) :
    Calls Tryd.prog 74 #[.pointer (some ⟨d, 0, none⟩)] w (StepPost w d r p q g m out bs) := by
  obtain ⟨l, e, c, hd, hT⟩ := h.db
  obtain ⟨b0, hr, hb⟩ := h.rd
  obtain rfl := hb h0
  have hne := h.ne
  simp only [List.nodup_cons, List.mem_cons, List.not_mem_nil, or_false, not_or] at hne
  have hdr : d ∉ [r] := by simp; exact hne.1.1
  have hrd : r ∉ [d] := by simp; exact fun h => hne.1.1 h.symm
  have c0 := hd.a (i := 0) rfl
  have hlt := hd.lt
  have H := Lib.hid h
  have HD := Lib.hid hd
  have HT := Lib.hid hT
  have hpo := hok.ph h0
  unfold PhOk at hpo
  rw [hph] at hpo
  dsimp only at hpo
  have HG := Lib.hid hG
  by_cases hle : 3 ≤ b0.length
  · have CT := Lib.hid (take_yes hr hl (by omega) hle)
    have hv := num_take_lt b0 (n := 3)
    obtain ⟨v, hv'⟩ : ∃ v, num (b0.take 3) = v := ⟨_, rfl⟩
    rw [hv'] at CT hv
    have HS := Lib.hid (show step m out b0 = some (lolM m v, [], 3) by unfold step; rw [hph]; dsimp only; rw [if_pos hle, hv'])
    obtain ⟨O, hO⟩ : ∃ O, m.order = O := ⟨_, rfl⟩
    obtain ⟨L, hL⟩ : ∃ L, m.left = L := ⟨_, rfl⟩
    have hOL : O < L ∧ L ≤ 19 := by omega
    obtain ⟨k, hk⟩ : ∃ k, ord[O]? = some k := ⟨_, List.getElem?_eq_getElem (by show O < 19; omega)⟩
    have hk19 : k < 19 := by
      have hall : ∀ x ∈ ord, x < 19 := by decide
      exact hall k (List.mem_of_getElem? hk)
    obtain ⟨y, hy⟩ : ∃ y, m.fl[k]? = some y := ⟨_, List.getElem?_eq_getElem (by rw [HD.out.fl]; exact hk19)⟩
    have HM := Lib.hid (show lolM m v = if O + 1 < L then { m with fl := m.fl.set k v, order := O + 1 } else if kraft (m.fl.set k v) = 32768 then { m with fl := m.fl.set k v, order := O + 1, cd := m.fl.set k v, row := [], ph := .len } else stopM { m with fl := m.fl.set k v, order := O + 1 } 12 by unfold lolM; rw [hO, hL, show ord.getD O 0 = k by rw [List.getD_eq_getElem?_getD, hk]; rfl])
    have hfl7 : ∀ x ∈ m.fl.set k v, x ≤ 7 := fun x hx => mem_set_le hok.fl (by omega) hx
    have hfll : (m.fl.set k v).length = 19 := by rw [List.length_set]; exact HD.out.fl
    have HFL7 := Lib.hid hfl7
    have HFLL := Lib.hid hfll
    have HKK := Lib.hid hk
    have HYY := Lib.hid hy
    have HOO := Lib.hid hO
    have HLL := Lib.hid hL
    have i1 : (O : Int) < 19 := by omega
    have i2 : (k : Int) < 19 := by omega
    have hv3 : v < 8 := by omega
    clear hv' h hd hT hr hfl7 hfll hk hy hok hpo hO hL
    go_enter Tryd.func74, Tryd.ntmps74
    go_upto_region 4 with (first
      | (go_at_call 49; go_must (refine CT.out.mono ?_); rintro en w2 ⟨rfl, hr2, hk2⟩; have HR2 := Lib.hid hr2; have HK2 := Lib.hid hk2; have HD2 := Lib.hid (HD.out.kept hk2 hdr); have g33 := HD2.out.b (j := 2) rfl; rw [HOO.out] at g33; have gk := HD2.out.f HYY.out; have HG2 := Lib.hid (HG.out.kept HK2.out (by simp)); have gt := HG2.out.t2 O k HKK.out; have gf := HD2.out.fz; have gl := HD2.out.lt; clear hr2 hk2))
    go_still_tail 12, (by kernel_rfl)
    change wpList _ _ _ _ _ w2.drew
    have HD3 := Lib.hid HD2.out.drew
    have HK3 := Lib.hid (show Kp [d] w2 w2.drew from (Kp.refl _ _).drew)
    have gk : w2.drew.cell? ⟨d, 12 + k, none⟩ = some (.int .i64 (y : Nat)) := gk
    have gf : ∀ i, w2.drew.frozen? ⟨d, i, none⟩ = false := gf
    have gl : d < w2.drew.heap.size := gl
    clear g33 gt
    generalize w2.drew = w3 at *
    go_upto_region 5 with (fail)
    have HD4 := Lib.hid (HD3.out.setF (i := k) (by omega) v)
    have HK4 := Lib.hid (show Kp [d] w3 (w3.setCell ⟨d, 12 + k, none⟩ (.int .i64 (v : Nat))) from kp_set (by simp) _ _)
    generalize w3.setCell ⟨d, 12 + k, none⟩ (.int .i64 (v : Nat)) = w4 at *
    clear gk gf gl
    have c33 := HD4.out.b (j := 2) rfl
    dsimp only at c33
    rw [HOO.out] at c33
    have cf := HD4.out.fz
    have cl := HD4.out.lt
    obtain ⟨O1, hO1⟩ : ∃ O1, O + 1 = O1 := ⟨_, rfl⟩
    have eO : (O : Int) + 1 = (O1 : Int) := by omega
    go_upto_region 6 with (fail)
    have HD5 := Lib.hid (show DB (w4.setCell ⟨d, 33, none⟩ (.int .i64 (O1 : Nat))) d r p g l e c { m with fl := m.fl.set k v, order := O1 } false 0 from HD4.out.order O1)
    have HK5 := Lib.hid (show Kp [d] w4 (w4.setCell ⟨d, 33, none⟩ (.int .i64 (O1 : Nat))) from kp_set (by simp) _ _)
    generalize w4.setCell ⟨d, 33, none⟩ (.int .i64 (O1 : Nat)) = w5 at *
    clear c33 cf cl eO
    have c33 := HD5.out.b (j := 2) rfl
    dsimp only at c33
    have c35 := HD5.out.b (j := 4) rfl
    dsimp only at c35
    rw [HLL.out] at c35
    have c5l := HD5.out.lt
    rw [hO1] at HM
    have HKW := Lib.hid (show Kp [d, r] w w5 from (HK2.out.mono (by simp)).trans (((HK3.out.trans HK4.out).trans HK5.out).mono (by simp)))
    have HKW2 := Lib.hid (show Kp [d] w2 w5 from (HK3.out.trans HK4.out).trans HK5.out)
    by_cases hs : O1 < L
    · have d1 : decide ((O1 : Int) < (L : Int)) = true := W.decT (Int.ofNat_lt.2 hs)
      have d1' : decide (O1 < L) = true := W.decT hs
      go_quiet (fail)
      go_wp2_with (fail)
      go_ret
      have hk6 : Kp [] w5 (w5.drewN nq) := (Kp.refl _ _).drewN _
      exact H.out.done HS.out (by rw [HM.out, if_pos hs]) (HKW.out.trans (hk6.mono (by simp))) (HD5.out.kept hk6 (by simp)) (Tbs.none (by show usesT m.ph = false; rw [hph]; rfl) (by show usesC m.ph = false; rw [hph]; rfl)) ((HR2.out.kept HKW2.out hrd).kept hk6 (by simp)) (fun _ => rfl) rfl
    · have d1 : decide ((O1 : Int) < (L : Int)) = false := W.decF (fun h => hs (Int.ofNat_lt.1 h))
      have d1' : decide (O1 < L) = false := W.decF hs
      go_quiet (fail)
      go_upto_region 8 with (fail)
      have HK6 := Lib.hid (show Kp [d] w2 (w5.drewN nq) from HKW2.out.trans ((Kp.refl _ _).drewN _))
      have HKX := Lib.hid (show Kp [d, r] w (w5.drewN nq) from HKW.out.trans ((Kp.refl _ _).drewN _))
      have HD6 := Lib.hid (HD5.out.kept (S := []) ((Kp.refl _ w5).drewN nq) (by simp))
      clear c33 c35 c5l d1 d1'
      generalize w5.drewN nq = w6 at *
      have CK := c_kraft (some ⟨d, 12, none⟩) 19 19 (m.fl.set k v) w6 HFLL.out (by omega) (fun x hx => by have := HFL7.out x hx; omega) (fl_row HD6.out)
      unfold KraftPost at CK
      have CK := Lib.hid CK
      have c6l := HD6.out.lt
      obtain ⟨K, hK⟩ : ∃ K, kraft (m.fl.set k v) = K := ⟨_, rfl⟩
      rw [hK] at CK HM
      have HKK2 := Lib.hid hK
      clear hK
      by_cases hK8 : K = 32768
      · have j1 : ((K : Int) == 32768) = true := W.eqT (by omega)
        have j2 : ((K : Int) != 32768) = false := W.neF (by omega)
        have HN := Lib.hid (c_new1 (some ⟨d, 12, none⟩) 19 19 (m.fl.set k v) w6 HFLL.out (by omega) (fun x hx => by have := HFL7.out x hx; omega) (fl_row HD6.out))
        have HN8 := Lib.hid (show newOk (m.fl.set k v) = true from newOk_full (by rw [HKK2.out, hK8]))
        have HK8 := Lib.hid hK8
        have HSZ := Lib.hid (show ∀ x ∈ [d, r, p, q, g], x < w6.heap.size from fun x hx => Nat.lt_of_lt_of_le (H.out.lts x hx) HKX.out.size)
        clear hK8
        go_wp2_with (first
          | (go_at_call 76; go_must (refine CK.out.mono ?_); rintro en w7 ⟨rfl, rfl⟩)
          | (go_at_call 69; go_must (refine HN.out.mono ?_); rintro en w7 ⟨pt, er, rfl, hyes, hno, hk7⟩; have HY := Lib.hid (hyes HN8.out); have HK7 := Lib.hid hk7; clear hyes hno hk7; have HD7 := Lib.hid (HD6.out.kept HK7.out (by simp)); have g10 := HD7.out.a (i := 10) rfl; have g11 := HD7.out.a (i := 11) rfl; have gf := HD7.out.fz; have gl := HD7.out.lt)
          | (go_at_call 51; go_must (refine (c_then .len ((HD7.out.setCd pt).row [])).mono ?_); rintro en w8 ⟨rfl, hd8, hk8⟩))
        go_ret
        obtain ⟨rfl, tc, rfl, hTC⟩ := HY.out
        have HTC := hTC [d, r, p, q, g] (fun x hx => HSZ.out x hx)
        have hk9 : Kp [d] w7 w8 := ((kp_set (by simp) _ _).trans (kp_set (by simp) _ _)).trans hk8
        have hk10 : Kp [d] w2 w8 := (HK6.out.trans (HK7.out.mono (by simp))).trans hk9
        have hk11 : Kp [d, r] w w8 := (HKX.out.trans (HK7.out.mono (by simp))).trans (hk9.mono (by simp))
        have hi : Inf w8 d r p q g { m with fl := m.fl.set k v, order := O1, cd := m.fl.set k v, row := [], ph := .len } out (b0.drop 3) false 0 := by
          refine H.out.turnW (c := some ⟨tc, 0, none⟩) hk11 ⟨hd8.cells, hd8.fl⟩ ⟨fun h => (by cases h), fun h => (by cases h), fun _ => ⟨tc, rfl, HTC.kept hk9 (fun x hx => .inl (by simp at hx; simp [hx]))⟩⟩ ⟨_, HR2.out.kept hk10 hrd, fun _ => rfl⟩ (fun h => own_zero h)
        exact hi.fin HS.out (by rw [HM.out, if_neg hs, if_pos HK8.out]) rfl (hk11.mono (by simp))
      · have j1 : ((K : Int) == 32768) = false := W.eqF (by omega)
        have j2 : ((K : Int) != 32768) = true := W.neT (by omega)
        go_wp2_with (first
          | (go_at_call 76; go_must (refine CK.out.mono ?_); rintro en w7 ⟨rfl, rfl⟩)
          | (go_at_call 56; go_must (refine (c_stop 12 HD6.out).mono ?_); rintro en w8 ⟨rfl, hd8, hk8⟩))
        go_ret
        exact H.out.done HS.out (by rw [HM.out, if_neg hs, if_neg hK8]) (HKX.out.trans (hk8.mono (by simp))) hd8 (Tbs.none (by show usesT m.ph = false; rw [hph]; rfl) (by show usesC m.ph = false; rw [hph]; rfl)) ((HR2.out.kept HK6.out hrd).kept hk8 hrd) (fun _ => rfl) rfl
  · have CT := Lib.hid (take_no hr hl (by omega) hle)
    have HS := Lib.hid (show step m out b0 = none by unfold step; rw [hph]; dsimp only; rw [if_neg hle])
    clear h hd hT hr
    go_enter Tryd.func74, Tryd.ntmps74
    go_wp2_with (first
      | (go_at_call 49; go_must (refine CT.out.mono ?_); rintro en w2 ⟨rfl, hr2, hk2⟩))
    go_ret
    exact H.out.wait hk2 hr2 HS.out
end Go.Proofs.YtdpnlmofkkdioaaDoor.Hf
