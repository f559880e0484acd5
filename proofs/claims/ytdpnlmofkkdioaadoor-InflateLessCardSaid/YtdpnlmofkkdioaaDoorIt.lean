/- The inflater: length, repeat. -/
import Derived.Test.YtdpnlmofkkdioaaDoorIs
namespace Go.Proofs.YtdpnlmofkkdioaaDoor.Hf
set_option linter.unusedVariables false
set_option linter.unusedSimpArgs false
open Go.RowKit Go.Proofs.YtdpnlmofkkdioaaDoor.W

theorem rd_len {lens : List Nat} {bs bs' : List Bool} {sy how : Int} (h : RdRel lens bs sy how bs') :
    (∃ s k : Nat, dec lens bs = .got s k ∧ sy = s ∧ how = 0 ∧ bs' = bs.drop k ∧ s < 16) ∨ (∃ s k : Nat, dec lens bs = .got s k ∧ sy = s ∧ how = 0 ∧ bs' = bs.drop k ∧ 16 ≤ s) ∨
    (dec lens bs = .more ∧ sy = 0 ∧ how = 1 ∧ bs' = bs) ∨ (∃ j, dec lens bs = .bad j ∧ sy = 0 ∧ how = 2 ∧ bs' = bs) := by
  rcases h with ⟨s, k, h1, h2, h3, h4⟩ | h | h
  · rcases Nat.lt_or_ge s 16 with h6 | h6
    · exact .inl ⟨s, k, h1, h2, h3, h4, h6⟩
    · exact .inr (.inl ⟨s, k, h1, h2, h3, h4, h6⟩)
  · exact .inr (.inr (.inl h))
  · exact .inr (.inr (.inr h))
set_option maxHeartbeats 4000000 in
set_option maxRecDepth 100000 in
theorem c_len {w : World} {d r p q g : Nat} {m : M} {out : List Int} {bs : List Bool} (h : Inf w d r p q g m out bs false 0) (h0 : m.why = 0) (hph : m.ph = .len) (hl : bs.length < 64) (hok : Ok m out) :
    Calls Tryd.prog 82 #[.pointer (some ⟨d, 0, none⟩)] w (StepPost w d r p q g m out bs) := by
  obtain ⟨l, e, c, hd, hT⟩ := h.db
  obtain ⟨b0, hr, hb⟩ := h.rd
  obtain rfl := hb h0
  have hne := h.ne
  simp only [List.nodup_cons, List.mem_cons, List.not_mem_nil, or_false, not_or] at hne
  have hdr : d ∉ [r] := by simp; exact hne.1.1
  have hrd : r ∉ [d] := by simp; exact fun h => hne.1.1 h.symm
  have hpr : p ∉ [r] := by simp; exact fun h => hne.2.1.1 h.symm
  have hqr : q ∉ [r] := by simp; exact fun h => hne.2.1.2.1 h.symm
  have hpd : p ∉ [d] := by simp; exact fun h => hne.1.2.1 h.symm
  have hqd : q ∉ [d] := by simp; exact fun h => hne.1.2.2.1 h.symm
  have hrg : r ∉ [d, p, q] := by simp; exact ⟨fun h => hne.1.1 h.symm, hne.2.1.1, hne.2.1.2.1⟩
  have c0 := hd.a (i := 0) rfl
  have hlt := hd.lt
  have H := Lib.hid h
  have HD := Lib.hid hd
  have HT := Lib.hid hT
  have RG := Lib.hid h.rg
  have hC : usesC m.ph = true := by rw [hph]; rfl
  have hlo : LenOk m := by have h9 := hok.ph h0; unfold PhOk at h9; rw [hph] at h9; exact h9
  obtain ⟨tl, rfl, hTL⟩ := hT.c hC
  have c8 := hd.a (i := 10) rfl
  have HSG := Lib.hid (show ∀ s k, dec m.cd b0 = .got s k → step m out b0 = some (lenM m s, [], k) from fun s k h => by unfold step; rw [hph]; dsimp only; rw [h])
  have HSB := Lib.hid (show ∀ j, dec m.cd b0 = .bad j → step m out b0 = none from fun j h => by unfold step; rw [hph]; dsimp only; rw [h])
  have HSM := Lib.hid (show dec m.cd b0 = .more → step m out b0 = none from fun h => by unfold step; rw [hph]; dsimp only; rw [h])
  have CR := Lib.hid (c_read [d, r, p, q, g] tl r m.cd b0 w.drew hlo.tab (hTL.kept (T := []) ((Kp.refl _ _).drew) (by simp)) (hr.kept (S := []) ((Kp.refl _ _).drew) (by simp)) (by simp) hl)
  have HKD := Lib.hid (show Kp [r] w w.drew from (Kp.refl _ _).drew)
  have HLO := Lib.hid hlo
  have HOK := Lib.hid hok
  unfold ReadPost at CR
  obtain ⟨R, hR⟩ : ∃ R, m.row.length = R := ⟨_, rfl⟩
  have HRL := Lib.hid hR
  have hR3 : R ≤ 316 := by have := hok.rowl; omega
  clear h hd hT hr hTL hlo hok
  go_enter Tryd.func82, Tryd.ntmps82
  go_upto_region 1 with (fail)
  go_region_held3 (fun w' => w'.cell? ⟨d, 0, none⟩ = some (.pointer (some ⟨r, 0, none⟩)) ∧ w'.cell? ⟨d, 10, none⟩ = some (.pointer (some ⟨tl, 0, none⟩))) (first | exact ⟨c0, c8⟩ | exact ⟨g0, g8⟩)
    (first
      | (go_at_call 70; go_must (refine CR.out.mono ?_); rintro en w2 ⟨sy, how, b1, rfl, hrel, hr2, hk2⟩; have HR2 := Lib.hid hr2; have HK2 := Lib.hid (show Kp [r] w w2 from HKD.out.trans hk2); have HD2 := Lib.hid (HD.out.kept HK2.out hdr); have HT2 := Lib.hid (HT.out.kept HK2.out (by simp)); have HG2 := Lib.hid (RG.out.kept HK2.out hpr hqr); have gf := HD2.out.fz; have gl := HD2.out.lt; have g34 := HD2.out.b (j := 3) rfl; have g0 := HD2.out.a (i := 0) rfl; have g8 := HD2.out.a (i := 10) rfl; clear hr2 hk2; have HREL := Lib.hid hrel; clear hrel))
  have g11 := HD2.out.a (i := 11) rfl
  rw [hR] at g11
  clear hR
  have hrel := rd_len HREL.out
  rcases hrel with ⟨s, k, hdec, rfl, rfl, rfl, hs⟩ | ⟨s, k, hdec, rfl, rfl, rfl, hs⟩ | ⟨hdec, rfl, rfl, rfl⟩ | ⟨j, hdec, rfl, rfl, rfl⟩
  · have HI2 := Lib.hid (show Inf w2 d r p q g m out (b0.drop k) false 0 from H.out.turn (HK2.out.mono (by simp)) HD2.out HT2.out ⟨_, HR2.out, fun _ => rfl⟩ rfl)
    go_wp2_with (first
      | (go_at_call 84; go_must (refine (c_lay 1 s HI2.out h0 hC HLO.out HOK.out (by omega) (by omega)).mono ?_); rintro en w3 ⟨rfl, hi3, hk3⟩))
    go_ret
    exact hi3.fin (HSG.out s k hdec) (by unfold lenM; rw [if_pos hs]) rfl ((HK2.out.mono (by simp)).trans hk3)
  · by_cases h16 : s = 16 ∧ R = 0
    · have i1 : ((s : Int) == 16) = true := W.eqT (by omega)
      have i2 : ((R : Int) == 0) = true := W.eqT (by omega)
      have H16 := Lib.hid h16
      clear h16
      go_wp2_with (first
        | (go_at_call 56; go_must (refine (c_stop 12 HD2.out).mono ?_); rintro en w3 ⟨rfl, hd3, hk3⟩))
      go_ret
      exact H.out.done (HSG.out s k hdec) (by unfold lenM; rw [if_neg (by omega), HRL.out, if_pos H16.out]) ((HK2.out.mono (by simp)).trans (hk3.mono (by simp))) hd3 ((HT2.out.kept hk3 (by simp)).same id id rfl rfl rfl) (HR2.out.kept hk3 hrd) (fun _ => rfl) rfl
    · have FIN := Lib.hid (show ∀ w3, DB w3 d r p g l e (some ⟨tl, 0, none⟩) { m with sym := s, ph := .rep } false 0 → Kp [d] (w2.setCell ⟨d, 34, none⟩ (.int .i64 (s : Nat))) w3 → StepPost w d r p q g m out b0 (.returned (.bool true)) w3 from fun w3 hd3 hk3 => by
        have hk4 : Kp [d] w2 w3 := (kp_set (by simp) _ _).trans hk3
        exact H.out.done (HSG.out s k hdec) (by unfold lenM; rw [if_neg (by omega), HRL.out, if_neg h16]) ((HK2.out.mono (by simp)).trans (hk4.mono (by simp))) hd3 ((HT2.out.kept hk4 (by simp)).same (fun h => (by cases h)) (fun _ => hC) rfl rfl rfl) (HR2.out.kept hk4 hrd) (fun _ => rfl) rfl)
      by_cases h17 : s = 16
      · have i1 : ((s : Int) == 16) = true := W.eqT (by omega)
        have i2 : ((R : Int) == 0) = false := W.eqF (by omega)
        clear h16 h17
        go_wp2_with (first
          | (go_at_call 51; go_must (refine (c_then .rep (HD2.out.sym s)).mono ?_); rintro en w3 ⟨rfl, hd3, hk3⟩))
        go_ret
        exact FIN.out w3 hd3 hk3
      · have i1 : ((s : Int) == 16) = false := W.eqF (by omega)
        clear h16
        go_wp2_with (first
          | (go_at_call 51; go_must (refine (c_then .rep (HD2.out.sym s)).mono ?_); rintro en w3 ⟨rfl, hd3, hk3⟩))
        go_ret
        exact FIN.out w3 hd3 hk3
  · go_wp2_with (fail)
    go_ret
    exact H.out.wait HK2.out HR2.out (HSM.out hdec)
  · go_wp2_with (fail)
    go_ret
    exact H.out.wait HK2.out HR2.out (HSB.out j hdec)
set_option maxHeartbeats 8000000 in
set_option maxRecDepth 100000 in
theorem c_rep {w : World} {d r p q g : Nat} {m : M} {out : List Int} {bs : List Bool} (h : Inf w d r p q g m out bs false 0) (h0 : m.why = 0) (hph : m.ph = .rep) (hl : bs.length < 64) (hok : Ok m out) :
    Calls Tryd.prog 85 #[.pointer (some ⟨d, 0, none⟩)] w (StepPost w d r p q g m out bs) := by
  obtain ⟨l, e, c, hd, hT⟩ := h.db
  obtain ⟨b0, hr, hb⟩ := h.rd
  obtain rfl := hb h0
  have hne := h.ne
  simp only [List.nodup_cons, List.mem_cons, List.not_mem_nil, or_false, not_or] at hne
  have hdr : d ∉ [r] := by simp; exact hne.1.1
  have hrd : r ∉ [d] := by simp; exact fun h => hne.1.1 h.symm
  have hpr : p ∉ [r] := by simp; exact fun h => hne.2.1.1 h.symm
  have hqr : q ∉ [r] := by simp; exact fun h => hne.2.1.2.1 h.symm
  have hpd : p ∉ [d] := by simp; exact fun h => hne.1.2.1 h.symm
  have hqd : q ∉ [d] := by simp; exact fun h => hne.1.2.2.1 h.symm
  have hrg : r ∉ [d, p, q] := by simp; exact ⟨fun h => hne.1.1 h.symm, hne.2.1.1, hne.2.1.2.1⟩
  have c0 := hd.a (i := 0) rfl
  have hlt := hd.lt
  have H := Lib.hid h
  have HD := Lib.hid hd
  have HT := Lib.hid hT
  have RG := Lib.hid h.rg
  have hC : usesC m.ph = true := by rw [hph]; rfl
  have hpo := hok.ph h0
  unfold PhOk at hpo
  rw [hph] at hpo
  dsimp only at hpo
  obtain ⟨hlo, hsy, hrow0⟩ := hpo
  have HLO := Lib.hid hlo
  have HOK := Lib.hid hok
  have HROW := Lib.hid h.row
  have c34 := hd.b (j := 3) rfl
  have HR := Lib.hid hr
  have hcase : m.sym = 16 ∨ m.sym = 17 ∨ m.sym = 18 := by omega
  have HHH := Lib.hid h
  rcases hcase with hs | hs | hs
  · have en : repMore m.sym = 2 := by unfold repMore; rw [hs]; rfl
    have el : repLeast m.sym = 3 := by unfold repLeast; rw [hs]; rfl
    obtain ⟨R, hR⟩ : ∃ R, m.row.length = R + 1 := ⟨m.row.length - 1, by have := hrow0 hs; omega⟩
    obtain ⟨X, hX⟩ : ∃ X, m.row[R]? = some X := ⟨_, List.getElem?_eq_getElem (by omega)⟩
    have hX15 := hok.row X (List.mem_of_getElem? hX)
    have ex : repX m = X := by unfold repX; rw [if_pos hs, hR, Nat.add_sub_cancel, List.getD_eq_getElem?_getD, hX]; rfl
    have hR3 : R < 320 := by have := hok.rowl; omega
    obtain ⟨b9, o9, hA9, hb9, hc9⟩ := ints_at (own_row h.row) hX
    injection hA9 with hA9
    injection hA9 with hA9 hA10
    subst hA9 hA10
    rw [Nat.zero_add] at hc9
    have c11 := hd.a (i := 11) rfl
    rw [hR] at c11
    rw [hs] at c34
    obtain ⟨ew, ew2, ei, ei0⟩ : IntKind.i64.wrap (R : Int) = (R : Int) ∧ IntKind.i64.wrap (((R + 1 : Nat) : Int) - 1) = (R : Int) ∧ (R : Int) < ((R + 1 : Nat) : Int) ∧ 0 ≤ (R : Int) := by
      refine ⟨IntWalk.i64_in _ (by omega), ?_, by omega, by omega⟩
      rw [IntWalk.i64_in _ (by omega)]; omega
    have ei2 : (R : Int) < (R : Int) + 1 := by omega
    clear h hd hT hr hlo hok hR hX hrow0 hsy hb9 HHH
    go_enter Tryd.func85, Tryd.ntmps85
    go_upto_region 5 with (fail)
    go_quiet (fail)
    clear ew ew2 ei ei0 ei2
    go_upto_region 8 with (fail)
    have HKx := Lib.hid (show Kp [r] w (w.drewN nq) from (Kp.refl _ _).drewN _)
    have HRx := Lib.hid (HR.out.kept (S := []) ((Kp.refl _ w).drewN nq) (by simp))
    have HDx := Lib.hid (HD.out.kept HKx.out hdr)
    generalize w.drewN nq = wx at *
    have c0 := HDx.out.a (i := 0) rfl
    by_cases hle : 2 ≤ b0.length
    · have CT := Lib.hid (take_yes (n := 2) HRx.out hl (by omega) hle)
      have hv := num_take_lt b0 (n := 2)
      obtain ⟨v, hv'⟩ : ∃ v, num (b0.take 2) = v := ⟨_, rfl⟩
      have HS := Lib.hid (show step m out b0 = some (layM m (3 + v) X, [], 2) by unfold step; rw [hph]; dsimp only; rw [en, if_pos hle, el, hv', ex])
      rw [hv'] at CT hv
      have hv2 : v < 128 := by omega
      obtain ⟨U, hU⟩ : ∃ U, 3 + v = U := ⟨_, rfl⟩
      have eU : (3 : Int) + (v : Int) = (U : Int) := by omega
      have hU2 : U ≤ 200 := by omega
      rw [hU] at HS
      clear hv' en el ex hs hU
      go_wp2_with (first
        | (go_at_call 49; go_must (refine CT.out.mono ?_); rintro en w2 ⟨rfl, hr2, hk2⟩; have HR2 := Lib.hid hr2; have HK2 := Lib.hid (show Kp [r] w w2 from HKx.out.trans hk2); have HD2 := Lib.hid (HD.out.kept HK2.out hdr); have HT2 := Lib.hid (HT.out.kept HK2.out (by simp)); have HI2 := Lib.hid (show Inf w2 d r p q g m out (b0.drop 2) false 0 from H.out.turn (HK2.out.mono (by simp)) HD2.out HT2.out ⟨_, HR2.out, fun _ => rfl⟩ rfl); clear hr2 hk2)
        | (go_at_call 84; go_must (refine (c_lay U X HI2.out h0 hC HLO.out HOK.out (by omega) hU2).mono ?_); rintro en w3 ⟨rfl, hi3, hk3⟩))
      go_ret
      exact hi3.fin HS.out rfl rfl ((HK2.out.mono (by simp)).trans hk3)
    · have CT := Lib.hid (take_no (n := 2) HRx.out hl (by omega) hle)
      have HS := Lib.hid (show step m out b0 = none by unfold step; rw [hph]; dsimp only; rw [en, if_neg hle])
      clear en el ex hs
      go_wp2_with (first
        | (go_at_call 49; go_must (refine CT.out.mono ?_); rintro en w2 ⟨rfl, hr2, hk2⟩))
      go_ret
      exact H.out.wait (HKx.out.trans hk2) hr2 HS.out
  · have en : repMore m.sym = 3 := by unfold repMore; rw [hs]; rfl
    have el : repLeast m.sym = 3 := by unfold repLeast; rw [hs]; rfl
    have ex : repX m = 0 := by unfold repX; rw [if_neg (by omega)]
    rw [hs] at c34
    have HKx := Lib.hid (show Kp [r] w w from Kp.refl _ _)
    have HRx := Lib.hid hr
    clear h hd hT hr hlo hok hrow0 hsy HHH
    go_enter Tryd.func85, Tryd.ntmps85
    go_upto_region 8 with (fail)
    by_cases hle : 3 ≤ b0.length
    · have CT := Lib.hid (take_yes (n := 3) HRx.out hl (by omega) hle)
      have hv := num_take_lt b0 (n := 3)
      obtain ⟨v, hv'⟩ : ∃ v, num (b0.take 3) = v := ⟨_, rfl⟩
      have HS := Lib.hid (show step m out b0 = some (layM m (3 + v) 0, [], 3) by unfold step; rw [hph]; dsimp only; rw [en, if_pos hle, el, hv', ex])
      rw [hv'] at CT hv
      have hv2 : v < 128 := by omega
      obtain ⟨U, hU⟩ : ∃ U, 3 + v = U := ⟨_, rfl⟩
      have eU : (3 : Int) + (v : Int) = (U : Int) := by omega
      have hU2 : U ≤ 200 := by omega
      rw [hU] at HS
      clear hv' en el ex hs hU
      go_wp2_with (first
        | (go_at_call 49; go_must (refine CT.out.mono ?_); rintro en w2 ⟨rfl, hr2, hk2⟩; have HR2 := Lib.hid hr2; have HK2 := Lib.hid (show Kp [r] w w2 from HKx.out.trans hk2); have HD2 := Lib.hid (HD.out.kept HK2.out hdr); have HT2 := Lib.hid (HT.out.kept HK2.out (by simp)); have HI2 := Lib.hid (show Inf w2 d r p q g m out (b0.drop 3) false 0 from H.out.turn (HK2.out.mono (by simp)) HD2.out HT2.out ⟨_, HR2.out, fun _ => rfl⟩ rfl); clear hr2 hk2)
        | (go_at_call 84; go_must (refine (c_lay U 0 HI2.out h0 hC HLO.out HOK.out (by omega) hU2).mono ?_); rintro en w3 ⟨rfl, hi3, hk3⟩))
      go_ret
      exact hi3.fin HS.out rfl rfl ((HK2.out.mono (by simp)).trans hk3)
    · have CT := Lib.hid (take_no (n := 3) HRx.out hl (by omega) hle)
      have HS := Lib.hid (show step m out b0 = none by unfold step; rw [hph]; dsimp only; rw [en, if_neg hle])
      clear en el ex hs
      go_wp2_with (first
        | (go_at_call 49; go_must (refine CT.out.mono ?_); rintro en w2 ⟨rfl, hr2, hk2⟩))
      go_ret
      exact H.out.wait (HKx.out.trans hk2) hr2 HS.out
  · have en : repMore m.sym = 7 := by unfold repMore; rw [hs]; rfl
    have el : repLeast m.sym = 11 := by unfold repLeast; rw [hs]; rfl
    have ex : repX m = 0 := by unfold repX; rw [if_neg (by omega)]
    rw [hs] at c34
    have HKx := Lib.hid (show Kp [r] w w from Kp.refl _ _)
    have HRx := Lib.hid hr
    clear h hd hT hr hlo hok hrow0 hsy HHH
    go_enter Tryd.func85, Tryd.ntmps85
    go_upto_region 8 with (fail)
    by_cases hle : 7 ≤ b0.length
    · have CT := Lib.hid (take_yes (n := 7) HRx.out hl (by omega) hle)
      have hv := num_take_lt b0 (n := 7)
      obtain ⟨v, hv'⟩ : ∃ v, num (b0.take 7) = v := ⟨_, rfl⟩
      have HS := Lib.hid (show step m out b0 = some (layM m (11 + v) 0, [], 7) by unfold step; rw [hph]; dsimp only; rw [en, if_pos hle, el, hv', ex])
      rw [hv'] at CT hv
      have hv2 : v < 128 := by omega
      obtain ⟨U, hU⟩ : ∃ U, 11 + v = U := ⟨_, rfl⟩
      have eU : (11 : Int) + (v : Int) = (U : Int) := by omega
      have hU2 : U ≤ 200 := by omega
      rw [hU] at HS
      clear hv' en el ex hs hU
      go_wp2_with (first
        | (go_at_call 49; go_must (refine CT.out.mono ?_); rintro en w2 ⟨rfl, hr2, hk2⟩; have HR2 := Lib.hid hr2; have HK2 := Lib.hid (show Kp [r] w w2 from HKx.out.trans hk2); have HD2 := Lib.hid (HD.out.kept HK2.out hdr); have HT2 := Lib.hid (HT.out.kept HK2.out (by simp)); have HI2 := Lib.hid (show Inf w2 d r p q g m out (b0.drop 7) false 0 from H.out.turn (HK2.out.mono (by simp)) HD2.out HT2.out ⟨_, HR2.out, fun _ => rfl⟩ rfl); clear hr2 hk2)
        | (go_at_call 84; go_must (refine (c_lay U 0 HI2.out h0 hC HLO.out HOK.out (by omega) hU2).mono ?_); rintro en w3 ⟨rfl, hi3, hk3⟩))
      go_ret
      exact hi3.fin HS.out rfl rfl ((HK2.out.mono (by simp)).trans hk3)
    · have CT := Lib.hid (take_no (n := 7) HRx.out hl (by omega) hle)
      have HS := Lib.hid (show step m out b0 = none by unfold step; rw [hph]; dsimp only; rw [en, if_neg hle])
      clear en el ex hs
      go_wp2_with (first
        | (go_at_call 49; go_must (refine CT.out.mono ?_); rintro en w2 ⟨rfl, hr2, hk2⟩))
      go_ret
      exact H.out.wait (HKx.out.trans hk2) hr2 HS.out
end Go.Proofs.YtdpnlmofkkdioaaDoor.Hf
