/- The inflater: literal, distance, copied. -/
import Derived.Test.YtdpnlmofkkdioaaDoorIp
import Derived.Deep.RegionHeld3
namespace Go.Proofs.YtdpnlmofkkdioaaDoor.Hf
set_option linter.unusedVariables false
set_option linter.unusedSimpArgs false
open Go.RowKit Go.Proofs.YtdpnlmofkkdioaaDoor.W

theorem rd_lit {lens : List Nat} {bs bs' : List Bool} {sy how : Int} (h : RdRel lens bs sy how bs') :
    (∃ s k : Nat, dec lens bs = .got s k ∧ sy = s ∧ how = 0 ∧ bs' = bs.drop k ∧ 285 < s) ∨ (∃ s k : Nat, dec lens bs = .got s k ∧ sy = s ∧ how = 0 ∧ bs' = bs.drop k ∧ s < 256) ∨
    (∃ k : Nat, dec lens bs = .got 256 k ∧ sy = 256 ∧ how = 0 ∧ bs' = bs.drop k) ∨ (∃ t k : Nat, dec lens bs = .got (t + 257) k ∧ sy = (t : Int) + 257 ∧ how = 0 ∧ bs' = bs.drop k ∧ t ≤ 28) ∨
    (dec lens bs = .more ∧ sy = 0 ∧ how = 1 ∧ bs' = bs) ∨ (∃ j, dec lens bs = .bad j ∧ sy = 0 ∧ how = 2 ∧ bs' = bs) := by
  rcases h with ⟨s, k, h1, h2, h3, h4⟩ | h | h
  · rcases Nat.lt_trichotomy s 256 with h5 | h5 | h5
    · exact .inr (.inl ⟨s, k, h1, h2, h3, h4, h5⟩)
    · subst h5; exact .inr (.inr (.inl ⟨k, h1, h2, h3, h4⟩))
    · rcases Nat.lt_or_ge 285 s with h6 | h6
      · exact .inl ⟨s, k, h1, h2, h3, h4, h6⟩
      · obtain ⟨t, rfl⟩ : ∃ t, s = t + 257 := ⟨s - 257, by omega⟩
        exact .inr (.inr (.inr (.inl ⟨t, k, h1, by omega, h3, h4, by omega⟩)))
  · exact .inr (.inr (.inr (.inr (.inl h))))
  · exact .inr (.inr (.inr (.inr (.inr h))))
theorem rd_dst {lens : List Nat} {bs bs' : List Bool} {sy how : Int} (h : RdRel lens bs sy how bs') :
    (∃ s k : Nat, dec lens bs = .got s k ∧ sy = s ∧ how = 0 ∧ bs' = bs.drop k ∧ 29 < s) ∨ (∃ s k : Nat, dec lens bs = .got s k ∧ sy = s ∧ how = 0 ∧ bs' = bs.drop k ∧ s ≤ 29) ∨
    (dec lens bs = .more ∧ sy = 0 ∧ how = 1 ∧ bs' = bs) ∨ (∃ j, dec lens bs = .bad j ∧ sy = 0 ∧ how = 2 ∧ bs' = bs) := by
  rcases h with ⟨s, k, h1, h2, h3, h4⟩ | h | h
  · rcases Nat.lt_or_ge 29 s with h6 | h6
    · exact .inl ⟨s, k, h1, h2, h3, h4, h6⟩
    · exact .inr (.inl ⟨s, k, h1, h2, h3, h4, h6⟩)
  · exact .inr (.inr (.inl h))
  · exact .inr (.inr (.inr h))
set_option maxHeartbeats 4000000 in
set_option maxRecDepth 100000 in
theorem c_lit {w : World} {d r p q g : Nat} {m : M} {out : List Int} {bs : List Bool} (h : Inf w d r p q g m out bs false 0) (h0 : m.why = 0) (hph : m.ph = .lit) (hl : bs.length < 64) (ht : Tab m.lt) :
    Calls Tryd.prog 54 #[.pointer (some ⟨d, 0, none⟩)] w (StepPost w d r p q g m out bs) := by
  obtain ⟨l, e, c, hd, hT⟩ := h.db
  obtain ⟨b0, hr, hb⟩ := h.rd
  obtain rfl := hb h0
  have hne := h.ne
  simp only [List.nodup_cons, List.mem_cons, List.not_mem_nil, or_false, not_or] at hne
  have hdr : d ∉ [r] := by simp; exact hne.1.1
  have hrd : r ∉ [d] := by simp; exact fun h => hne.1.1 h.symm
  have hpr : p ∉ [r] := by simp; exact fun h => hne.2.1.1 h.symm
  have hqr : q ∉ [r] := by simp; exact fun h => hne.2.1.2.1 h.symm
  have hpd : p ∉ [d] := by simp; exact fun h => hne.1.2.1 h.symm
  have hqd : q ∉ [d] := by simp; exact fun h => hne.1.2.2.1 h.symm
  have hrg : r ∉ [d, p, q] := by simp; exact ⟨fun h => hne.1.1 h.symm, hne.2.1.1, hne.2.1.2.1⟩
  have c0 := hd.a (i := 0) rfl
  have hlt := hd.lt
  have H := Lib.hid h
  have HD := Lib.hid hd
  have HT := Lib.hid hT
  have RG := Lib.hid h.rg
  have hu : usesT m.ph = true := by rw [hph]; rfl
  obtain ⟨tl, rfl, hTL⟩ := hT.l hu
  have c8 := hd.a (i := 8) rfl
  have HSG := Lib.hid (show ∀ s k, dec m.lt b0 = .got s k → step m out b0 = some (litM m s k) from fun s k h => by unfold step; rw [hph]; dsimp only; rw [h])
  have HSB := Lib.hid (show ∀ j, dec m.lt b0 = .bad j → step m out b0 = some (stopM m 13, [], j) from fun j h => by unfold step; rw [hph]; dsimp only; rw [h])
  have HSM := Lib.hid (show dec m.lt b0 = .more → step m out b0 = none from fun h => by unfold step; rw [hph]; dsimp only; rw [h])
  have CR := Lib.hid (c_read [d, r, p, q, g] tl r m.lt b0 w.drew ht (hTL.kept (T := []) ((Kp.refl _ _).drew) (by simp)) (hr.kept (S := []) ((Kp.refl _ _).drew) (by simp)) (by simp) hl)
  have HKD := Lib.hid (show Kp [r] w w.drew from (Kp.refl _ _).drew)
  unfold ReadPost at CR
  clear h hd hT hr hTL
  go_enter Tryd.func54, Tryd.ntmps54
  go_upto_region 1 with (fail)
  go_region_held3 (fun w' => w'.cell? ⟨d, 0, none⟩ = some (.pointer (some ⟨r, 0, none⟩)) ∧ w'.cell? ⟨d, 8, none⟩ = some (.pointer (some ⟨tl, 0, none⟩))) (first | exact ⟨c0, c8⟩ | exact ⟨g0, g8⟩)
    (first
      | (go_at_call 70; go_must (refine CR.out.mono ?_); rintro en w2 ⟨sy, how, b1, rfl, hrel, hr2, hk2⟩; have HR2 := Lib.hid hr2; have HK2 := Lib.hid (show Kp [r] w w2 from HKD.out.trans hk2); have HD2 := Lib.hid (HD.out.kept HK2.out hdr); have HT2 := Lib.hid (HT.out.kept HK2.out (by simp)); have HG2 := Lib.hid (RG.out.kept HK2.out hpr hqr); have gf := HD2.out.fz; have gl := HD2.out.lt; have g34 := HD2.out.b (j := 3) rfl; have g0 := HD2.out.a (i := 0) rfl; have g8 := HD2.out.a (i := 8) rfl; clear hr2 hk2; have HREL := Lib.hid hrel; clear hrel))
  have hrel := rd_lit HREL.out
  rcases hrel with ⟨s, k, hdec, rfl, rfl, rfl, hs⟩ | ⟨s, k, hdec, rfl, rfl, rfl, hs⟩ | ⟨k, hdec, rfl, rfl, rfl⟩ | ⟨s, k, hdec, rfl, rfl, rfl, hs⟩ | ⟨hdec, rfl, rfl, rfl⟩ | ⟨j, hdec, rfl, rfl, rfl⟩
  all_goals go_wp2_with (first
    | (go_at_call 56; go_must (refine (c_stop 13 HD2.out).mono ?_); rintro en w3 ⟨rfl, hd3, hk3⟩)
    | (go_at_call 71; go_must (refine (c_give (s : Int) HD2.out HG2.out (by omega) (by omega) (by omega) hne.1.2.1 hne.1.2.2.1).mono ?_); rintro en w3 ⟨rfl, hd3, hg3, hk3⟩)
    | (go_at_call 72; go_must (refine (c_over HD2.out).mono ?_); rintro en w3 ⟨rfl, hd3, hk3⟩)
    | (go_at_call 51; go_must (refine (c_then .lbits (HD2.out.sym s)).mono ?_); rintro en w3 ⟨rfl, hd3, hk3⟩))
  · go_ret
    exact H.out.done (HSG.out s k hdec) (by unfold litM; rw [if_pos hs]) ((HK2.out.mono (by simp)).trans (hk3.mono (by simp))) hd3 ((HT2.out.kept hk3 (by simp)).same id id rfl rfl rfl) (HR2.out.kept hk3 hrd) (fun _ => rfl) rfl
  · go_ret
    exact H.out.gave (HSG.out s k hdec) (by unfold litM; rw [if_neg (by omega), if_pos hs]) ((HK2.out.mono (by simp)).trans (hk3.mono (by simp))) hd3 ((HT2.out.kept hk3 (by simp)).same id id rfl rfl rfl) (HR2.out.kept hk3 hrg) (fun _ => rfl) hg3 rfl
  · go_ret
    exact H.out.done (HSG.out 256 k hdec) (by unfold litM; rw [if_neg (by omega), if_neg (by omega), if_pos rfl]) ((HK2.out.mono (by simp)).trans (hk3.mono (by simp))) hd3 (Tbs.none rfl rfl) (HR2.out.kept hk3 hrd) (fun _ => rfl) rfl
  · go_ret
    have hk4 : Kp [d] w2 w3 := (kp_set (by simp) _ _).trans hk3
    exact H.out.done (HSG.out (s + 257) k hdec) (by unfold litM; rw [if_neg (by omega), if_neg (by omega), if_neg (by omega), Nat.add_sub_cancel]) ((HK2.out.mono (by simp)).trans (hk4.mono (by simp))) hd3 ((HT2.out.kept hk4 (by simp)).same (fun _ => hu) (fun h => (by cases h)) rfl rfl rfl) (HR2.out.kept hk4 hrd) (fun _ => rfl) rfl
  · go_ret
    exact H.out.wait HK2.out HR2.out (HSM.out hdec)
  · go_ret
    exact H.out.done (HSB.out j hdec) rfl ((HK2.out.mono (by simp)).trans (hk3.mono (by simp))) hd3 ((HT2.out.kept hk3 (by simp)).same id id rfl rfl rfl) (HR2.out.kept hk3 hrd) (fun h => (by cases h)) rfl
set_option maxHeartbeats 4000000 in
set_option maxRecDepth 100000 in
theorem c_dst {w : World} {d r p q g : Nat} {m : M} {out : List Int} {bs : List Bool} (h : Inf w d r p q g m out bs false 0) (h0 : m.why = 0) (hph : m.ph = .dst) (hl : bs.length < 64) (ht : Tab m.ds) :
    Calls Tryd.prog 81 #[.pointer (some ⟨d, 0, none⟩)] w (StepPost w d r p q g m out bs) := by
  obtain ⟨l, e, c, hd, hT⟩ := h.db
  obtain ⟨b0, hr, hb⟩ := h.rd
  obtain rfl := hb h0
  have hne := h.ne
  simp only [List.nodup_cons, List.mem_cons, List.not_mem_nil, or_false, not_or] at hne
  have hdr : d ∉ [r] := by simp; exact hne.1.1
  have hrd : r ∉ [d] := by simp; exact fun h => hne.1.1 h.symm
  have hpr : p ∉ [r] := by simp; exact fun h => hne.2.1.1 h.symm
  have hqr : q ∉ [r] := by simp; exact fun h => hne.2.1.2.1 h.symm
  have hpd : p ∉ [d] := by simp; exact fun h => hne.1.2.1 h.symm
  have hqd : q ∉ [d] := by simp; exact fun h => hne.1.2.2.1 h.symm
  have hrg : r ∉ [d, p, q] := by simp; exact ⟨fun h => hne.1.1 h.symm, hne.2.1.1, hne.2.1.2.1⟩
  have c0 := hd.a (i := 0) rfl
  have hlt := hd.lt
  have H := Lib.hid h
  have HD := Lib.hid hd
  have HT := Lib.hid hT
  have RG := Lib.hid h.rg
  have hu : usesT m.ph = true := by rw [hph]; rfl
  obtain ⟨tl, rfl, hTL⟩ := hT.e hu
  have c8 := hd.a (i := 9) rfl
  have HSG := Lib.hid (show ∀ s k, dec m.ds b0 = .got s k → step m out b0 = some (dstM m s, [], k) from fun s k h => by unfold step; rw [hph]; dsimp only; rw [h])
  have HSB := Lib.hid (show ∀ j, dec m.ds b0 = .bad j → step m out b0 = some (stopM m 13, [], j) from fun j h => by unfold step; rw [hph]; dsimp only; rw [h])
  have HSM := Lib.hid (show dec m.ds b0 = .more → step m out b0 = none from fun h => by unfold step; rw [hph]; dsimp only; rw [h])
  have CR := Lib.hid (c_read [d, r, p, q, g] tl r m.ds b0 w.drew ht (hTL.kept (T := []) ((Kp.refl _ _).drew) (by simp)) (hr.kept (S := []) ((Kp.refl _ _).drew) (by simp)) (by simp) hl)
  have HKD := Lib.hid (show Kp [r] w w.drew from (Kp.refl _ _).drew)
  unfold ReadPost at CR
  clear h hd hT hr hTL
  go_enter Tryd.func81, Tryd.ntmps81
  go_upto_region 1 with (fail)
  go_region_held3 (fun w' => w'.cell? ⟨d, 0, none⟩ = some (.pointer (some ⟨r, 0, none⟩)) ∧ w'.cell? ⟨d, 9, none⟩ = some (.pointer (some ⟨tl, 0, none⟩))) (first | exact ⟨c0, c8⟩ | exact ⟨g0, g8⟩)
    (first
      | (go_at_call 70; go_must (refine CR.out.mono ?_); rintro en w2 ⟨sy, how, b1, rfl, hrel, hr2, hk2⟩; have HR2 := Lib.hid hr2; have HK2 := Lib.hid (show Kp [r] w w2 from HKD.out.trans hk2); have HD2 := Lib.hid (HD.out.kept HK2.out hdr); have HT2 := Lib.hid (HT.out.kept HK2.out (by simp)); have HG2 := Lib.hid (RG.out.kept HK2.out hpr hqr); have gf := HD2.out.fz; have gl := HD2.out.lt; have g34 := HD2.out.b (j := 3) rfl; have g0 := HD2.out.a (i := 0) rfl; have g8 := HD2.out.a (i := 9) rfl; clear hr2 hk2; have HREL := Lib.hid hrel; clear hrel))
  have hrel := rd_dst HREL.out
  rcases hrel with ⟨s, k, hdec, rfl, rfl, rfl, hs⟩ | ⟨s, k, hdec, rfl, rfl, rfl, hs⟩ | ⟨hdec, rfl, rfl, rfl⟩ | ⟨j, hdec, rfl, rfl, rfl⟩
  all_goals go_wp2_with (first
    | (go_at_call 56; go_must (refine (c_stop 13 HD2.out).mono ?_); rintro en w3 ⟨rfl, hd3, hk3⟩)
    | (go_at_call 51; go_must (refine (c_then .dbits (HD2.out.sym s)).mono ?_); rintro en w3 ⟨rfl, hd3, hk3⟩))
  · go_ret
    exact H.out.done (HSG.out s k hdec) (by unfold dstM; rw [if_pos hs]) ((HK2.out.mono (by simp)).trans (hk3.mono (by simp))) hd3 ((HT2.out.kept hk3 (by simp)).same id id rfl rfl rfl) (HR2.out.kept hk3 hrd) (fun _ => rfl) rfl
  · go_ret
    have hk4 : Kp [d] w2 w3 := (kp_set (by simp) _ _).trans hk3
    exact H.out.done (HSG.out s k hdec) (by unfold dstM; rw [if_neg (by omega)]) ((HK2.out.mono (by simp)).trans (hk4.mono (by simp))) hd3 ((HT2.out.kept hk4 (by simp)).same (fun _ => hu) (fun h => (by cases h)) rfl rfl rfl) (HR2.out.kept hk4 hrd) (fun _ => rfl) rfl
  · go_ret
    exact H.out.wait HK2.out HR2.out (HSM.out hdec)
  · go_ret
    exact H.out.done (HSB.out j hdec) rfl ((HK2.out.mono (by simp)).trans (hk3.mono (by simp))) hd3 ((HT2.out.kept hk3 (by simp)).same id id rfl rfl rfl) (HR2.out.kept hk3 hrd) (fun h => (by cases h)) rfl
end Go.Proofs.YtdpnlmofkkdioaaDoor.Hf
