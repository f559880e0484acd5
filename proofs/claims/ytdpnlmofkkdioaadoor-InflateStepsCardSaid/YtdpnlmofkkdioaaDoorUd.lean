/- InflateSteps: the walk. -/
import Derived.Test.YtdpnlmofkkdioaaDoorUc
namespace Go.Proofs.YtdpnlmofkkdioaaDoor.Hf
set_option linter.unusedVariables false
set_option linter.unusedSimpArgs false
open Go.RowKit Go.Proofs.YtdpnlmofkkdioaaDoor.W

set_option maxHeartbeats 8000000 in
set_option maxRecDepth 100000 in
theorem c_infsteps (A : Option Addr) (L c : Nat) (l : List Int) (w : World) (hG : Gt w []) (hL : l.length = L) (hc : L ≤ c) (hL2 : L ≤ 140737488351232) (hB : Bytes l) (hr : RB w A l) :
    Calls Tryd.prog 4 #[.slice A L c] w (TrueP w) := by
  have CN := c_inew w
  unfold INew at CN
  have CN := Lib.hid CN
  have HG := Lib.hid hG
  have HL := Lib.hid hL
  have HB := Lib.hid hB
  have HR := Lib.hid hr
  have CO := Lib.hid (fun (w2 : World) (hb : Below w.heap.size w w2) => r_of w2 A L c l 1048576 HL.out (by omega) HB.out (HR.out.below hb) (by omega) (by omega))
  clear hG hL hB hr
  go_enter Tryd.func4, Tryd.ntmps4
  go_upto_block 0 with (first
    | (go_at_call 15; go_must (refine CN.out.mono ?_); rintro en w2 ⟨d, r, p, q, g, rfl, hi, hk, hge⟩; have HI := Lib.hid hi; have HK := Lib.hid hk; have HGE := Lib.hid hge; clear hi hk hge)
    | (go_at_call 11; go_must (refine (CO.out w2 (HK.out.below (Nat.le_refl _) (by simp))).mono ?_); rintro e w3 ⟨rb, s, rfl, hrn, hb3, hres⟩; have HRN := Lib.hid hrn; have HB3 := Lib.hid hb3; have HRES := Lib.hid hres; have HX3 := Lib.hid (show Sx w3 d r p q g [] st0 m0 false 0 [] from ⟨⟨.refl _, Rel.refl _, fun _ => ⟨next_none.2 fun _ => rfl, rfl, rfl⟩, fun h => (by cases h), fun h => (by cases h), Nat.le_refl _⟩, ⟨[], HI.out.row' (Kp.of_below (S := []) hb3) (fun k hk => (by cases hk)) (fun k _ hk => (by cases hk)), fun _ => rfl⟩, Ok.m0⟩); clear hrn hb3 hres)
    | (go_at_call 16; go_must (refine (show Calls Tryd.prog 16 #[.pointer (some ⟨d, 0, none⟩)] w3 (fun e w' => e = .returned (.bool false) ∧ w3 = w') from c_done_any HX3.out).mono ?_); rintro e w4 ⟨rfl, rfl⟩)
    | (go_at_call 17; go_must (refine (show Calls Tryd.prog 17 #[.pointer (some ⟨d, 0, none⟩)] w3 (fun e w' => e = .returned (.int .i64 0) ∧ w3 = w') from c_reason_any HX3.out).mono ?_); rintro e w4 ⟨rfl, rfl⟩))
  have HD := Lib.hid (show ∀ k ∈ [d, r, p, q, g], w.heap.size ≤ k ∧ k < w2.heap.size from fun k hk => ⟨HGE.out k hk, HI.out.lts k hk⟩)
  have HG2 := Lib.hid (show ∀ wz, Kp [] w wz → Gt wz [d, r, p, q, g] from fun wz hk => by
    have h1 := HG.out.kept hk (fun k hk => hk)
    exact ⟨h1.t0, h1.t1, h1.t2, h1.t3, h1.t4, h1.sz, fun b hb hm => by have h2 := HGE.out b hm; have h3 := HG.out.sz; omega⟩)
  have HRES2 := Lib.hid (show Res st0 (bits8 l) 1048576 s.out s.ts s.at_ s.why s.en from HRES.out)
  have HK3 := Lib.hid (show Kp [] w w3 from HK.out.trans (Kp.of_below HB3.out))
  have hat := HRES2.out.at_le
  rw [bits8_length, HL.out] at hat
  -- what stays where the object alone turned
  have HTO := Lib.hid (show ∀ wx wy, Rn wx w2.heap.size rb ⟨A, c, l, 1048576⟩ s → Kp [] w wx → Kp [d, r, p, q, g] wx wy → Rn wy w2.heap.size rb ⟨A, c, l, 1048576⟩ s ∧ Kp [] w wy from fun wx wy hrn hk1 hk2 => by
    have hk3 : Kp [] w wy := ((hk1.mono (T := [d, r, p, q, g]) (by simp)).trans hk2).mono (fun k hk => .inr (HD.out k hk).1)
    exact ⟨hrn.elder hk2 (fun k hk => (HD.out k hk).2) (HR.out.below (hk3.below (Nat.le_refl _) (by simp))), hk3⟩)
  clear HI HK HGE HRES HB3 CO CN
  go_wp2_with (fail)
  go_loopg [5, 6] L (fun gk s5 s6 wx => ∃ i st mp o, i + gk = L ∧ s6 = .int .i64 (i : Nat) ∧ s5 = .int .i64 (st.out.length : Nat) ∧ Sx wx d r p q g (l.take i) st mp false o st.out ∧ Rn wx w2.heap.size rb ⟨A, c, l, 1048576⟩ s ∧ Kp [] w wx ∧ Hid (s.why = 62 → i ≤ s.at_))
  case atStart => exact ⟨0, st0, m0, 0, by omega, rfl, rfl, by rw [List.take_zero]; exact HX3.out, HRN.out, HK3.out, Lib.hid (fun _ => Nat.zero_le _)⟩
  case round =>
    obtain ⟨i, st, mp, o, hig, rfl, rfl, hsx, hrn, hkw, hgu⟩ := hrel
    have HX := Lib.hid hsx
    have HRw := Lib.hid hrn
    have HKw := Lib.hid hkw
    have c4 := hrn.c4
    have c5 := hrn.c5
    have c6 := hrn.c6
    have hrl := hrn.lt
    clear hsx hrn hkw HX3 HRN HK3
    obtain ⟨tl, htl⟩ : ∃ tl, st.out.length = tl := ⟨_, rfl⟩
    have HTL := Lib.hid htl
    obtain ⟨why, hwhy⟩ : ∃ y, s.why = y := ⟨_, rfl⟩
    have HWHY := Lib.hid hwhy
    obtain ⟨at_, hatt⟩ : ∃ y, s.at_ = y := ⟨_, rfl⟩
    have HATT := Lib.hid hatt
    rw [htl]
    rw [hwhy] at c4
    rw [hatt] at c5 hat
    clear htl hwhy hatt
    cases gk with
    | zero =>
      obtain rfl : i = L := by omega
      have hk : ¬ (i : Int) < (i : Int) := by omega
      have htk : l.take i = l := List.take_of_length_le (by rw [HL.out]; exact Nat.le_refl _)
      have hpw := HX.out.pn.over
      rw [htk] at hpw
      obtain ⟨q1, q2, q3, q4⟩ := hpw.last HRES2.out (by rw [HL.out]; exact hgu.out)
      have hwy := hpw.path.wy wy0
      obtain ⟨Ao, co, hc2, hlo, hro⟩ := HRw.out.c2
      have htl2 : s.out.length = tl := by rw [q1]; exact HTL.out
      rw [htl2] at hc2
      have CE := Lib.hid (c_end_any HX.out)
      obtain ⟨fin, hfin⟩ : ∃ b, st.m.fin = b := ⟨_, rfl⟩
      have hcase : (fin = s.en) ∧ ((Live st.m ∧ why = 1) ∨ (¬ Live st.m ∧ why = st.m.why)) := by
        have h0 := HWHY.out
        by_cases hl : Live st.m
        · obtain ⟨k1, k2⟩ := q3 hl
          exact ⟨by rw [← hfin, hl.2, k2], .inl ⟨hl, by omega⟩⟩
        · obtain ⟨k1, k2⟩ := q4 hl
          exact ⟨by rw [← hfin, k2], .inr ⟨hl, by omega⟩⟩
      obtain ⟨he1, hcase⟩ := hcase
      have HEN := Lib.hid he1
      have HCS := Lib.hid hcase
      have HFN := Lib.hid hfin
      rw [← he1] at c6
      have HST := Lib.hid (show ∀ wy, Kp [d] wr wy → wy.cell? ⟨rb, 2, none⟩ = some (.slice Ao tl co) ∧ wy.cell? ⟨rb, 4, none⟩ = some (.int .i64 (why : Nat)) ∧ wy.cell? ⟨rb, 6, none⟩ = some (.bool fin) from fun wy hk => by
        have hne : rb ∉ [d] := fun h => by rw [List.mem_singleton.1 h] at hrl; have h1 := (HD.out d (by simp)).2; have h2 := HRw.out.ge; rw [List.mem_singleton.1 h] at h2; omega
        have hbk := hk.block rb hrl hne
        exact ⟨(World.cell?_of_block (a := ⟨rb, 2, none⟩) hbk).trans hc2, (World.cell?_of_block (a := ⟨rb, 4, none⟩) hbk).trans c4, (World.cell?_of_block (a := ⟨rb, 6, none⟩) hbk).trans c6⟩)
      clear htk hpw q1 q2 q3 q4 hwy hro htl2 hfin he1 hcase hgu
      go_upto_region 25 with (first
        | (go_at_call 20; go_must (refine CE.out.mono ?_); rintro e w5 ⟨rfl, mp5, b5, hif5, hf5, hl5, hd5, hk5⟩; have HIF := Lib.hid hif5; have HF5 := Lib.hid hf5; have HW5 := Lib.hid (show mp5.why = why from by rcases HCS.out with ⟨h1, h2⟩ | ⟨h1, h2⟩; exact (hl5 h1).trans h2.symm; exact (hd5 h1).trans h2.symm); have hst := HST.out _ hk5; have HSZ := Lib.hid hst; have HK5 := Lib.hid (((HKw.out.mono (T := [d]) (by simp)).trans hk5).mono (T := []) (fun k hk => .inr (by rw [List.mem_singleton.1 hk]; exact (HD.out d (by simp)).1))); clear hif5 hf5 hl5 hd5 hk5 hst))
      have hkd : Kp [] w5 w5.drew := (Kp.refl _ _).drew
      have z2 : w5.drew.cell? ⟨rb, 2, none⟩ = some (.slice Ao tl co) := HSZ.out.1
      have z4 : w5.drew.cell? ⟨rb, 4, none⟩ = some (.int .i64 (why : Nat)) := HSZ.out.2.1
      have z6 : w5.drew.cell? ⟨rb, 6, none⟩ = some (.bool fin) := HSZ.out.2.2
      have y2 : w5.cell? ⟨rb, 2, none⟩ = some (.slice Ao tl co) := HSZ.out.1
      have y4 : w5.cell? ⟨rb, 4, none⟩ = some (.int .i64 (why : Nat)) := HSZ.out.2.1
      have y6 : w5.cell? ⟨rb, 6, none⟩ = some (.bool fin) := HSZ.out.2.2
      have HIFd := HIF.out.row' hkd (fun k hk => (by cases hk)) (fun k _ hk => (by cases hk))
      have cR := c_reason HIFd
      have cD := c_done HIFd
      rw [HF5.out, HFN.out] at cD
      rw [HW5.out] at cR
      have CR := Lib.hid (show Calls Tryd.prog 17 #[.pointer (some ⟨d, 0, none⟩)] w5.drew (fun e w' => e = .returned (.int .i64 (why : Nat)) ∧ w5.drew = w') from cR)
      have CD := Lib.hid (show Calls Tryd.prog 16 #[.pointer (some ⟨d, 0, none⟩)] w5.drew (fun e w' => e = .returned (.bool fin) ∧ w5.drew = w') from by rw [Bool.not_false, Bool.and_true] at cD; exact cD)
      have CA := Lib.hid (c_awake _ (HG.out.kept (HK5.out.trans hkd) (fun k hk => hk)))
      clear c4 c5 c6 hc2 cR cD HIFd
      go_region_held3 (fun w' => w'.cell? ⟨rb, 2, none⟩ = some (.slice Ao tl co) ∧ w'.cell? ⟨rb, 4, none⟩ = some (.int .i64 (why : Nat)) ∧ w'.cell? ⟨rb, 6, none⟩ = some (.bool fin)) (first | exact ⟨z2, z4, z6⟩ | exact ⟨y2, y4, y6⟩ | exact g8)
        (first
          | (go_at_call 17; go_must (refine CR.out.mono ?_); rintro e w6 ⟨rfl, rfl⟩)
          | (go_at_call 16; go_must (refine CD.out.mono ?_); rintro e w6 ⟨rfl, rfl⟩)
          | (go_at_call 14; go_must (refine CA.out.mono ?_); rintro e w8 ⟨rfl, hk8⟩; have g8 : w8.cell? ⟨rb, 2, none⟩ = some (.slice Ao tl co) ∧ w8.cell? ⟨rb, 4, none⟩ = some (.int .i64 (why : Nat)) ∧ w8.cell? ⟨rb, 6, none⟩ = some (.bool fin) := ⟨(World.cell?_of_block (a := ⟨rb, 2, none⟩) (hk8.block rb (World.block_lt_of_cell? _ ⟨rb, 2, none⟩ z2) (by simp))).trans z2, (World.cell?_of_block (a := ⟨rb, 4, none⟩) (hk8.block rb (World.block_lt_of_cell? _ ⟨rb, 2, none⟩ z2) (by simp))).trans z4, (World.cell?_of_block (a := ⟨rb, 6, none⟩) (hk8.block rb (World.block_lt_of_cell? _ ⟨rb, 2, none⟩ z2) (by simp))).trans z6⟩))
      go_wp2_with (fail)
      go_ret
      exact ⟨rfl, ((HK5.out.trans hkd).trans hk8).below (Nat.le_refl _) (by simp)⟩
    | succ g' =>
      have hk : (i : Int) < (L : Int) := by omega
      obtain ⟨x, hx⟩ : ∃ x, l[i]? = some x := ⟨_, List.getElem?_eq_getElem (by rw [HL.out]; omega)⟩
      have hxb := HB.out x (List.mem_of_getElem? hx)
      obtain ⟨bA, off, rfl, hbA, hcA⟩ := RB.get (show RB wr A l from HR.out.below (HKw.out.below (Nat.le_refl _) (by simp))) hx
      have HX0 := Lib.hid hx
      clear hx
      by_cases h62 : why = 62 ∧ at_ ≤ i
      · obtain ⟨rfl, hle⟩ := h62
        have d1 : decide ((at_ : Int) ≤ (i : Int)) = true := W.decT (by omega)
        have d2 : decide (at_ ≤ i) = true := W.decT (by omega)
        go_wp2_with (first
          | (go_at_call 14; go_must (refine (c_awake _ (HG.out.kept HKw.out (fun k hk => hk))).mono ?_); rintro e w8 ⟨rfl, hk8⟩))
        go_ret
        exact ⟨rfl, (HKw.out.trans hk8).below (Nat.le_refl _) (by simp)⟩
      · have hgu2 : s.why = 62 → i < s.at_ := fun h => by
          have := HATT.out
          rcases Nat.lt_or_ge i at_ with h9 | h9
          · omega
          · exact absurd ⟨HWHY.out.symm.trans h, h9⟩ h62
        have HGU := Lib.hid hgu2
        obtain ⟨hop1, hop2⟩ := HX.out.pn.over.open (by rw [HL.out]; omega) HRES2.out hgu.out
        obtain ⟨yes, hyes⟩ : ∃ b, decide (i ≤ at_) = b := ⟨_, rfl⟩
        have cP := c_put_any HX.out HX0.out hxb (HG2.out _ HKw.out) (yes := yes) (by
          rw [← hyes, decide_eq_true_iff, ← HATT.out]
          exact ⟨hop1, fun h => Decidable.by_contra fun hn => by have := (hop2 hn).1; omega⟩)
        unfold PutP at cP
        have CP := Lib.hid cP
        have d1 : decide ((i : Int) ≤ (at_ : Int)) = yes := by rw [← hyes]; simp
        have d3 : (why : Int) = 62 → ¬ (at_ : Int) ≤ (i : Int) := fun h h2 => h62 ⟨by omega, by omega⟩
        clear hop1 hop2 cP hgu2 hgu
        obtain ⟨wo, rfl⟩ : ∃ wo : World, wo = wr := ⟨_, rfl⟩
        go_upto_region 10 with (fail)
        go_cut [50] (fun s50 wz => s50 = .bool false ∧ wo = wz)
        case first =>
          by_cases hy : why = 62
          · have d4 : decide ((at_ : Int) ≤ (i : Int)) = false := W.decF (d3 (by omega))
            have d5 : decide (at_ ≤ i) = false := W.decF (fun h => d3 (by omega) (by omega))
            subst hy
            clear d3
            go_wp2_with (fail)
            go_meet
            exact ⟨rfl, rfl⟩
          · have i62 : ((why : Int) == 62) = false := W.eqF (by omega)
            clear d3
            go_wp2_with (fail)
            go_meet
            exact ⟨rfl, rfl⟩
        case rest =>
          obtain ⟨rfl, rfl⟩ := hcut
          clear d3
          go_upto_block 2 with (first
            | (go_at_call 18; go_must (refine CP.out.mono ?_); rintro e w5 ⟨rfl, t, mp5, rdy, o5, hsx5, hk5⟩; have HX5 := Lib.hid hsx5; have HTO5 := Lib.hid (HTO.out _ _ HRw.out HKw.out hk5); clear hsx5 hk5))
          have HSN := Lib.hid (show l.take i ++ [x] = l.take (i + 1) from by
            obtain ⟨h1, h2⟩ := List.getElem?_eq_some_iff.1 HX0.out
            rw [List.take_succ_eq_append_getElem h1, h2])
          have HPre := Lib.hid HTO5.out
          go_wp2_with (fail)
          go_loopg [5] (2 * t.meas (bits8 (l.take i ++ [x])) + rdy.toNat) (fun gj s5 wx => ∃ t mp rdy o ol, s5 = .int .i64 (ol.length : Nat) ∧ Sx wx d r p q g (l.take i ++ [x]) t mp rdy o ol ∧ Rn wx w2.heap.size rb ⟨some ⟨bA, off, none⟩, c, l, 1048576⟩ s ∧ Kp [] w wx ∧ 2 * t.meas (bits8 (l.take i ++ [x])) + rdy.toNat ≤ gj)
          case atStart => exact ⟨t, mp5, rdy, o5, st.out, by rw [HTL.out], HX5.out, HTO5.out.1, HTO5.out.2, Nat.le_refl _⟩
          case round =>
            obtain ⟨t1, mp1, rdy1, o1, ol, rfl, hsx1, hrn1, hkw1, hms⟩ := hrel
            have HX1 := Lib.hid hsx1
            have HR1 := Lib.hid hrn1
            have HKw1 := Lib.hid hkw1
            have HMS := Lib.hid hms
            clear hsx1 hkw1 hms HX5 HTO5
            obtain ⟨Ao, co, At, ct, hc2, hc3, hlo, hlt3, hvo, hvt⟩ := hrn1.view
            have htsl := HRES2.out.tsl
            obtain ⟨N, hN⟩ : ∃ N, s.out.length = N := ⟨_, rfl⟩
            have HN := Lib.hid hN
            rw [htsl] at hc3 hlt3
            rw [hN] at hc2 hc3 hlo hlt3
            have HVO := Lib.hid hvo
            have HVT := Lib.hid hvt
            have hlt1 := hrn1.lt
            have hNm := HRES2.out.len_le
            rw [hN] at hNm
            obtain ⟨mm, hmm⟩ : ∃ mm, ol.length = mm := ⟨_, rfl⟩
            have HMM := Lib.hid hmm
            rw [hmm]
            clear hrn1 hN htsl hvo hvt hmm
            cases rdy1 with
            | true =>
              obtain ⟨k1, k2, k3⟩ := Pn.known (by have := (List.getElem?_eq_some_iff.1 HX0.out).1; omega) (by have h9 := HX1.out.pn; rw [HSN.out] at h9; exact h9) HRES2.out HGU.out
              rw [HMM.out] at k1 k2 k3
              rw [HN.out] at k3
              obtain ⟨b1, f1, rfl, hb1, hb1s, hcc1⟩ := HVO.out _ _ k1
              obtain ⟨b2, f2, rfl, hb2, hb2s, hcc2⟩ := HVT.out _ _ k2
              have k3i : (mm : Int) < (N : Int) := by omega
              have k0i : (0 : Int) ≤ (mm : Int) := by omega
              have CX := Lib.hid (c_next_any HX1.out (HG2.out wr HKw1.out))
              have HKE := Lib.hid (show ∀ wy, Kp [d, r, p, q, g] wr wy → wy.cell? ⟨rb, 2, none⟩ = some (.slice (some ⟨b1, f1, none⟩) N co) ∧ wy.cell? ⟨b1, f1 + mm, none⟩ = some (.int .u8 o1) from fun wy hk => by
                have hne : ∀ k, w2.heap.size ≤ k → k ∉ [d, r, p, q, g] := fun k h1 h2 => by have := (HD.out k h2).2; omega
                exact ⟨(World.cell?_of_block (a := ⟨rb, 2, none⟩) (hk.block rb hlt1 (hne rb HR1.out.ge))).trans hc2, (World.cell?_of_block (a := ⟨b1, f1 + mm, none⟩) (hk.block b1 hb1s (hne b1 hb1))).trans hcc1⟩)
              clear k1 k2
              go_wp2_with (first
                | (go_at_call 19; go_must (refine CX.out.mono ?_); rintro e w7 ⟨rfl, t7, mp7, rdy7, o7, hsx7, hk7, hm7⟩; have HX7 := Lib.hid hsx7; have HTO7 := Lib.hid (HTO.out _ _ HR1.out HKw1.out hk7); have HM7 := Lib.hid hm7; have hz := HKE.out _ hk7; obtain ⟨z2, z1⟩ := hz; clear hsx7 hk7 hm7))
              have hms1 := HMS.out
              have hms2 := HM7.out
              simp only [Bool.toNat_true] at hms1
              go_roundg (2 * t7.meas (bits8 (l.take i ++ [x])) + rdy7.toNat)
              case measure => omega
              case rel => exact ⟨t7, mp7, rdy7, o7, _, by rw [List.length_append, HMM.out]; go_num, HX7.out, HTO7.out.1, HTO7.out.2, Nat.le_refl _⟩
            | false =>
              obtain ⟨wq, rfl⟩ : ∃ wq : World, wq = wr := ⟨_, rfl⟩
              have hpw1 := HX1.out.pn.over
              have hol := (HX1.out.pn.no rfl).2.1
              have HPW := Lib.hid hpw1
              have HOL := Lib.hid hol
              clear hpw1 hol
              go_upto_region 14 with (fail)
              go_cut [77] (fun s77 wz => s77 = .bool false ∧ wq = wz)
              case first =>
                by_cases hmN : mm < N
                · obtain ⟨y, hy⟩ : ∃ y, s.ts[mm]? = some y := ⟨_, List.getElem?_eq_getElem (by rw [HRES2.out.tsl, HN.out]; exact hmN)⟩
                  obtain ⟨b2, f2, rfl, hb2, hb2s, hcc2⟩ := HVT.out _ _ hy
                  have hly := Pw.later (l := l) (i := i) (mp := mp1) (t := t1) (by have := (List.getElem?_eq_some_iff.1 HX0.out).1; omega) (by have h9 := HPW.out; rw [HSN.out] at h9; exact h9) HRES2.out HGU.out (x := y) (by rw [← HOL.out, HMM.out]; exact hy)
                  have k3i : (mm : Int) < (N : Int) := by omega
                  have k4 : ((y : Int) == (i : Int)) = false := W.eqF (by omega)
                  clear hy hmN hly
                  go_wp2_with (fail)
                  go_meet
                  exact ⟨rfl, rfl⟩
                · have k3i : ¬ (mm : Int) < (N : Int) := by omega
                  clear hmN
                  go_wp2_with (fail)
                  go_meet
                  exact ⟨rfl, rfl⟩
              case rest =>
                obtain ⟨rfl, rfl⟩ := hcut
                have hgu3 : s.why = 62 → i + 1 ≤ s.at_ := fun h => HGU.out h
                have hiL : i + 1 ≤ l.length := (List.getElem?_eq_some_iff.1 HX0.out).1
                obtain ⟨q1, q2⟩ := Pw.open (l := l) (i := i + 1) (mp := mp1) (s := t1) hiL (by have h9 := HPW.out; rw [HSN.out] at h9; exact h9) HRES2.out hgu3
                have hwy := HX1.out.pn.path.wy wy0
                have CD := Lib.hid (fun n : Nat => (c_done_any (HX1.out.keep ((Kp.refl [] wq).drewN n))).mono (fun e w' (h : _ ∧ _) => (⟨h.1, h.2.symm⟩ : _ ∧ w' = wq.drewN n)))
                have CR := Lib.hid (fun n : Nat => (c_reason_any (HX1.out.keep ((Kp.refl [] wq).drewN n))).mono (fun e w' (h : _ ∧ _) => (⟨h.1, h.2.symm⟩ : _ ∧ w' = wq.drewN n)))
                have hc : (t1.m.fin = false ∧ t1.m.why = 0 ∧ i < at_) ∨ (t1.m.fin = true ∧ t1.m.why = 0 ∧ at_ ≤ i ∧ s.en = true) ∨ (t1.m.fin = false ∧ t1.m.why ≠ 0 ∧ at_ ≤ i ∧ s.en = false) := by
                  have h0 := HATT.out
                  by_cases hl : Live t1.m
                  · have := q1 hl
                    exact .inl ⟨hl.2, hl.1, by omega⟩
                  · obtain ⟨k1, _, _, _, k5⟩ := q2 hl
                    cases hf : t1.m.fin with
                    | true => exact .inr (.inl ⟨rfl, hwy.1 hf, by omega, by rw [k5, hf]⟩)
                    | false => exact .inr (.inr ⟨rfl, fun h => hl ⟨h, hf⟩, by omega, by rw [k5, hf]⟩)
                have c5 := HR1.out.c5
                have c6 := HR1.out.c6
                rw [HATT.out] at c5
                clear q1 q2 hwy hgu3
                go_upto_region 22 with (first
                  | (go_at_call 19; go_must (refine (c_next_none HX1.out).mono ?_); rintro e w7 ⟨rfl, rfl⟩))
                go_cut [137] (fun s137 wz => s137 = .bool false ∧ ∃ n, wz = wq.drewN n)
                case first =>
                  rcases hc with ⟨h1, h2, h3⟩ | ⟨h1, h2, h3, h4⟩ | ⟨h1, h2, h3, h4⟩
                  · have d1 : decide ((at_ : Int) ≤ (i : Int)) = false := W.decF (by omega)
                    have d2 : decide (at_ ≤ i) = false := W.decF (by omega)
                    rw [h1] at CD
                    rw [h2] at CR
                    generalize s.en = en at *
                    clear h1 h2 h3
                    cases en with
                    | true =>
                      go_quiet ((first | (go_at_call 16; exact Calls.quiet_of_same (CD.out _)) | (go_at_call 17; exact Calls.quiet_of_same (CR.out _))))
                      go_wp2_with (fail)
                      go_meet
                      exact ⟨rfl, _, rfl⟩
                    | false =>
                      go_quiet ((first | (go_at_call 16; exact Calls.quiet_of_same (CD.out _)) | (go_at_call 17; exact Calls.quiet_of_same (CR.out _))))
                      go_wp2_with (fail)
                      go_meet
                      exact ⟨rfl, _, rfl⟩
                  · have d1 : decide ((at_ : Int) ≤ (i : Int)) = true := W.decT (by omega)
                    have d2 : decide (at_ ≤ i) = true := W.decT (by omega)
                    rw [h1] at CD
                    rw [h2] at CR
                    rw [h4] at c6
                    clear h1 h2 h3 h4
                    go_quiet ((first | (go_at_call 16; exact Calls.quiet_of_same (CD.out _)) | (go_at_call 17; exact Calls.quiet_of_same (CR.out _))))
                    go_wp2_with (fail)
                    go_meet
                    exact ⟨rfl, _, rfl⟩
                  · have d1 : decide ((at_ : Int) ≤ (i : Int)) = true := W.decT (by omega)
                    have d2 : decide (at_ ≤ i) = true := W.decT (by omega)
                    rw [h1] at CD
                    rw [h4] at c6
                    obtain ⟨y1, hy1⟩ : ∃ y, t1.m.why = y := ⟨_, rfl⟩
                    rw [hy1] at CR h2
                    have e1 : ((y1 : Int) == 0) = false := W.eqF (by omega)
                    have e2 : ((y1 : Int) != 0) = true := W.neT (by omega)
                    clear h1 h2 h3 h4 hy1
                    go_quiet ((first | (go_at_call 16; exact Calls.quiet_of_same (CD.out _)) | (go_at_call 17; exact Calls.quiet_of_same (CR.out _))))
                    go_wp2_with (fail)
                    go_meet
                    exact ⟨rfl, _, rfl⟩
                case rest =>
                  obtain ⟨rfl, n9, rfl⟩ := hcut
                  have hk9 : Kp [] wq (wq.drewN n9) := (Kp.refl _ _).drewN _
                  go_wp2_with (fail)
                  go_roundg g'
                  case measure => omega
                  case rel =>
                    have e9 : t1.out.length = mm := by rw [← HOL.out, HMM.out]
                    refine ⟨i + 1, t1, mp1, o1, by omega, by go_num, by rw [e9], ?_, HR1.out.below hk9, HKw1.out.trans hk9, Lib.hid (fun h => HGU.out h)⟩
                    have h9 := HX1.out.keep hk9
                    rw [HSN.out] at h9
                    rw [HOL.out] at h9
                    exact h9
end Go.Proofs.YtdpnlmofkkdioaaDoor.Hf
