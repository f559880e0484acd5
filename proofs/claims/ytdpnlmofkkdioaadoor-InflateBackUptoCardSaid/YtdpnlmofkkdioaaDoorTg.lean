/- The reference's run: copied. -/
import Derived.Test.YtdpnlmofkkdioaaDoorTf
namespace Go.Proofs.YtdpnlmofkkdioaaDoor.Hf
set_option linter.unusedVariables false
set_option linter.unusedSimpArgs false
open Go.RowKit Go.Proofs.YtdpnlmofkkdioaaDoor.W

/-- Where a block's part ends: at a literal's symbol, or it is over. -/
def CpEnd (S : Sr) (s : RS) (m : M) (s' : RS) : Prop :=
  (∃ m', Mc S s' m' ∧ m'.ph = .lit ∧ m'.lt = m.lt ∧ m'.ds = m.ds ∧ m'.last = m.last ∧ m'.fin = false ∧ s.bit ≤ s'.bit) ∨ En S s'
def CpPost (w : World) (B rb : Nat) (S : Sr) (s : RS) (m : M) (e : Ending) (w' : World) : Prop := e = .returned (.tuple #[]) ∧ ∃ s', Rn w' B rb S s' ∧ Fr B w w' ∧ CpEnd S s m s'
section
variable {S : Sr} {s : RS} {m : M}
theorem num_on {n : Nat} (h : s.bit + n ≤ 8 * S.l.length) : s.num S n = s.on n ∧ numV s S n = Hf.num (((bits8 S.l).drop s.bit).take n) := ⟨if_pos h, if_pos h⟩
theorem num_cut {n : Nat} (h : ¬ s.bit + n ≤ 8 * S.l.length) : s.num S n = s.cut S ∧ numV s S n = 0 := ⟨if_neg h, if_neg h⟩
theorem bs_len : ((bits8 S.l).drop s.bit).length = 8 * S.l.length - s.bit := by rw [List.length_drop, bits8_length]
theorem step_lbits {out : List Int} {bs : List Bool} (hph : m.ph = .lbits) : step m out bs = if mL.getD m.sym 0 ≤ bs.length then some ({ m with left := lL.getD m.sym 0 + Hf.num (bs.take (mL.getD m.sym 0)), ph := .dst }, [], mL.getD m.sym 0) else none := by unfold step; rw [hph]
theorem step_dbits {out : List Int} {bs : List Bool} (hph : m.ph = .dbits) : step m out bs = if mB.getD m.sym 0 ≤ bs.length then some (dbM m out (lB.getD m.sym 0 + Hf.num (bs.take (mB.getD m.sym 0))), [], mB.getD m.sym 0) else none := by unfold step; rw [hph]
theorem step_dst {out : List Int} {bs : List Bool} (hph : m.ph = .dst) : step m out bs = match dec m.ds bs with
    | .got s k => some (dstM m s, [], k)
    | .bad j => some (stopM m 13, [], j)
    | .more => none := by unfold step; rw [hph]; dsimp only; cases dec m.ds bs <;> rfl
theorem step_cpy {out : List Int} {bs : List Bool} (hph : m.ph = .cpy) : step m out bs = some ({ m with left := m.left - 1, ph := if m.left = 1 then .lit else .cpy }, [out.getD (out.length - m.back) 0], 0) := by unfold step; rw [hph]
end
/-- While copying. -/
def Cpy (S : Sr) (s0 : RS) (m0 : M) (d g : Nat) (s : RS) : Prop :=
  (∃ m', Mc S s m' ∧ (if g = 0 then m'.ph = .lit else m'.ph = .cpy ∧ m'.left = g ∧ m'.back = d) ∧ m'.lt = m0.lt ∧ m'.ds = m0.ds ∧ m'.last = m0.last ∧ m'.fin = false ∧ s0.bit ≤ s.bit ∧ d ≤ s.out.length ∧ 1 ≤ d) ∨ En S s
theorem Cpy.stp {S : Sr} {s0 s : RS} {m0 m : M} {d g : Nat} (h : Mc S s m) (hph : m.ph = .cpy) (hl : m.left = g + 1) (hb : m.back = d) (h1 : m.lt = m0.lt) (h2 : m.ds = m0.ds) (h3 : m.last = m0.last) (h4 : m.fin = false) (h5 : s0.bit ≤ s.bit) (h6 : d ≤ s.out.length) (h7 : 1 ≤ d) :
    Cpy S s0 m0 d g (s.give S (s.out.getD (s.out.length - d) 0)) := by
  have hs := step_cpy (out := s.out) (bs := (bits8 S.l).drop s.bit) hph
  rw [hb, hl] at hs
  have hg := h.give h4 hs h.mw
  rw [RS.on_zero] at hg
  rcases hg with ⟨_, hm, hbit, hout⟩ | ⟨_, he⟩
  · refine .inl ⟨_, hm, ?_, h1, h2, h3, h4, ?_, ?_, h7⟩
    · by_cases hg0 : g = 0
      · subst hg0
        rw [if_pos rfl]
        show (if (0 + 1 : Nat) = 1 then Ph.lit else Ph.cpy) = Ph.lit
        exact if_pos rfl
      · rw [if_neg hg0]
        exact ⟨if_neg (by omega), by show g + 1 - 1 = g; omega, rfl⟩
    · rw [hbit]; omega
    · rw [hout, List.length_append]; omega
  · exact .inr he
theorem Cpy.done {S : Sr} {s0 s : RS} {m0 : M} {d : Nat} (h : Cpy S s0 m0 d 0 s) : CpEnd S s0 m0 s := by
  rcases h with ⟨m', h1, h2, h3, h4, h5, h6, h7, _⟩ | h
  · rw [if_pos rfl] at h2
    exact .inl ⟨m', h1, h2, h3, h4, h5, h6, h7⟩
  · exact .inr h
set_option maxHeartbeats 8000000 in
set_option maxRecDepth 100000 in
theorem r_copied (w : World) (B rb : Nat) (S : Sr) (s : RS) (m : M) (p y : Nat) (h : Rn w B rb S s) (hM : Mc S s m) (hph : m.ph = .lbits) (hy : m.sym = y) (hf : m.fin = false) (ht : Tr w p m.ds) (hb : 0 < s.bit) (hm : S.most ≤ 1048576) :
    Calls Tryd.prog 46 #[.pointer (some ⟨rb, 0, none⟩), .int .i64 ((257 + y : Nat) : Int), .pointer (some ⟨p, 0, none⟩)] w (CpPost w B rb S s m) := by
  have hpo := hM.ok.ph hM.mw
  unfold PhOk at hpo
  rw [hph] at hpo
  dsimp only at hpo
  rw [hy] at hpo
  obtain ⟨htabs, hy28⟩ := hpo
  obtain ⟨q1, q2⟩ := lL_le ⟨y, by omega⟩
  dsimp only at q1 q2
  have hstep := step_lbits (out := s.out) (bs := (bits8 S.l).drop s.bit) hph
  rw [hy, bs_len] at hstep
  have hbl := h.bitl
  obtain ⟨a, ha⟩ : ∃ a, lL.getD y 0 = a := ⟨_, rfl⟩
  obtain ⟨c, hc⟩ : ∃ c, mL.getD y 0 = c := ⟨_, rfl⟩
  have cB := r_lbase w y hy28
  rw [ha, hc] at hstep cB
  rw [ha] at q1
  rw [hc] at q2
  unfold BaseIs at cB
  have CB := Lib.hid cB
  have cN := r_number w B rb S s c h (by omega)
  have H := Lib.hid h
  have HM := Lib.hid hM
  have HT := Lib.hid ht
  have HTS := Lib.hid htabs
  have HPH := Lib.hid hph
  have HF := Lib.hid hf
  have HB0 := Lib.hid hb
  have hll := h.len
  clear h hM ht htabs hph hf hb cB ha hc
  obtain ⟨y2, hy2⟩ : ∃ y2, 257 + y = y2 := ⟨_, rfl⟩
  rw [hy2] at CB ⊢
  by_cases hA : s.bit + c ≤ 8 * S.l.length
  · obtain ⟨e1, e2⟩ := num_on hA
    rw [e1, e2] at cN
    have CN := Lib.hid cN
    rw [if_pos (by omega)] at hstep
    have hV := num_take_lt ((bits8 S.l).drop s.bit) (n := c)
    have hV2 : 2 ^ c ≤ 2 ^ 5 := Nat.pow_le_pow_right (by omega) q2
    have hV3 : (2 : Nat) ^ 5 = 32 := by decide
    have hM1 := HM.out.next HF.out hstep HM.out.mw
    obtain ⟨V, hVV⟩ : ∃ V, Hf.num (((bits8 S.l).drop s.bit).take c) = V := ⟨_, rfl⟩
    rw [hVV] at CN hV hM1
    have HM1 := Lib.hid hM1
    clear cN e1 e2 hstep hVV hM1
    go_enter Tryd.func46, Tryd.ntmps46
    go_upto_region 3 with (first
      | (go_at_call 64; go_must (refine CB.out.mono ?_); rintro e w2 ⟨rfl, rfl⟩)
      | (go_at_call 24; go_must (refine CN.out.mono ?_); rintro e w2 ⟨rfl, hr2, hk2, -⟩; have HR2 := Lib.hid hr2; have HK2 := Lib.hid hk2; clear hr2 hk2)
      | (go_at_call 23; go_must (refine (r_open w2 B rb S (s.on c) HR2.out HM.out.why HM.out.en).mono ?_); rintro e w3 ⟨rfl, rfl⟩))
    have HFa := Lib.hid (H.out.fr HK2.out)
    obtain ⟨m1, hm1⟩ : ∃ m1, ({ m with left := a + V, ph := .dst, sym := y } : M) = m1 := ⟨_, rfl⟩
    obtain ⟨s1, hs1⟩ : ∃ s1, s.on c = s1 := ⟨_, rfl⟩
    have HP1 := Lib.hid (show m1.ph = .dst ∧ m1.left = a + V ∧ m1.lt = m.lt ∧ m1.ds = m.ds ∧ m1.last = m.last ∧ m1.fin = false ∧ s.bit ≤ s1.bit from by rw [← hm1, ← hs1]; exact ⟨rfl, rfl, rfl, rfl, rfl, HF.out, Nat.le_add_right _ _⟩)
    rw [hm1, hs1] at HM1
    rw [hs1] at HR2
    have hT2 := HT.out.fr HFa.out
    have cS := r_symbol w2 B rb S s1 p m.ds HR2.out hT2 HTS.out.ds HTS.out.dsl (by have := HP1.out.2.2.2.2.2.2; have := HB0.out; omega)
    have hstep := step_dst (out := s1.out) (bs := (bits8 S.l).drop s1.bit) HP1.out.1
    rw [HP1.out.2.2.2.1] at hstep
    unfold RS.sym symV at cS
    obtain ⟨n, hn⟩ : ∃ n, a + V = n := ⟨_, rfl⟩
    have hnn : 3 ≤ n ∧ n ≤ 300 := by
      have := HM1.out.ok.ph HM1.out.mw
      unfold PhOk at this
      rw [HP1.out.1] at this
      dsimp only at this
      rw [HP1.out.2.1] at this
      omega
    have enn : (a : Int) + (V : Int) = (n : Int) := by omega
    rw [enn]
    clear CN HK2 hT2 hm1 hs1
    cases hd : dec m.ds ((bits8 S.l).drop s1.bit) with
    | more =>
      rw [hd] at cS hstep
      dsimp only at cS hstep
      have CS := Lib.hid cS
      have HE := Lib.hid (HM1.out.cut HP1.out.2.2.2.2.2.1 hstep)
      clear cS hstep hd
      go_wp2_with (first
        | (go_at_call 45; go_must (refine CS.out.mono ?_); rintro e w4 ⟨rfl, hr4, hk4, -⟩; have HR4 := Lib.hid hr4; have HK4 := Lib.hid hk4; clear hr4 hk4)
        | (go_at_call 23; go_must (refine (r_shut w4 B rb S (s1.cut S) HR4.out HE.out.2).mono ?_); rintro e w5 ⟨rfl, rfl⟩))
      refine bodyPost_ret (results_none rfl _ _ _) rfl ?_
      exact ⟨rfl, _, HR4.out, HFa.out.trans (HR2.out.fr HK4.out), .inr HE.out⟩
    | bad j =>
      rw [hd] at cS hstep
      dsimp only at cS hstep
      have CS := Lib.hid cS
      have HE := Lib.hid (HM1.out.halt HP1.out.2.2.2.2.2.1 hstep (by show (13 : Nat) ≠ 0; decide) HP1.out.2.2.2.2.2.1)
      clear cS hstep hd
      go_wp2_with (first
        | (go_at_call 45; go_must (refine CS.out.mono ?_); rintro e w4 ⟨rfl, hr4, hk4, -⟩; have HR4 := Lib.hid hr4; have HK4 := Lib.hid hk4; clear hr4 hk4)
        | (go_at_call 23; go_must (refine (r_shut w4 B rb S _ HR4.out HE.out.2).mono ?_); rintro e w5 ⟨rfl, rfl⟩))
      refine bodyPost_ret (results_none rfl _ _ _) rfl ?_
      exact ⟨rfl, _, HR4.out, HFa.out.trans (HR2.out.fr HK4.out), .inr HE.out⟩
    | got x k =>
      rw [hd] at cS hstep
      dsimp only at cS hstep
      have CS := Lib.hid cS
      have hk0 := (dec_got hd).2
      have hx320 : x < 320 := Nat.lt_of_lt_of_le (dec_lt hd) HTS.out.dsl
      unfold dstM at hstep
      by_cases hx : x > 29
      · rw [if_pos hx] at hstep
        have HE := Lib.hid (HM1.out.halt HP1.out.2.2.2.2.2.1 hstep (by show (13 : Nat) ≠ 0; decide) HP1.out.2.2.2.2.2.1)
        have i1 : (29 : Int) < (x : Int) := by omega
        have HB4 := Lib.hid (show 0 < (s1.on k).bit by show 0 < s1.bit + k; omega)
        clear cS hstep hd
        go_wp2_with (first
          | (go_at_call 45; go_must (refine CS.out.mono ?_); rintro e w4 ⟨rfl, hr4, hk4, -⟩; have HR4 := Lib.hid hr4; have HK4 := Lib.hid hk4; clear hr4 hk4)
          | (go_at_call 23; go_must (refine (r_open w4 B rb S _ HR4.out HM1.out.why HM1.out.en).mono ?_); rintro e w5 ⟨rfl, rfl⟩)
          | (go_at_call 30; go_must (refine (r_stop w4 B rb S _ 13 HR4.out HB4.out).mono ?_); rintro e w5 ⟨rfl, hr5, hk5, -⟩))
        refine bodyPost_ret (results_none rfl _ _ _) rfl ?_
        exact ⟨rfl, _, hr5, (HFa.out.trans (HR2.out.fr HK4.out)).trans (HR4.out.fr hk5), .inr HE.out⟩
      · rw [if_neg hx] at hstep
        have i1 : ¬ (29 : Int) < (x : Int) := by omega
        have hM2 := HM1.out.next HP1.out.2.2.2.2.2.1 hstep HM1.out.mw
        have HM2 := Lib.hid hM2
        clear cS hstep hd hM2
        go_upto_region 7 with (first
          | (go_at_call 45; go_must (refine CS.out.mono ?_); rintro e w4 ⟨rfl, hr4, hk4, -⟩; have HR4 := Lib.hid hr4; have HK4 := Lib.hid hk4; clear hr4 hk4)
          | (go_at_call 23; go_must (refine (r_open w4 B rb S _ HR4.out HM1.out.why HM1.out.en).mono ?_); rintro e w5 ⟨rfl, rfl⟩))
        have HFb := Lib.hid (HFa.out.trans (HR2.out.fr HK4.out))
        obtain ⟨m2, hm2⟩ : ∃ m2, ({ m1 with sym := x, ph := .dbits } : M) = m2 := ⟨_, rfl⟩
        obtain ⟨s2, hs2⟩ : ∃ s2, s1.on k = s2 := ⟨_, rfl⟩
        have HP2 := Lib.hid (show m2.ph = .dbits ∧ m2.left = n ∧ m2.lt = m.lt ∧ m2.ds = m.ds ∧ m2.last = m.last ∧ m2.fin = false ∧ s.bit ≤ s2.bit ∧ m2.sym = x from by
          rw [← hm2, ← hs2]
          obtain ⟨p1, p2, p3, p4, p5, p6, p7⟩ := HP1.out
          exact ⟨rfl, p2.trans hn, p3, p4, p5, p6, by show s.bit ≤ s1.bit + k; omega, rfl⟩)
        rw [hm2, hs2] at HM2
        rw [hs2] at HR4
        clear CS HK4 HR2 HM1 HP1 hm2 hs2 HFa
        have hx29 : x ≤ 29 := by omega
        obtain ⟨r1, r2⟩ := lB_le ⟨x, by omega⟩
        dsimp only at r1 r2
        have hstep := step_dbits (out := s2.out) (bs := (bits8 S.l).drop s2.bit) HP2.out.1
        rw [HP2.out.2.2.2.2.2.2.2, bs_len] at hstep
        have hbl2 := HR4.out.bitl
        obtain ⟨a2, ha2⟩ : ∃ a2, lB.getD x 0 = a2 := ⟨_, rfl⟩
        obtain ⟨c2, hc2⟩ : ∃ c2, mB.getD x 0 = c2 := ⟨_, rfl⟩
        have cB2 := r_dbase w4 x hx29
        rw [ha2, hc2] at hstep cB2
        rw [ha2] at r1
        rw [hc2] at r2
        unfold BaseIs at cB2
        have CB2 := Lib.hid cB2
        have cN2 := r_number w4 B rb S s2 c2 HR4.out (by omega)
        clear cB2 ha2 hc2
        by_cases hA2 : s2.bit + c2 ≤ 8 * S.l.length
        · obtain ⟨e1, e2⟩ := num_on hA2
          rw [e1, e2] at cN2
          rw [if_pos (by omega)] at hstep
          have hV := num_take_lt ((bits8 S.l).drop s2.bit) (n := c2)
          have hV2 : 2 ^ c2 ≤ 2 ^ 13 := Nat.pow_le_pow_right (by omega) r2
          have hV3 : (2 : Nat) ^ 13 = 8192 := by decide
          obtain ⟨V2, hVV⟩ : ∃ V2, Hf.num (((bits8 S.l).drop s2.bit).take c2) = V2 := ⟨_, rfl⟩
          rw [hVV] at cN2 hV hstep
          have CN2 := Lib.hid cN2
          obtain ⟨d, hd⟩ : ∃ d, a2 + V2 = d := ⟨_, rfl⟩
          have ed : (a2 : Int) + (V2 : Int) = (d : Int) := by omega
          rw [hd] at hstep
          obtain ⟨s3, hs3⟩ : ∃ s3, s2.on c2 = s3 := ⟨_, rfl⟩
          have HS3 := Lib.hid (show s3.out = s2.out ∧ s3.why = 0 ∧ s3.en = false ∧ s3.bit = s2.bit + c2 from by rw [← hs3]; exact ⟨rfl, HM2.out.why, HM2.out.en, rfl⟩)
          rw [hs3] at CN2
          unfold dbM at hstep
          clear cN2 e1 e2 hVV
          go_upto_region 9 with (first
            | (go_at_call 65; go_must (refine CB2.out.mono ?_); rintro e w6 ⟨rfl, rfl⟩)
            | (go_at_call 24; go_must (refine CN2.out.mono ?_); rintro e w7 ⟨rfl, hr7, hk7, -⟩; have HR7 := Lib.hid hr7; have HK7 := Lib.hid hk7; clear hr7 hk7))
          have HFc := Lib.hid (HFb.out.trans (HR4.out.fr HK7.out))
          obtain ⟨Ao, co, hc2, hlc, hro⟩ := HR7.out.c2
          have HRO := Lib.hid hro
          have hlt7 := HR7.out.lt
          have hf7 := HR7.out.fz
          obtain ⟨N, hN⟩ : ∃ N, s3.out.length = N := ⟨_, rfl⟩
          rw [hN] at hc2
          have HN := Lib.hid hN
          have HB7 := Lib.hid (show 0 < s3.bit by have := HS3.out.2.2.2; have := HP2.out.2.2.2.2.2.2.1; have := HB0.out; omega)
          clear hro hlc hN CN2 CB2
          by_cases hdl : d > s2.out.length
          · rw [if_pos hdl] at hstep
            have HE := Lib.hid (HM2.out.halt HP2.out.2.2.2.2.2.1 hstep (by show (14 : Nat) ≠ 0; decide) HP2.out.2.2.2.2.2.1)
            rw [hs3] at HE
            have i2 : (N : Int) < (d : Int) := by rw [← HS3.out.1, HN.out] at hdl; omega
            clear hstep hdl
            go_wp2_with (first
              | (go_at_call 23; go_must (refine (r_open w7 B rb S s3 HR7.out HS3.out.2.1 HS3.out.2.2.1).mono ?_); rintro e w8 ⟨rfl, rfl⟩)
              | (go_at_call 30; go_must (refine (r_stop w7 B rb S s3 14 HR7.out HB7.out).mono ?_); rintro e w8 ⟨rfl, hr8, hk8, -⟩))
            refine bodyPost_ret (results_none rfl _ _ _) rfl ?_
            exact ⟨rfl, _, hr8, HFc.out.trans (HR7.out.fr hk8), .inr HE.out⟩
          · rw [if_neg hdl] at hstep
            have hM3 := HM2.out.next HP2.out.2.2.2.2.2.1 hstep HM2.out.mw
            have HM3 := Lib.hid hM3
            have i2 : decide ((N : Int) < (d : Int)) = false := W.decF (by rw [← HS3.out.1, HN.out] at hdl; omega)
            have i2b : decide (N < d) = false := W.decF (by rw [← HS3.out.1, HN.out] at hdl; omega)
            rw [hs3] at HM3
            have hph3 := HM3.out.ok.ph HM3.out.mw
            unfold PhOk at hph3
            dsimp only at hph3
            have HC0 := Lib.hid (show Cpy S s m d n s3 from by
              refine .inl ⟨_, HM3.out, ?_, HP2.out.2.2.1, HP2.out.2.2.2.1, HP2.out.2.2.2.2.1, HP2.out.2.2.2.2.2.1, ?_, hph3.2.2.2, hph3.2.2.1.1⟩
              · rw [if_neg (by omega)]
                exact ⟨rfl, HP2.out.2.1, rfl⟩
              · rw [HS3.out.2.2.2]
                have := HP2.out.2.2.2.2.2.2.1
                omega)
            clear hM3 hstep hdl hph3 HM3 hs3
            go_wp2_with (first
              | (go_at_call 23; go_must (refine (r_open w7 B rb S s3 HR7.out HS3.out.2.1 HS3.out.2.2.1).mono ?_); rintro e w8 ⟨rfl, rfl⟩))
            go_loopg [11] n (fun g s11 wx => ∃ (i : Nat) (s' : RS), i + g = n ∧ s11 = .int .i64 (i : Nat) ∧ Rn wx B rb S s' ∧ Fr B w7 wx ∧ Hid (Cpy S s m d g s'))
            case atStart => exact ⟨0, s3, by omega, rfl, HR7.out, Fr.refl _ _, Lib.hid HC0.out⟩
            case round =>
              obtain ⟨i, s', hig, rfl, hR, hFr, hC⟩ := hrel
              have HRr := Lib.hid hR
              have HFr := Lib.hid hFr
              clear hR hFr HC0 hc2 hlt7 hf7
              cases gk with
              | zero =>
                obtain rfl : i = n := by omega
                have hk : ¬ (i : Int) < (i : Int) := by omega
                go_wp2_with (fail)
                refine bodyPost_ret (results_none rfl _ _ _) rfl ?_
                exact ⟨rfl, s', HRr.out, HFc.out.trans HFr.out, hC.out.done⟩
              | succ g =>
                have hk : (i : Int) < (n : Int) := by omega
                rcases hC.out with ⟨m', hm', hphl, p1, p2, p3, p4, p5, p6, p7⟩ | hE
                · rw [if_neg (by omega)] at hphl
                  have HST := Lib.hid (Cpy.stp (S := S) (s0 := s) (m0 := m) hm' hphl.1 hphl.2.1 hphl.2.2 p1 p2 p3 p4 p5 p6 p7)
                  have HMp := Lib.hid hm'
                  have HB8 := Lib.hid (show 0 < s'.bit by have := HB0.out; omega)
                  obtain ⟨Ao2, co2, hc2, hlc2, hro2⟩ := HRr.out.c2
                  obtain ⟨N2, hN2⟩ : ∃ N2, s'.out.length = N2 := ⟨_, rfl⟩
                  rw [hN2] at hc2 p6 HST
                  obtain ⟨T, hT⟩ : ∃ T, N2 - d = T := ⟨_, rfl⟩
                  have eT : IntKind.i64.wrap ((N2 : Int) - (d : Int)) = (T : Int) := by
                    have hs := hm'.small
                    rw [hN2] at hs
                    rw [← hT, IntWalk.i64_in _ (by omega)]
                    omega
                  have eT2 : (T : Int) < (N2 : Int) := by omega
                  obtain ⟨x8, hx8⟩ : ∃ x, s'.out[T]? = some x := ⟨_, List.getElem?_eq_getElem (by omega)⟩
                  obtain ⟨b8, o8, rfl, hb8, hcc8⟩ := RB.get hro2 hx8
                  have hgd : s'.out.getD (N2 - d) 0 = x8 := by rw [hT, List.getD_eq_getElem?_getD, hx8]; rfl
                  rw [hgd] at HST
                  have HTS8 := Lib.hid hm'.tsl
                  have HSM8 := Lib.hid hm'.small
                  have hlt8 := HRr.out.lt
                  have hfz8 := HRr.out.fz
                  clear hphl p1 p2 p3 p4 p5 p6 p7 hm' hgd hx8 hro2 hlc2
                  go_upto_region 15 with (first
                    | (go_at_call 23; go_must (refine (r_open wr B rb S s' HRr.out HMp.out.why HMp.out.en).mono ?_); rintro e w8 ⟨rfl, rfl⟩))
                  go_still_tail 14, (by kernel_rfl)
                  change wpList _ _ _ _ _ wr.drew
                  have hkd : Kp [] wr wr.drew := (Kp.refl _ _).drew
                  have HRd := Lib.hid (HRr.out.below hkd)
                  have HFd := Lib.hid (HFr.out.trans (Fr.of_kp (B := B) hkd (by simp)))
                  have z2 : wr.drew.cell? ⟨rb, 2, none⟩ = some (Value.slice (some ⟨b8, o8, none⟩) N2 co2) := hc2
                  have z8 : wr.drew.cell? ⟨b8, o8 + T, none⟩ = some (.int .u8 x8) := hcc8
                  have CG := Lib.hid (r_give wr.drew B rb S s' x8 HRd.out HB8.out hm HTS8.out HSM8.out)
                  generalize wr.drew = wd at *
                  clear hc2 hcc8 hlt8 hfz8 hkd
                  go_wp2_with (first
                    | (go_at_call 43; go_must (refine CG.out.mono ?_); rintro e w9 ⟨rfl, hr9, hf9⟩))
                  go_roundg g
                  case measure => omega
                  case rel => exact ⟨i + 1, _, by omega, by go_num, hr9, HFd.out.trans hf9, HST⟩
                · have HE := Lib.hid hE
                  clear hE
                  go_wp2_with (first
                    | (go_at_call 23; go_must (refine (r_shut wr B rb S s' HRr.out HE.out.2).mono ?_); rintro e w8 ⟨rfl, rfl⟩))
                  refine bodyPost_ret (results_none rfl _ _ _) rfl ?_
                  exact ⟨rfl, s', HRr.out, HFc.out.trans HFr.out, .inr HE.out⟩
        · obtain ⟨e1, e2⟩ := num_cut hA2
          rw [e1, e2] at cN2
          have CN2 := Lib.hid cN2
          rw [if_neg (by omega)] at hstep
          have HE := Lib.hid (HM2.out.cut HP2.out.2.2.2.2.2.1 hstep)
          clear cN2 e1 e2 hstep
          go_wp2_with (first
            | (go_at_call 65; go_must (refine CB2.out.mono ?_); rintro e w6 ⟨rfl, rfl⟩)
            | (go_at_call 24; go_must (refine CN2.out.mono ?_); rintro e w7 ⟨rfl, hr7, hk7, -⟩; have HR7 := Lib.hid hr7; have HK7 := Lib.hid hk7; clear hr7 hk7)
            | (go_at_call 23; go_must (refine (r_shut w7 B rb S _ HR7.out HE.out.2).mono ?_); rintro e w8 ⟨rfl, rfl⟩))
          refine bodyPost_ret (results_none rfl _ _ _) rfl ?_
          exact ⟨rfl, _, HR7.out, HFb.out.trans (HR4.out.fr HK7.out), .inr HE.out⟩
  · obtain ⟨e1, e2⟩ := num_cut hA
    rw [e1, e2] at cN
    have CN := Lib.hid cN
    rw [if_neg (by omega)] at hstep
    have HE := Lib.hid (HM.out.cut HF.out hstep)
    clear cN e1 e2 hstep
    go_enter Tryd.func46, Tryd.ntmps46
    go_wp2_with (first
      | (go_at_call 64; go_must (refine CB.out.mono ?_); rintro e w2 ⟨rfl, rfl⟩)
      | (go_at_call 24; go_must (refine CN.out.mono ?_); rintro e w2 ⟨rfl, hr2, hk2, -⟩; have HR2 := Lib.hid hr2; have HK2 := Lib.hid hk2; clear hr2 hk2)
      | (go_at_call 23; go_must (refine (r_shut w2 B rb S (s.cut S) HR2.out HE.out.2).mono ?_); rintro e w3 ⟨rfl, rfl⟩))
    refine bodyPost_ret (results_none rfl _ _ _) rfl ?_
    exact ⟨rfl, _, HR2.out, H.out.fr HK2.out, .inr HE.out⟩
end Go.Proofs.YtdpnlmofkkdioaaDoor.Hf
/- The reference's run: symbols. -/
namespace Go.Proofs.YtdpnlmofkkdioaaDoor.Hf
set_option linter.unusedVariables false
set_option linter.unusedSimpArgs false
open Go.RowKit Go.Proofs.YtdpnlmofkkdioaaDoor.W

/-- Where a block ends: at the next one's head, or it is over. -/
def SyEnd (S : Sr) (s : RS) (last : Bool) (s' : RS) : Prop :=
  (∃ m', Mc S s' m' ∧ m'.ph = .head ∧ m'.fin = last ∧ m'.last = last ∧ s.bit ≤ s'.bit) ∨ En S s'
def SyPost (w : World) (B rb : Nat) (S : Sr) (s : RS) (last : Bool) (e : Ending) (w' : World) : Prop := e = .returned (.tuple #[]) ∧ ∃ s', Rn w' B rb S s' ∧ Fr B w w' ∧ SyEnd S s last s'
theorem step_lit {m : M} {out : List Int} {bs : List Bool} (hph : m.ph = .lit) : step m out bs = match dec m.lt bs with
    | .got s k => some (litM m s k)
    | .bad j => some (stopM m 13, [], j)
    | .more => none := by unfold step; rw [hph]; dsimp only; cases dec m.lt bs <;> rfl
def Lit (S : Sr) (s0 : RS) (m0 : M) (g : Nat) (s : RS) : Prop :=
  (∃ m', Mc S s m' ∧ m'.ph = .lit ∧ m'.lt = m0.lt ∧ m'.ds = m0.ds ∧ m'.last = m0.last ∧ m'.fin = false ∧ s0.bit ≤ s.bit ∧ g = 8 * S.l.length - s.bit + 1) ∨ (En S s ∧ g = 0)
theorem CpEnd.lit {S : Sr} {s0 s s' : RS} {m0 m : M} (h : CpEnd S s m s') (h1 : m.lt = m0.lt) (h2 : m.ds = m0.ds) (h3 : m.last = m0.last) (h4 : s0.bit ≤ s.bit) {g : Nat} (hg : 8 * S.l.length - s.bit + 1 ≤ g) : ∃ g', g' ≤ g ∧ Lit S s0 m0 g' s' := by
  rcases h with ⟨m', k1, k2, k3, k4, k5, k6, k7⟩ | h
  · exact ⟨8 * S.l.length - s'.bit + 1, by omega, .inl ⟨m', k1, k2, k3.trans h1, k4.trans h2, k5.trans h3, k6, by omega, rfl⟩⟩
  · exact ⟨0, Nat.zero_le _, .inr ⟨h, rfl⟩⟩
set_option maxHeartbeats 8000000 in
set_option maxRecDepth 100000 in
theorem r_symbols (w : World) (B rb : Nat) (S : Sr) (s : RS) (m : M) (p q : Nat) (h : Rn w B rb S s) (hM : Mc S s m) (hph : m.ph = .lit) (hf : m.fin = false) (ht : Tr w p m.lt) (ht2 : Tr w q m.ds) (hb : 0 < s.bit) (hm : S.most ≤ 1048576) :
    Calls Tryd.prog 28 #[.pointer (some ⟨rb, 0, none⟩), .pointer (some ⟨p, 0, none⟩), .pointer (some ⟨q, 0, none⟩)] w (SyPost w B rb S s m.last) := by
  have H := Lib.hid h
  have HL0 := Lib.hid (show Lit S s m (8 * S.l.length - s.bit + 1) s from .inl ⟨m, hM, hph, rfl, rfl, rfl, hf, Nat.le_refl _, rfl⟩)
  have HT := Lib.hid ht
  have HT2 := Lib.hid ht2
  have HB0 := Lib.hid hb
  clear h hM hph hf ht ht2 hb
  go_enter Tryd.func28, Tryd.ntmps28
  go_wp2_with (fail)
  go_loopg [] (8 * S.l.length - s.bit + 1) (fun g wx => ∃ s' : RS, Rn wx B rb S s' ∧ Fr B w wx ∧ Hid (Lit S s m g s'))
  case atStart => exact ⟨s, H.out, Fr.refl _ _, Lib.hid HL0.out⟩
  case round =>
    obtain ⟨s', hR, hFr, hC⟩ := hrel
    have HR := Lib.hid hR
    have HFr := Lib.hid hFr
    clear hR hFr HL0
    rcases hC.out with ⟨m', hm', hph, p1, p2, p3, p4, p5, p6⟩ | ⟨hE, hg0⟩
    · have HM := Lib.hid hm'
      have HB := Lib.hid (show 0 < s'.bit by have := HB0.out; omega)
      have hpo := hm'.ok.ph hm'.mw
      unfold PhOk at hpo
      rw [hph] at hpo
      dsimp only at hpo
      have htab := hpo.lt
      have hll := hpo.ltl
      have hstep := step_lit (out := s'.out) (bs := (bits8 S.l).drop s'.bit) hph
      have hT' := HT.out.fr HFr.out
      rw [← p1] at hT'
      have cS := r_symbol wr B rb S s' p m'.lt HR.out hT' htab hll HB.out
      unfold RS.sym symV at cS
      have HP := Lib.hid (show m'.ph = .lit ∧ m'.lt = m.lt ∧ m'.ds = m.ds ∧ m'.last = m.last ∧ m'.fin = false ∧ s.bit ≤ s'.bit ∧ gk = 8 * S.l.length - s'.bit + 1 from ⟨hph, p1, p2, p3, p4, p5, p6⟩)
      have hbl := HR.out.bitl
      have tk1 : True := trivial
      clear hm' hph p1 p2 p3 p4 p5 hpo hT' hC
      cases hd : dec m'.lt ((bits8 S.l).drop s'.bit) with
      | more =>
        rw [hd] at cS hstep
        dsimp only at cS hstep
        have CS := Lib.hid cS
        have HE := Lib.hid (HM.out.cut HP.out.2.2.2.2.1 hstep)
        clear cS hstep hd p6
        go_wp2_with (first
          | (go_at_call 23; have _t := tk1; go_must (refine (r_open wr B rb S s' HR.out HM.out.why HM.out.en).mono ?_); rintro e w5 ⟨rfl, rfl⟩; clear tk1 _t)
          | (go_at_call 45; go_must (refine CS.out.mono ?_); rintro e w4 ⟨rfl, hr4, hk4, -⟩; have HR4 := Lib.hid hr4; have HK4 := Lib.hid hk4; clear hr4 hk4)
          | (go_at_call 23; go_must (refine (r_shut w4 B rb S (s'.cut S) HR4.out HE.out.2).mono ?_); rintro e w5 ⟨rfl, rfl⟩))
        refine bodyPost_ret (results_none rfl _ _ _) rfl ?_
        exact ⟨rfl, _, HR4.out, HFr.out.trans (HR.out.fr HK4.out), .inr HE.out⟩
      | bad j =>
        rw [hd] at cS hstep
        dsimp only at cS hstep
        have CS := Lib.hid cS
        have HE := Lib.hid (HM.out.halt HP.out.2.2.2.2.1 hstep (by show (13 : Nat) ≠ 0; decide) HP.out.2.2.2.2.1)
        clear cS hstep hd p6
        go_wp2_with (first
          | (go_at_call 23; have _t := tk1; go_must (refine (r_open wr B rb S s' HR.out HM.out.why HM.out.en).mono ?_); rintro e w5 ⟨rfl, rfl⟩; clear tk1 _t)
          | (go_at_call 45; go_must (refine CS.out.mono ?_); rintro e w4 ⟨rfl, hr4, hk4, -⟩; have HR4 := Lib.hid hr4; have HK4 := Lib.hid hk4; clear hr4 hk4)
          | (go_at_call 23; go_must (refine (r_shut w4 B rb S _ HR4.out HE.out.2).mono ?_); rintro e w5 ⟨rfl, rfl⟩))
        refine bodyPost_ret (results_none rfl _ _ _) rfl ?_
        exact ⟨rfl, _, HR4.out, HFr.out.trans (HR.out.fr HK4.out), .inr HE.out⟩
      | got x k =>
        rw [hd] at cS hstep
        dsimp only at cS hstep
        have CS := Lib.hid cS
        have hk0 := (dec_got hd).2
        have hx320 : x < 320 := Nat.lt_of_lt_of_le (dec_lt hd) hll
        have hkk : s'.bit + k ≤ 8 * S.l.length := by
          have h1 := (dec_take (lens := m'.lt) ((bits8 S.l).drop s'.bit) (Nat.le_refl _)).1
          rw [hd, bs_len] at h1
          dsimp only [dbits] at h1
          omega
        unfold litM at hstep
        obtain ⟨g, rfl⟩ : ∃ g, gk = g + 1 := ⟨gk - 1, by omega⟩
        have HBk := Lib.hid (show 0 < (s'.on k).bit by show 0 < s'.bit + k; omega)
        have HGG := Lib.hid (show 8 * S.l.length - (s'.bit + k) + 1 ≤ g by omega)
        have hmo := HM.out.why
        clear cS p6
        by_cases h285 : x > 285
        · rw [if_pos h285] at hstep
          have HE := Lib.hid (HM.out.halt HP.out.2.2.2.2.1 hstep (by show (13 : Nat) ≠ 0; decide) HP.out.2.2.2.2.1)
          have i1 : ((x : Int) == 256) = false := W.eqF (by omega)
          have i2 : ¬ (x : Int) < 256 := by omega
          have i3 : (285 : Int) < (x : Int) := by omega
          clear hstep hd
          go_wp2_with (first
            | (go_at_call 23; have _t := tk1; go_must (refine (r_open wr B rb S s' HR.out HM.out.why HM.out.en).mono ?_); rintro e w5 ⟨rfl, rfl⟩; clear tk1 _t)
            | (go_at_call 45; go_must (refine CS.out.mono ?_); rintro e w4 ⟨rfl, hr4, hk4, -⟩; have HR4 := Lib.hid hr4; have HK4 := Lib.hid hk4; clear hr4 hk4)
            | (go_at_call 23; go_must (refine (r_open w4 B rb S _ HR4.out HM.out.why HM.out.en).mono ?_); rintro e w5 ⟨rfl, rfl⟩)
            | (go_at_call 30; go_must (refine (r_stop w4 B rb S _ 13 HR4.out HBk.out).mono ?_); rintro e w5 ⟨rfl, hr5, hk5, -⟩))
          go_roundg 0
          case measure => omega
          case rel => exact ⟨_, hr5, (HFr.out.trans (HR.out.fr HK4.out)).trans (HR4.out.fr hk5), Lib.hid (.inr ⟨HE.out, rfl⟩)⟩
        · rw [if_neg h285] at hstep
          by_cases h256 : x < 256
          · rw [if_pos h256] at hstep
            have hg := HM.out.give HP.out.2.2.2.2.1 hstep HM.out.mw
            have HGV := Lib.hid (show ∃ g', g' ≤ g ∧ Lit S s m g' ((s'.on k).give S (x : Int)) from by
              rcases hg with ⟨_, h1, h2, _⟩ | ⟨_, h1⟩
              · exact ⟨8 * S.l.length - (s'.bit + k) + 1, HGG.out, .inl ⟨m', h1, HP.out.1, HP.out.2.1, HP.out.2.2.1, HP.out.2.2.2.1, HP.out.2.2.2.2.1, by rw [h2]; have := HP.out.2.2.2.2.2.1; omega, by rw [h2]⟩⟩
              · exact ⟨0, Nat.zero_le _, .inr ⟨h1, rfl⟩⟩)
            have i1 : ((x : Int) == 256) = false := W.eqF (by omega)
            have i2 : (x : Int) < 256 := by omega
            clear hstep hd hg
            go_wp2_with (first
              | (go_at_call 23; have _t := tk1; go_must (refine (r_open wr B rb S s' HR.out HM.out.why HM.out.en).mono ?_); rintro e w5 ⟨rfl, rfl⟩; clear tk1 _t)
              | (go_at_call 45; go_must (refine CS.out.mono ?_); rintro e w4 ⟨rfl, hr4, hk4, -⟩; have HR4 := Lib.hid hr4; have HK4 := Lib.hid hk4; clear hr4 hk4)
              | (go_at_call 23; go_must (refine (r_open w4 B rb S _ HR4.out HM.out.why HM.out.en).mono ?_); rintro e w5 ⟨rfl, rfl⟩)
              | (go_at_call 43; go_must (refine (r_give w4 B rb S _ (x : Int) HR4.out HBk.out hm HM.out.tsl HM.out.small).mono ?_); rintro e w5 ⟨rfl, hr5, hf5⟩))
            obtain ⟨g', hg', hL⟩ := HGV.out
            go_roundg g'
            case measure => omega
            case rel => exact ⟨_, hr5, (HFr.out.trans (HR.out.fr HK4.out)).trans hf5, Lib.hid hL⟩
          · rw [if_neg h256] at hstep
            by_cases he : x = 256
            · rw [if_pos he] at hstep
              have hM2 := HM.out.next HP.out.2.2.2.2.1 hstep HM.out.mw
              have HM2 := Lib.hid hM2
              have i1 : ((x : Int) == 256) = true := W.eqT (by omega)
              clear hstep hd hM2 he
              go_wp2_with (first
                | (go_at_call 23; have _t := tk1; go_must (refine (r_open wr B rb S s' HR.out HM.out.why HM.out.en).mono ?_); rintro e w5 ⟨rfl, rfl⟩; clear tk1 _t)
                | (go_at_call 45; go_must (refine CS.out.mono ?_); rintro e w4 ⟨rfl, hr4, hk4, -⟩; have HR4 := Lib.hid hr4; have HK4 := Lib.hid hk4; clear hr4 hk4)
                | (go_at_call 23; go_must (refine (r_open w4 B rb S _ HR4.out HM.out.why HM.out.en).mono ?_); rintro e w5 ⟨rfl, rfl⟩))
              refine bodyPost_ret (results_none rfl _ _ _) rfl ?_
              exact ⟨rfl, _, HR4.out, HFr.out.trans (HR.out.fr HK4.out), .inl ⟨_, HM2.out, rfl, HP.out.2.2.2.1, HP.out.2.2.2.1, by have := HP.out.2.2.2.2.2.1; show s.bit ≤ s'.bit + k; omega⟩⟩
            · rw [if_neg he] at hstep
              obtain ⟨y, rfl⟩ : ∃ y, x = 257 + y := ⟨x - 257, by omega⟩
              rw [show 257 + y - 257 = y by omega] at hstep
              have hM2 := HM.out.next HP.out.2.2.2.2.1 hstep HM.out.mw
              have HM2 := Lib.hid hM2
              have i1 : (((257 + y : Nat) : Int) == 256) = false := W.eqF (by omega)
              have i2 : ¬ ((257 + y : Nat) : Int) < 256 := by omega
              have i3 : ¬ (285 : Int) < ((257 + y : Nat) : Int) := by omega
              have CC := Lib.hid (fun (w4 : World) (h4 : Rn w4 B rb S (s'.on k)) (hF4 : Fr B w w4) => r_copied w4 B rb S (s'.on k) _ q y h4 HM2.out rfl rfl HP.out.2.2.2.2.1 (by have h9 := HT2.out.fr hF4; rw [← HP.out.2.2.1] at h9; exact h9) HBk.out hm)
              obtain ⟨x2, hx2⟩ : ∃ x2, 257 + y = x2 := ⟨_, rfl⟩
              rw [hx2] at CS CC i1 i2 i3
              clear hstep hd hM2 he
              go_wp2_with (first
                | (go_at_call 23; have _t := tk1; go_must (refine (r_open wr B rb S s' HR.out HM.out.why HM.out.en).mono ?_); rintro e w5 ⟨rfl, rfl⟩; clear tk1 _t)
                | (go_at_call 45; go_must (refine CS.out.mono ?_); rintro e w4 ⟨rfl, hr4, hk4, -⟩; have HR4 := Lib.hid hr4; have HK4 := Lib.hid hk4; clear hr4 hk4)
                | (go_at_call 23; go_must (refine (r_open w4 B rb S _ HR4.out HM.out.why HM.out.en).mono ?_); rintro e w5 ⟨rfl, rfl⟩)
                | (go_at_call 46; go_must (refine (CC.out w4 HR4.out (HFr.out.trans (HR.out.fr HK4.out))).mono ?_); rintro e w5 ⟨rfl, s5, hr5, hf5, hc5⟩))
              obtain ⟨g', hg', hL⟩ := hc5.lit (s0 := s) (m0 := m) HP.out.2.1 HP.out.2.2.1 HP.out.2.2.2.1 (by have := HP.out.2.2.2.2.2.1; show s.bit ≤ s'.bit + k; omega) (g := g) HGG.out
              go_roundg g'
              case measure => omega
              case rel => exact ⟨_, hr5, (HFr.out.trans (HR.out.fr HK4.out)).trans hf5, Lib.hid hL⟩
    · have HE := Lib.hid hE
      clear hE
      go_wp2_with (first
        | (go_at_call 23; go_must (refine (r_shut wr B rb S s' HR.out HE.out.2).mono ?_); rintro e w8 ⟨rfl, rfl⟩))
      refine bodyPost_ret (results_none rfl _ _ _) rfl ?_
      exact ⟨rfl, s', HR.out, HFr.out, .inr HE.out⟩
end Go.Proofs.YtdpnlmofkkdioaaDoor.Hf
/- The reference's run: stored. -/
namespace Go.Proofs.YtdpnlmofkkdioaaDoor.Hf
set_option linter.unusedVariables false
set_option linter.unusedSimpArgs false
open Go.RowKit Go.Proofs.YtdpnlmofkkdioaaDoor.W

theorem step_sth {m : M} {out : List Int} {bs : List Bool} (hph : m.ph = .sth) : step m out bs = if 32 ≤ bs.length then some (sthM m (Hf.num (bs.take 32)), [], 32) else none := by unfold step; rw [hph]
theorem step_sto {m : M} {out : List Int} {bs : List Bool} (hph : m.ph = .sto) : step m out bs = if m.left = 0 then some (overM m, [], 0) else if 8 ≤ bs.length then some (stoM m, [((Hf.num (bs.take 8) : Nat) : Int)], 8) else none := by unfold step; rw [hph]
theorem two16 (bs : List Bool) (h : 32 ≤ bs.length) : Hf.num (bs.take 32) % 65536 = Hf.num (bs.take 16) ∧ Hf.num (bs.take 32) / 65536 = Hf.num ((bs.drop 16).take 16) := by
  have hl : (bs.take 32).length = 32 := by rw [List.length_take]; omega
  have h1 := num_take (bs.take 32) 16 (by omega)
  have h2 := num_drop (bs.take 32) 16 (by omega)
  rw [take_take (by omega)] at h1
  rw [List.drop_take] at h2
  exact ⟨h1.symm, h2.symm⟩
/-- While storing. -/
def Sto (S : Sr) (s0 : RS) (last : Bool) (g : Nat) (s : RS) : Prop :=
  (∃ m', Mc S s m' ∧ (if g = 0 then m'.ph = .head ∧ m'.fin = last else m'.ph = .sto ∧ m'.left = g ∧ m'.fin = false) ∧ m'.last = last ∧ s0.bit ≤ s.bit) ∨ En S s
theorem Sto.done {S : Sr} {s0 s : RS} {last : Bool} (h : Sto S s0 last 0 s) : SyEnd S s0 last s := by
  rcases h with ⟨m', h1, h2, h3, h4⟩ | h
  · rw [if_pos rfl] at h2
    exact .inl ⟨m', h1, h2.1, h2.2, h3, h4⟩
  · exact .inr h
theorem Sto.stp {S : Sr} {s0 s : RS} {m : M} {last : Bool} {g : Nat} (h : Mc S s m) (hph : m.ph = .sto) (hl : m.left = g + 1) (hf : m.fin = false) (hL : m.last = last) (hb : s0.bit ≤ s.bit) (h8 : s.bit + 8 ≤ 8 * S.l.length) :
    Sto S s0 last g ((s.on 8).give S ((Hf.num (((bits8 S.l).drop s.bit).take 8) : Nat) : Int)) := by
  have hs := step_sto (out := s.out) (bs := (bits8 S.l).drop s.bit) hph
  rw [hl, if_neg (by omega), if_pos (by rw [bs_len]; omega)] at hs
  have hg := h.give hf hs (by unfold stoM; split <;> exact h.mw)
  rcases hg with ⟨_, hm, hbit, hout⟩ | ⟨_, he⟩
  · refine .inl ⟨_, hm, ?_, ?_, by rw [hbit]; omega⟩
    · unfold stoM
      by_cases hg0 : g = 0
      · subst hg0
        rw [if_pos rfl, if_pos hl]
        exact ⟨rfl, hL⟩
      · rw [if_neg hg0, if_neg (by omega)]
        exact ⟨hph, by show m.left - 1 = g; omega, hf⟩
    · unfold stoM
      split <;> exact hL
  · exact .inr he
set_option maxHeartbeats 8000000 in
set_option maxRecDepth 100000 in
theorem r_stored (w : World) (B rb : Nat) (S : Sr) (s : RS) (m : M) (h : Rn w B rb S s) (hM : Mc S (s.on ((8 * S.l.length - s.bit) % 8)) m) (hph : m.ph = .sth) (hf : m.fin = false) (hb : 0 < s.bit) (hm : S.most ≤ 1048576) :
    Calls Tryd.prog 25 #[.pointer (some ⟨rb, 0, none⟩)] w (SyPost w B rb S s m.last) := by
  obtain ⟨pad, hpad⟩ : ∃ pad, (8 * S.l.length - s.bit) % 8 = pad := ⟨_, rfl⟩
  rw [hpad] at hM
  have hbl := h.bitl
  have hll := h.len
  have c7 := h.c7
  have fz := h.fz
  have lt := h.lt
  have H := Lib.hid h
  obtain ⟨b, hb'⟩ : ∃ b, s.bit = b := ⟨_, rfl⟩
  have HBB := Lib.hid hb'
  rw [hb'] at c7 hpad hbl hb
  obtain ⟨b1, hb1⟩ : ∃ b1, b + pad = b1 := ⟨_, rfl⟩
  have hb18 : b1 ≤ 8 * S.l.length := by omega
  have e7 : ((b : Int) + 7) / 8 * 8 = (b1 : Int) := by omega
  obtain ⟨s1, hs1⟩ : ∃ s1, s.on pad = s1 := ⟨_, rfl⟩
  rw [hs1] at hM
  have hs1b : s1.bit = b1 := by rw [← hs1]; show s.bit + pad = b1; rw [hb']; exact hb1
  have HS1 := Lib.hid hs1b
  have hk1 : Kp [rb] w (w.setCell ⟨rb, 7, none⟩ (.int .i64 (b1 : Int))) := (Kp.refl _ _).setCell (.inl (by simp)) _
  have HR1 := Lib.hid (show Rn (w.setCell ⟨rb, 7, none⟩ (.int .i64 (b1 : Int))) B rb S s1 from by
    refine H.out.turn hk1 (by rw [← hs1]; rfl) (by rw [← hs1]; rfl) (by rw [hs1b]; exact hb18) fun Ao At co ct h3 => ?_
    rw [heap_set h3 7 _, ← hs1b, ← hs1]
    rfl)
  have HF1 := Lib.hid (H.out.fr hk1)
  have HM := Lib.hid hM
  have HP := Lib.hid (show m.ph = .sth ∧ m.fin = false ∧ s.bit ≤ s1.bit from ⟨hph, hf, by rw [← hs1]; exact Nat.le_add_right _ _⟩)
  have HB1 := Lib.hid (show 0 < b1 by omega)
  have hstep := step_sth (out := s1.out) (bs := (bits8 S.l).drop s1.bit) hph
  rw [bs_len] at hstep
  clear h hM hph hf hb' hpad hb1 hs1 hs1b hk1
  have tk1 : True := trivial
  have tk2 : True := trivial
  go_enter Tryd.func25, Tryd.ntmps25
  go_upto_region 1 with (fail)
  try rw [e7]
  change Code.wp _ _ _ _ (w.setCell ⟨rb, 7, none⟩ (.int .i64 (b1 : Int)))
  have cN := r_number _ B rb S s1 16 HR1.out (by omega)
  generalize w.setCell ⟨rb, 7, none⟩ (.int .i64 (b1 : Int)) = w1 at *
  clear c7 fz lt e7
  by_cases hA : b1 + 16 ≤ 8 * S.l.length
  · obtain ⟨e1, e2⟩ := num_on (S := S) (s := s1) (n := 16) (by rw [HS1.out]; exact hA)
    rw [e1, e2] at cN
    obtain ⟨V, hV⟩ : ∃ V, Hf.num (((bits8 S.l).drop s1.bit).take 16) = V := ⟨_, rfl⟩
    have hV6 := num_take_lt ((bits8 S.l).drop s1.bit) (n := 16)
    rw [hV] at cN hV6
    have CN := Lib.hid cN
    obtain ⟨s2, hs2⟩ : ∃ s2, s1.on 16 = s2 := ⟨_, rfl⟩
    rw [hs2] at CN
    have HS2 := Lib.hid (show s2.bit = b1 + 16 ∧ s2.why = 0 ∧ s2.en = false from by rw [← hs2]; exact ⟨by show s1.bit + 16 = _; rw [HS1.out], HM.out.why, HM.out.en⟩)
    clear cN e1 e2
    go_upto_region 3 with (first
      | (go_at_call 24; go_must (refine CN.out.mono ?_); rintro e w2 ⟨rfl, hr2, hk2, -⟩; have HR2 := Lib.hid hr2; have HK2 := Lib.hid hk2; clear hr2 hk2)
      | (go_at_call 23; go_must (refine (r_open w2 B rb S s2 HR2.out HS2.out.2.1 HS2.out.2.2).mono ?_); rintro e w3 ⟨rfl, rfl⟩))
    have HF2 := Lib.hid (HF1.out.trans (HR1.out.fr HK2.out))
    have cN2 := r_number w2 B rb S s2 16 HR2.out (by omega)
    clear CN HK2
    by_cases hA2 : b1 + 32 ≤ 8 * S.l.length
    · obtain ⟨e1, e2⟩ := num_on (S := S) (s := s2) (n := 16) (by rw [HS2.out.1]; omega)
      rw [e1, e2, HS2.out.1] at cN2
      rw [if_pos (by rw [HS1.out]; omega)] at hstep
      obtain ⟨t1, t2⟩ := two16 ((bits8 S.l).drop s1.bit) (by rw [bs_len, HS1.out]; omega)
      rw [hV] at t1
      obtain ⟨U, hU⟩ : ∃ U, Hf.num (((bits8 S.l).drop (b1 + 16)).take 16) = U := ⟨_, rfl⟩
      have hU6 := num_take_lt ((bits8 S.l).drop (b1 + 16)) (n := 16)
      rw [hU] at cN2 hU6
      replace t2 : Hf.num (((bits8 S.l).drop s1.bit).take 32) / 65536 = U := by rw [t2, List.drop_drop, HS1.out]; exact hU
      have CN2 := Lib.hid cN2
      unfold sthM at hstep
      rw [t1, t2] at hstep
      have hp16 : (2 : Nat) ^ 16 = 65536 := by decide
      rw [hp16] at hV6 hU6
      obtain ⟨s3, hs3⟩ : ∃ s3, s2.on 16 = s3 := ⟨_, rfl⟩
      have h32 : s1.on 32 = s3 := by rw [← hs3, ← hs2]; show ({ s1 with bit := s1.bit + 32 } : RS) = { s1 with bit := s1.bit + 16 + 16 }; rw [Nat.add_assoc]
      rw [hs3] at CN2
      have HS3 := Lib.hid (show s3.why = 0 ∧ s3.en = false ∧ s3.bit = b1 + 32 from by rw [← hs3]; exact ⟨HS2.out.2.1, HS2.out.2.2, by show s2.bit + 16 = _; rw [HS2.out.1]⟩)
      clear cN2 e1 e2 t1 t2 hU hV hs3 hs2
      by_cases hs : V + U = 65535
      · rw [if_pos hs] at hstep
        have hM2 := HM.out.next HP.out.2.1 hstep HM.out.mw
        rw [h32] at hM2
        have HC0 := Lib.hid (show Sto S s m.last V s3 from by
          have hb3 : s.bit ≤ s3.bit := by rw [HS3.out.2.2]; have := HP.out.2.2; have := HS1.out; omega
          by_cases hV0 : V = 0
          · have hs9 := step_sto (m := ({ m with left := V, ph := .sto } : M)) (out := s3.out) (bs := (bits8 S.l).drop s3.bit) rfl
            rw [if_pos hV0] at hs9
            have hM3 := hM2.next HP.out.2.1 hs9 HM.out.mw
            rw [RS.on_zero] at hM3
            exact .inl ⟨_, hM3, by rw [if_pos hV0]; exact ⟨rfl, rfl⟩, rfl, hb3⟩
          · exact .inl ⟨_, hM2, by rw [if_neg hV0]; exact ⟨rfl, rfl, HP.out.2.1⟩, rfl, hb3⟩)
        have i1 : ((V : Int) + (U : Int) != 65535) = false := W.neF (by omega)
        have i2 : ((V : Int) + (U : Int) == 65535) = true := W.eqT (by omega)
        clear hstep hM2
        go_wp2_with (first
          | (go_at_call 24; go_must (refine CN2.out.mono ?_); rintro e w4 ⟨rfl, hr4, hk4, -⟩; have HR4 := Lib.hid hr4; have HK4 := Lib.hid hk4; clear hr4 hk4)
          | (go_at_call 23; go_must (refine (r_open w4 B rb S s3 HR4.out HS3.out.1 HS3.out.2.1).mono ?_); rintro e w5 ⟨rfl, rfl⟩))
        go_loopg [4] V (fun g s4 wx => ∃ (i : Nat) (s' : RS), i + g = V ∧ s4 = .int .i64 (i : Nat) ∧ Rn wx B rb S s' ∧ Fr B w4 wx ∧ Hid (Sto S s m.last g s'))
        case atStart => exact ⟨0, s3, by omega, rfl, HR4.out, Fr.refl _ _, Lib.hid HC0.out⟩
        case round =>
          obtain ⟨i, s', hig, rfl, hR, hFr, hC⟩ := hrel
          have HRr := Lib.hid hR
          have HFr := Lib.hid hFr
          have HFz := Lib.hid ((HF2.out.trans (HR2.out.fr HK4.out)).trans hFr)
          clear hR hFr HC0
          cases gk with
          | zero =>
            obtain rfl : i = V := by omega
            have hk : ¬ (i : Int) < (i : Int) := by omega
            go_wp2_with (fail)
            refine bodyPost_ret (results_none rfl _ _ _) rfl ?_
            exact ⟨rfl, s', HRr.out, HFz.out, hC.out.done⟩
          | succ g =>
            have hk : (i : Int) < (V : Int) := by omega
            rcases hC.out with ⟨m', hm', hphl, hL, hbb⟩ | hE
            · rw [if_neg (by omega)] at hphl
              have HM9 := Lib.hid hm'
              have cN8 := r_number wr B rb S s' 8 HRr.out (by omega)
              by_cases h8 : s'.bit + 8 ≤ 8 * S.l.length
              · obtain ⟨e1, e2⟩ := num_on (S := S) (s := s') (n := 8) h8
                rw [e1, e2] at cN8
                have hST := Sto.stp (s0 := s) hm' hphl.1 hphl.2.1 hphl.2.2 hL hbb h8
                obtain ⟨x, hx⟩ : ∃ x, Hf.num (((bits8 S.l).drop s'.bit).take 8) = x := ⟨_, rfl⟩
                have hx6 := num_take_lt ((bits8 S.l).drop s'.bit) (n := 8)
                have hp8 : (2 : Nat) ^ 8 = 256 := by decide
                rw [hx] at cN8 hST hx6
                rw [hp8] at hx6
                have CN8 := Lib.hid cN8
                have HST := Lib.hid hST
                have HB8 := Lib.hid (show 0 < (s'.on 8).bit by show 0 < s'.bit + 8; omega)
                clear cN8 e1 e2 hST hx hm' hphl hC
                go_wp2_with (first
                  | (go_at_call 23; have _t := tk1; go_must (refine (r_open wr B rb S s' HRr.out HM9.out.why HM9.out.en).mono ?_); rintro e w5 ⟨rfl, rfl⟩; clear tk1 _t)
                  | (go_at_call 24; go_must (refine CN8.out.mono ?_); rintro e w6 ⟨rfl, hr6, hk6, -⟩; have HR6 := Lib.hid hr6; have HK6 := Lib.hid hk6; clear hr6 hk6)
                  | (go_at_call 23; go_must (refine (r_open w6 B rb S _ HR6.out HM9.out.why HM9.out.en).mono ?_); rintro e w7 ⟨rfl, rfl⟩)
                  | (go_at_call 43; go_must (refine (r_give w6 B rb S _ (x : Int) HR6.out HB8.out hm HM9.out.tsl HM9.out.small).mono ?_); rintro e w7 ⟨rfl, hr7, hf7⟩))
                go_roundg g
                case measure => omega
                case rel => exact ⟨i + 1, _, by omega, by go_num, hr7, (HFr.out.trans (HRr.out.fr HK6.out)).trans hf7, HST⟩
              · obtain ⟨e1, e2⟩ := num_cut (S := S) (s := s') (n := 8) h8
                rw [e1, e2] at cN8
                have hs9 := step_sto (out := s'.out) (bs := (bits8 S.l).drop s'.bit) hphl.1
                rw [if_neg (by omega), if_neg (by rw [bs_len]; omega)] at hs9
                have HE := Lib.hid (hm'.cut hphl.2.2 hs9)
                have CN8 := Lib.hid cN8
                clear cN8 e1 e2 hs9 hm' hphl hC
                go_wp2_with (first
                  | (go_at_call 23; have _t := tk1; go_must (refine (r_open wr B rb S s' HRr.out HM9.out.why HM9.out.en).mono ?_); rintro e w5 ⟨rfl, rfl⟩; clear tk1 _t)
                  | (go_at_call 24; go_must (refine CN8.out.mono ?_); rintro e w6 ⟨rfl, hr6, hk6, -⟩; have HR6 := Lib.hid hr6; have HK6 := Lib.hid hk6; clear hr6 hk6)
                  | (go_at_call 23; go_must (refine (r_shut w6 B rb S _ HR6.out HE.out.2).mono ?_); rintro e w7 ⟨rfl, rfl⟩))
                go_roundg g
                case measure => omega
                case rel => exact ⟨i + 1, _, by omega, by go_num, HR6.out, HFr.out.trans (HRr.out.fr HK6.out), Lib.hid (.inr HE.out)⟩
            · have HE := Lib.hid hE
              clear hE
              go_wp2_with (first
                | (go_at_call 23; go_must (refine (r_shut wr B rb S s' HRr.out HE.out.2).mono ?_); rintro e w8 ⟨rfl, rfl⟩))
              refine bodyPost_ret (results_none rfl _ _ _) rfl ?_
              exact ⟨rfl, s', HRr.out, HFz.out, .inr HE.out⟩
      · rw [if_neg hs] at hstep
        have hE := HM.out.halt HP.out.2.1 hstep (by show (11 : Nat) ≠ 0; decide) HP.out.2.1
        rw [h32] at hE
        have HE := Lib.hid hE
        have HB3 := Lib.hid (show 0 < s3.bit by rw [HS3.out.2.2]; omega)
        have i1 : ((V : Int) + (U : Int) != 65535) = true := W.neT (by omega)
        have i2 : ((V : Int) + (U : Int) == 65535) = false := W.eqF (by omega)
        clear hstep hE
        go_wp2_with (first
          | (go_at_call 24; go_must (refine CN2.out.mono ?_); rintro e w4 ⟨rfl, hr4, hk4, -⟩; have HR4 := Lib.hid hr4; have HK4 := Lib.hid hk4; clear hr4 hk4)
          | (go_at_call 23; go_must (refine (r_open w4 B rb S s3 HR4.out HS3.out.1 HS3.out.2.1).mono ?_); rintro e w5 ⟨rfl, rfl⟩)
          | (go_at_call 30; go_must (refine (r_stop w4 B rb S s3 11 HR4.out HB3.out).mono ?_); rintro e w5 ⟨rfl, hr5, hk5, -⟩))
        refine bodyPost_ret (results_none rfl _ _ _) rfl ?_
        exact ⟨rfl, _, hr5, (HF2.out.trans (HR2.out.fr HK4.out)).trans (HR4.out.fr hk5), .inr HE.out⟩
    · obtain ⟨e1, e2⟩ := num_cut (S := S) (s := s2) (n := 16) (by rw [HS2.out.1]; omega)
      rw [e1, e2] at cN2
      have CN2 := Lib.hid cN2
      rw [if_neg (by rw [HS1.out]; omega)] at hstep
      have HE := Lib.hid (show En S (s2.cut S) from by rw [← hs2]; exact HM.out.cut HP.out.2.1 hstep)
      clear cN2 e1 e2 hstep
      go_wp2_with (first
        | (go_at_call 24; go_must (refine CN2.out.mono ?_); rintro e w4 ⟨rfl, hr4, hk4, -⟩; have HR4 := Lib.hid hr4; have HK4 := Lib.hid hk4; clear hr4 hk4)
        | (go_at_call 23; go_must (refine (r_shut w4 B rb S _ HR4.out HE.out.2).mono ?_); rintro e w5 ⟨rfl, rfl⟩))
      refine bodyPost_ret (results_none rfl _ _ _) rfl ?_
      exact ⟨rfl, _, HR4.out, HF2.out.trans (HR2.out.fr HK4.out), .inr HE.out⟩
  · obtain ⟨e1, e2⟩ := num_cut (S := S) (s := s1) (n := 16) (by rw [HS1.out]; exact hA)
    rw [e1, e2] at cN
    have CN := Lib.hid cN
    rw [if_neg (by rw [HS1.out]; omega)] at hstep
    have HE := Lib.hid (HM.out.cut HP.out.2.1 hstep)
    clear cN e1 e2 hstep
    go_wp2_with (first
      | (go_at_call 24; go_must (refine CN.out.mono ?_); rintro e w4 ⟨rfl, hr4, hk4, -⟩; have HR4 := Lib.hid hr4; have HK4 := Lib.hid hk4; clear hr4 hk4)
      | (go_at_call 23; go_must (refine (r_shut w4 B rb S _ HR4.out HE.out.2).mono ?_); rintro e w5 ⟨rfl, rfl⟩))
    refine bodyPost_ret (results_none rfl _ _ _) rfl ?_
    exact ⟨rfl, _, HR4.out, HF1.out.trans (HR1.out.fr HK4.out), .inr HE.out⟩
end Go.Proofs.YtdpnlmofkkdioaaDoor.Hf
