/- InflateCuts: the walk. -/
import Derived.Test.YtdpnlmofkkdioaaDoorVo
namespace Go.Proofs.YtdpnlmofkkdioaaDoor.Hf
set_option linter.unusedVariables false
set_option linter.unusedSimpArgs false
open Go.RowKit Go.Proofs.YtdpnlmofkkdioaaDoor.W

theorem prefix_take {a b : List Int} (h : a <+: b) : a = b.take a.length := List.prefix_iff_eq_take.1 h
theorem RB.take {w : World} {A : Option Addr} {l : List Int} (h : RB w A l) (k : Nat) : RB w A (l.take k) := by
  have h1 := RV.take h k
  unfold RB u8s at *
  rw [List.map_take]
  exact h1
set_option maxHeartbeats 4000000 in
set_option maxRecDepth 100000 in
theorem c_infcuts (A : Option Addr) (L c : Nat) (l : List Int) (Ap : Option Addr) (np cp : Nat) (ps : List (Int × Int × Bool × Bool)) (a : Int) (w : World) (hG : Gt w [])
    (hL : l.length = L) (hc : L ≤ c) (hL2 : L ≤ 140737488351232) (hB : Bytes l) (hr : RB w A l) (hp : ps.length = np) (hcp : np ≤ cp) (hp2 : np ≤ 140737488351232) (hrp : RP4 w Ap ps) (hwf : (Lit.int .u16 a).wf = true) :
    Calls Tryd.prog 8 #[.slice A L c, .slice Ap np cp, .int .u16 a] w (TrueP w) := by
  have hab := bounds_u16 hwf
  have HG := Lib.hid hG
  have HL := Lib.hid hL
  have HB := Lib.hid hB
  have HR := Lib.hid hr
  by_cases hg : L ≤ 5000
  · have i1 : ¬ (L : Int) > 5000 := by omega
    by_cases hg2 : np ≤ 200
    · have i2 : ¬ (np : Int) > 200 := by omega
      have CZ := Lib.hid (w_deflate w A Ap L c np cp l ps hL hg hB hr hp hg2 hrp)
      clear hG hL hB hr hp hrp hwf
      go_enter Tryd.func8, Tryd.ntmps8
      go_upto_region 4 with (first
        | (go_at_call 22; go_must (refine CZ.out.mono ?_); rintro e w1 ⟨A1, c1, zl, bits, n1, rfl, hn1, hown, hpk, hwr, hn7, hbel⟩; have HN1 := Lib.hid hn1; have HOZ := Lib.hid hown; have HPK := Lib.hid hpk; have HWR := Lib.hid hwr; have HBZ := Lib.hid hbel; clear hn1 hown hpk hwr hbel))
      obtain ⟨tsb, ab, hbk1, hbk2⟩ := HWR.out.back (behind := []) HPK.out L (by rw [HL.out]; exact Nat.le_refl _)
      have hn1 : 1 ≤ n1 := by rw [HN1.out] at hbk2; omega
      have hn1i : (1 : Int) ≤ (n1 : Int) := by omega
      obtain ⟨K, hK⟩ : ∃ K : Nat, a % (n1 : Int) = (K : Int) := ⟨(a % (n1 : Int)).toNat, by have := Int.emod_nonneg a (show (n1 : Int) ≠ 0 by omega); omega⟩
      have hKn : K < n1 := by have := Int.emod_lt_of_pos a (show (0 : Int) < (n1 : Int) by omega); omega
      obtain ⟨J, hJ⟩ : ∃ J : Nat, (K : Int) / 2 = (J : Int) := ⟨K / 2, by omega⟩
      have hJK : J ≤ K := by omega
      have hc1 : n1 ≤ c1 := by obtain ⟨_, _, h1, h2⟩ := W.slice_form HOZ.out; injection h1 with _ _ h3; omega
      obtain ⟨s, hs⟩ := HWR.out.cuts HPK.out (k := K) (by rw [HN1.out]; exact hKn)
      obtain ⟨s', hs'⟩ := HWR.out.cuts HPK.out (k := J) (by rw [HN1.out]; omega)
      have HS1 := Lib.hid (hs.res (L + 9) (by rw [HL.out]; omega) (by rw [HN1.out]; exact hKn))
      have HS2 := Lib.hid (hs'.res (L + 9) (by rw [HL.out]; omega) (by rw [HN1.out]; omega))
      have HPX := Lib.hid (hs.less hs' hJK (by rw [HN1.out]; exact hKn))
      have HPY := Lib.hid hs.out
      obtain ⟨o2, ho2⟩ : ∃ o, s.out = o := ⟨_, rfl⟩
      obtain ⟨o3, ho3⟩ : ∃ o, s'.out = o := ⟨_, rfl⟩
      obtain ⟨ts2, hts2⟩ : ∃ o, s.ts = o := ⟨_, rfl⟩
      obtain ⟨ts3, hts3⟩ : ∃ o, s'.ts = o := ⟨_, rfl⟩
      rw [ho2, hts2] at HS1
      rw [ho3, hts3] at HS2
      rw [ho2, ho3] at HPX
      rw [ho2] at HPY
      obtain ⟨m2, hm2⟩ : ∃ m, o2.length = m := ⟨_, rfl⟩
      obtain ⟨m3, hm3⟩ : ∃ m, o3.length = m := ⟨_, rfl⟩
      have HM2 := Lib.hid hm2
      have HM3 := Lib.hid hm3
      have hmL : m2 ≤ L := by rw [← hm2, ← HL.out]; exact HPY.out.length_le
      have hmm : m3 ≤ m2 := by rw [← hm2, ← hm3]; exact HPX.out.length_le
      have HKL := Lib.hid (show (zl.take K).length = K by rw [List.length_take, HN1.out]; omega)
      have HJL := Lib.hid (show (zl.take J).length = J by rw [List.length_take, HN1.out]; omega)
      have C1 := Lib.hid (c_whole A1 K c1 (zl.take K) ((L : Int) + 9) w1 HKL.out (by omega) (fun x hx => HPK.out.1 x (List.mem_of_mem_take hx)) (RB.take (RV.own HOZ.out) K) (by omega) (by omega) (HG.out.kept (Kp.of_below (S := []) HBZ.out) (fun k hk => hk)))
      have hnn : ((L : Int) + 9).toNat = L + 9 := by omega
      rw [hnn] at C1
      clear hbk1 hbk2 hs hs' ho2 ho3 hts2 hts3 hm2 hm3 CZ hnn
      have q1 : (K : Int) ≤ (c1 : Int) := by omega
      have q2 : (J : Int) ≤ (c1 : Int) := by omega
      have q3 : (m2 : Int) ≤ (c : Int) := by omega
      go_upto_region 6 with (first
        | (go_at_call 10; go_must (refine C1.out.mono ?_); rintro e w2 ⟨A2, mq, c2, oq, tq, aq, yq, en2, rfl, hres, hown, hk⟩; obtain ⟨u1, u2, u3, u4, u5⟩ := hres.uniq HS1.out; subst u1; subst u4; obtain rfl : mq = m2 := (by have h9 := hown.1; rw [u8s_length] at h9; rw [← HM2.out]; omega); have hus : min (aq + 1) (zl.take K).length = K := (by rw [HKL.out, u3]; omega); rw [hus]; clear hus; have HOWN := Lib.hid hown; have HK2 := Lib.hid hk; clear hres hown hk u2 u3 u5))
      have hc2 : mq ≤ c2 := by obtain ⟨_, _, h1, h2⟩ := W.slice_form HOWN.out; injection h1 with _ _ h3; omega
      have C2 := Lib.hid (c_whole A1 J c1 (zl.take J) ((L : Int) + 9) w2 HJL.out (by omega) (fun x hx => HPK.out.1 x (List.mem_of_mem_take hx)) (RB.take ((RV.own HOZ.out).below (HK2.out.below (Nat.le_refl _) (by simp))) J) (by omega) (by omega) (HG.out.kept ((Kp.of_below (S := []) HBZ.out).trans HK2.out) (fun k hk => hk)))
      have hnn : ((L : Int) + 9).toNat = L + 9 := by omega
      rw [hnn] at C2
      clear C1 hnn
      go_upto_region 7 with (first
        | (go_at_call 10; go_must (refine C2.out.mono ?_); rintro e w3 ⟨A3, mr, c3, or_, tr, ar, yr, en3, rfl, hres, hown, hk⟩; obtain ⟨u1, u2, u3, u4, u5⟩ := hres.uniq HS2.out; subst u1; subst u4; obtain rfl : mr = m3 := (by have h9 := hown.1; rw [u8s_length] at h9; rw [← HM3.out]; omega); have HOWN3 := Lib.hid hown; have HK3 := Lib.hid hk; clear hres hown hk u2 u3 u5))
      clear hJ hK C2
      have HKK := Lib.hid ((Kp.of_below (S := []) HBZ.out).trans (HK2.out.trans HK3.out))
      have i3 : (mq : Int) ≤ (L : Int) := by omega
      have i4 : (mr : Int) ≤ (mq : Int) := by omega
      have i5 : ((K : Int) == (K : Int)) = true := W.eqT rfl
      have q4 : (mr : Int) ≤ (c2 : Int) := by omega
      have HT1 := Lib.hid (show oq = l.take mq by rw [← HM2.out]; exact prefix_take HPY.out)
      have HT2 := Lib.hid (show or_ = oq.take mr by rw [← HM3.out]; exact prefix_take HPX.out)
      have tk1 : True := trivial
      go_wp2_with (first
        | (go_at_call 12; have _t := tk1; go_must (have cS := c_same A2 A mq mq c2 c oq (l.take mq) w3 HM2.out (by rw [List.length_take, HL.out]; omega) (by omega) (by omega) ((RV.own HOWN.out).below (HK3.out.below (Nat.le_refl _) (by simp))) (RB.take (HR.out.below (HKK.out.below (Nat.le_refl _) (by simp))) mq)); go_must (rw [decT HT1.out] at cS); go_must (refine cS.mono ?_); rintro e w5 ⟨rfl, d5, rfl⟩; clear cS tk1 _t)
        | (go_at_call 12; go_must (have cS := c_same A3 A2 mr mr c3 c2 or_ (oq.take mr) (w3.drewN d5) HM3.out (by rw [List.length_take, HM2.out]; omega) (by omega) (by omega) (RV.drewN (RV.own HOWN3.out) _) (RV.drewN (RB.take ((RV.own HOWN.out).below (HK3.out.below (Nat.le_refl _) (by simp))) mr) _)); go_must (rw [decT HT2.out] at cS); go_must (refine cS.mono ?_); rintro e w6 ⟨rfl, d6, rfl⟩; clear cS)
        | (go_at_call 14; go_must (refine (c_awake _ (HG.out.kept (HKK.out.drewN _) (fun k hk => hk))).mono ?_); rintro e w8 ⟨rfl, hk8⟩))
      go_ret
      exact ⟨rfl, ((HKK.out.drewN _).trans hk8).below (Nat.le_refl _) (by simp)⟩
    · have i2 : (np : Int) > 200 := by omega
      clear hG hL hB hr hp hrp
      go_enter Tryd.func8, Tryd.ntmps8
      go_wp2_with (first
        | (go_at_call 14; go_must (refine (c_awake _ HG.out).mono ?_); rintro e w8 ⟨rfl, hk8⟩))
      go_ret
      exact ⟨rfl, hk8.below (Nat.le_refl _) (by simp)⟩
  · have i1 : (L : Int) > 5000 := by omega
    clear hG hL hB hr hp hrp
    go_enter Tryd.func8, Tryd.ntmps8
    go_wp2_with (first
      | (go_at_call 14; go_must (refine (c_awake _ HG.out).mono ?_); rintro e w8 ⟨rfl, hk8⟩))
    go_ret
    exact ⟨rfl, hk8.below (Nat.le_refl _) (by simp)⟩
end Go.Proofs.YtdpnlmofkkdioaaDoor.Hf
