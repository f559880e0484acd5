/- InflateBack: the walk. -/
import Derived.Test.YtdpnlmofkkdioaaDoorVm
import Derived.Test.YtdpnlmofkkdioaaDoorVn
import Derived.Test.YtdpnlmofkkdioaaDoorArgq
import Derived.Test.YtdpnlmofkkdioaaDoorLc
import Derived.Test.YtdpnlmofkkdioaaDoorJa
namespace Go.Proofs.YtdpnlmofkkdioaaDoor.Hf
set_option linter.unusedVariables false
set_option linter.unusedSimpArgs false
open Go.RowKit Go.Proofs.YtdpnlmofkkdioaaDoor.W

set_option maxHeartbeats 4000000 in
set_option maxRecDepth 100000 in
theorem c_infback (A : Option Addr) (L c : Nat) (l : List Int) (Ap : Option Addr) (np cp : Nat) (ps : List (Int × Int × Bool × Bool)) (A3 : Option Addr) (nb c3 : Nat) (beh : List Int) (w : World) (hG : Gt w [])
    (hL : l.length = L) (hc : L ≤ c) (hL2 : L ≤ 140737488351232) (hB : Bytes l) (hr : RB w A l) (hp : ps.length = np) (hcp : np ≤ cp) (hp2 : np ≤ 140737488351232) (hrp : RP4 w Ap ps) (hL3 : beh.length = nb) (hc3 : nb ≤ c3) (hL32 : nb ≤ 140737488351232) (hB3 : Bytes beh) (hr3 : RB w A3 beh) (hbk : nb ≤ 1048576) :
    Calls Tryd.prog 7 #[.slice A L c, .slice Ap np cp, .slice A3 nb c3] w (TrueP w) := by
  have HG := Lib.hid hG
  have HL := Lib.hid hL
  have HB := Lib.hid hB
  have HR := Lib.hid hr
  have HL3 := Lib.hid hL3
  have HB3 := Lib.hid hB3
  have HR3 := Lib.hid hr3
  by_cases hg : L ≤ 5000
  · have i1 : ¬ (L : Int) > 5000 := by omega
    by_cases hg2 : np ≤ 200
    · have i2 : ¬ (np : Int) > 200 := by omega
      have CZ := Lib.hid (w_deflate w A Ap L c np cp l ps hL hg hB hr hp hg2 hrp)
      clear hG hL hB hr hL3 hB3 hr3 hp hrp
      have tk1 : True := trivial
      go_enter Tryd.func7, Tryd.ntmps7
      go_wp2_with (first
        | (go_at_call 22; go_must (refine CZ.out.mono ?_); rintro e w1 ⟨A1, c1, zl, bits, n1, rfl, hn1, hown, hpk, hwr, hn7, hbel⟩; have HN1 := Lib.hid hn1; have HOZ := Lib.hid hown; have HPK := Lib.hid hpk; have HWR := Lib.hid hwr; have HBZ := Lib.hid hbel; have hnb : n1 + nb ≤ 20000000 := (by omega); clear hn1 hown hpk hwr hbel)
        | (at_builtin; have _t := tk1; go_must (refine wpList_ap el8 rfl _ _ rfl rfl (own_lit (base := w1.heap.size) #[] rfl (Nat.le_refl _) (by unfold maxLen; omega)) rfl (by rw [u8s_length]; exact HN1.out) (RV.alloc (RV.own HOZ.out) _) (u8s_one zl) (by unfold maxLen; omega) (by omega) (by simp) ?_); intro A5 c5 w2 hown1 hgrow1 hat1 hle1; have HB2 := Lib.hid (grownBy_below (grow_new' hgrow1)); have HO5 := Lib.hid (show w2.ownsRow w1.heap.size 5 1 (.slice A5 n1 c5) n1 (u8s zl) by simpa using hown1); have HR32 := Lib.hid ((HR3.out.below HBZ.out).below HB2.out); have hsz2 := HB2.out.size; clear hown1 hgrow1 hat1 hle1 tk1 _t)
        | (at_builtin; go_must (refine wpList_ap el8 rfl _ _ rfl rfl HO5.out rfl (m := nb) (by rw [u8s_length]; exact HL3.out) HR32.out (u8s_one beh) (by unfold maxLen; omega) (by omega) (by omega) ?_); intro A6 c6 w3 hown2 hgrow2 hat2 hle2; have HO6 := Lib.hid (show w3.ownsRow w1.heap.size 5 1 (.slice A6 (n1 + nb) c6) (n1 + nb) (u8s (zl ++ beh)) by unfold u8s at hown2 ⊢; rw [List.map_append]; exact hown2); have HG6 := Lib.hid (grown_kpz HO5.out hgrow2); have HK6 := Lib.hid (show Kp [] w1 w3 by obtain ⟨T4, k4, t4⟩ := HG6.out; exact (((Kp.of_below (S := []) HB2.out).mono (T := T4) (by simp)).trans k4).mono (fun k hk => .inr (t4 k hk))); have HK7 := Lib.hid ((Kp.of_below (S := []) HBZ.out).trans HK6.out); have CW := Lib.hid (c_whole A6 (n1 + nb) c6 (zl ++ beh) (L : Int) w3 (by rw [List.length_append, HN1.out, HL3.out]) (by omega) (fun x hx => (List.mem_append.1 hx).elim (HPK.out.1 x) (HB3.out x)) (RV.own HO6.out) (by omega) (by omega) (HG.out.kept HK7.out (fun k hk => hk))); clear hown2 hgrow2 hat2 hle2)
        | (go_at_call 10; go_must (refine CW.out.mono ?_); rintro e w4 ⟨A2, m2, c2, o2, ts2, a2, y2, en2, rfl, hres, hown, hk⟩; rw [Int.toNat_natCast] at hres; obtain ⟨tsb, ab, hbk1, hbk2⟩ := HWR.out.back (behind := beh) HPK.out L (by rw [HL.out]; exact Nat.le_refl _); obtain ⟨u1, u2, u3, u4, u5⟩ := hres.uniq hbk1; have HU1 := Lib.hid u1; have hu4 := u4; have HOWN := Lib.hid hown; have HK4 := Lib.hid hk; have HM2 := Lib.hid (show o2.length = m2 by have h9 := hown.1; rw [u8s_length] at h9; omega); have hus2 : min (a2 + 1) (zl ++ beh).length = n1 := (by rw [List.length_append, HN1.out, HL3.out]; rw [HN1.out] at hbk2; omega); rw [hus2]; clear hus2; have i9 : ((n1 : Int) == (n1 : Int)) = true := W.eqT rfl; subst hu4; clear hres hown hk u1 u2 u3 u5 hbk1 hbk2)
        | (go_at_call 12; go_must (have cS := c_same A2 A m2 L c2 c o2 l w4 HM2.out HL.out (by rw [← HM2.out, HU1.out, HL.out]; omega) (by omega) (RV.own HOWN.out) (HR.out.below ((HK7.out.trans HK4.out).below (Nat.le_refl _) (by simp)))); go_must (rw [decT HU1.out] at cS); go_must (refine cS.mono ?_); rintro e w5 ⟨rfl, d5, rfl⟩; clear cS)
        | (go_at_call 14; go_must (refine (c_awake _ (HG.out.kept ((HK7.out.trans HK4.out).drewN _) (fun k hk => hk))).mono ?_); rintro e w8 ⟨rfl, hk8⟩))
      go_ret
      exact ⟨rfl, (((HK7.out.trans HK4.out).drewN _).trans hk8).below (Nat.le_refl _) (by simp)⟩
    · have i2 : (np : Int) > 200 := by omega
      clear hG hL hB hr hL3 hB3 hr3 hp hrp
      go_enter Tryd.func7, Tryd.ntmps7
      go_wp2_with (first
        | (go_at_call 14; go_must (refine (c_awake _ HG.out).mono ?_); rintro e w8 ⟨rfl, hk8⟩))
      go_ret
      exact ⟨rfl, hk8.below (Nat.le_refl _) (by simp)⟩
  · have i1 : (L : Int) > 5000 := by omega
    clear hG hL hB hr hL3 hB3 hr3 hp hrp
    go_enter Tryd.func7, Tryd.ntmps7
    go_wp2_with (first
      | (go_at_call 14; go_must (refine (c_awake _ HG.out).mono ?_); rintro e w8 ⟨rfl, hk8⟩))
    go_ret
    exact ⟨rfl, hk8.below (Nat.le_refl _) (by simp)⟩
end Go.Proofs.YtdpnlmofkkdioaaDoor.Hf
