/- InflateWhole: the walk. -/
import Derived.Test.YtdpnlmofkkdioaaDoorTn
import Derived.Test.YtdpnlmofkkdioaaDoorLa
namespace Go.Proofs.YtdpnlmofkkdioaaDoor.Hf
set_option linter.unusedVariables false
set_option linter.unusedSimpArgs false
open Go.RowKit Go.Proofs.YtdpnlmofkkdioaaDoor.W

theorem Res.at_le {bs : List Bool} {n : Nat} {o : List Int} {ts : List Nat} {a w : Nat} {e : Bool} (h : Res st0 bs n o ts a w e) : a ≤ bs.length / 8 := by
  cases h with
  | dead p hd hn => have := (p.pos (Nat.zero_le _)).2; omega
  | cut p hl hx hn => exact Nat.le_refl _
  | much p hx ho hn => have := (next_pos (p.pos (Nat.zero_le _)).2 hx).2; omega
def TrueP (w : World) (e : Ending) (w' : World) : Prop := e = .returned (.bool true) ∧ Below w.heap.size w w'
set_option maxHeartbeats 4000000 in
set_option maxRecDepth 100000 in
theorem c_infwhole (A : Option Addr) (L c : Nat) (l : List Int) (a : Int) (w : World) (hG : Gt w []) (hL : l.length = L) (hc : L ≤ c) (hL2 : L ≤ 140737488351232) (hB : Bytes l) (hr : RB w A l) (hwf : (Lit.int .i64 a).wf = true) :
    Calls Tryd.prog 3 #[.slice A L c, .int .i64 a] w (TrueP w) := by
  have hab := bounds_i64 hwf
  have HG := Lib.hid hG
  have HL := Lib.hid hL
  have HB := Lib.hid hB
  have HR := Lib.hid hr
  clear hG hL hB hr hwf
  obtain ⟨nn, hn1, hn2, hcase⟩ : ∃ nn : Int, nn ≤ 1048576 ∧ -9223372036854775808 ≤ nn ∧ ((1048576 < a ∧ nn = 1048576) ∨ (¬ 1048576 < a ∧ nn = a)) := by
    by_cases h : 1048576 < a
    · exact ⟨1048576, by omega, by omega, .inl ⟨h, rfl⟩⟩
    · exact ⟨a, by omega, by omega, .inr ⟨h, rfl⟩⟩
  have CW := Lib.hid (fun (A5 : Option Addr) (c5 : Nat) (w1 : World) (hb : Below w.heap.size w w1) (h5 : RB w1 A5 l) => c_whole A5 L c5 l nn w1 HL.out (by omega) HB.out h5 hn1 hn2 (HG.out.kept (Kp.of_below (S := []) hb) (fun k hk => hk)))
  have CO := Lib.hid (fun (w2 : World) (hb : Below w.heap.size w w2) => r_of w2 A L c l nn HL.out (by omega) HB.out (HR.out.below hb) hn1 hn2)
  clear hab
  rcases hcase with ⟨hi, rfl⟩ | ⟨hi, rfl⟩
  all_goals
    go_enter Tryd.func3, Tryd.ntmps3
    have tk1 : True := trivial
    go_wp2_with (first
      | (at_builtin; go_must (refine wpList_ap el8 rfl _ _ rfl rfl (own_lit (base := w.heap.size) #[] rfl (Nat.le_refl _) (by unfold maxLen; omega)) rfl (by rw [u8s_length]; exact HL.out) (RV.alloc HR.out _) (u8s_one l) (by unfold maxLen; omega) (by omega) (by simp) ?_); intro A5 c5 w1 hown1 hgrow1 hat1 hle1; have HB1 := Lib.hid (grownBy_below (grow_new' hgrow1)); have HR5 := Lib.hid (show RB w1 A5 l from RV.own (by simpa using hown1)); clear hown1 hgrow1 hat1 hle1)
      | (go_at_call 10; go_must (refine (CW.out A5 c5 w1 HB1.out HR5.out).mono ?_); rintro e w2 ⟨A2, m2, c2, o2, ts2, a2, y2, en2, rfl, hres, hown, hk⟩; have HRES := Lib.hid hres; have HOWN := Lib.hid hown; have HK2 := Lib.hid hk; have HM2 := Lib.hid (show o2.length = m2 by have h9 := hown.1; rw [u8s_length] at h9; omega); have HB2 := Lib.hid (HB1.out.trans (hk.below HB1.out.size (by simp))); clear hres hown hk)
      | (go_at_call 11; go_must (refine (CO.out w2 HB2.out).mono ?_); rintro e w3 ⟨rb, s, rfl, hrn, hb3, hres3⟩; have HRN := Lib.hid hrn; have HB3 := Lib.hid hb3; have ha3 := hres3.at_le; obtain ⟨u1, u2, u3, u4, u5⟩ := HRES.out.uniq hres3; have hc4 := hrn.c4; rw [← u4] at hc4; obtain ⟨Ao, co, hc2, hle, hro⟩ := hrn.c2; rw [← u1, HM2.out] at hc2; rw [← u1] at hro; have hlt3 := hrn.lt; have hm2 := HRES.out.len_le; rw [HM2.out] at hm2; have HRO := Lib.hid hro; have HU3 := Lib.hid u3; have HA3 := Lib.hid (show s.at_ ≤ 140737488355328 by rw [bits8_length, HL.out] at ha3; omega); clear hrn hb3 hres3 ha3 u1 u2 u3 u4 u5 hro hle)
      | (go_at_call 12; have _t := tk1; go_must (have cS := c_same A2 Ao m2 m2 c2 co o2 o2 w3 HM2.out HM2.out (by omega) (by omega) ((RV.own HOWN.out).below HB3.out) HRO.out); go_must (rw [decT rfl] at cS); go_must (refine cS.mono ?_); rintro e w4 ⟨rfl, d4, rfl⟩; clear cS tk1 _t)
      | (go_at_call 13; go_must (refine (r_used (w3.drewN d4) _ rb _ s (HRN.out.below ((Kp.refl _ _).drewN _)) HA3.out).mono ?_); rintro e w5 ⟨rfl, d5, rfl⟩; try rw [← HU3.out])
      | (go_at_call 12; go_must (have cS := c_same A5 A L L c5 c l l (w3.drewN (d4 + d5)) HL.out HL.out (by omega) (by omega) (RV.drewN ((HR5.out.below (HK2.out.below (Nat.le_refl _) (by simp))).below HB3.out) _) (RV.drewN ((HR.out.below HB2.out).below HB3.out) _)); go_must (rw [decT rfl] at cS); go_must (refine cS.mono ?_); rintro e w6 ⟨rfl, d6, rfl⟩; clear cS)
      | (go_at_call 14; go_must (refine (c_awake _ (HG.out.kept ((Kp.of_below (S := []) (HB2.out.trans (HB3.out.mono HB2.out.size))).drewN _) (fun k hk => hk))).mono ?_); rintro e w8 ⟨rfl, hk8⟩))
    go_ret
    exact ⟨rfl, (((Kp.of_below (S := []) (HB2.out.trans (HB3.out.mono HB2.out.size))).drewN _).trans hk8).below (Nat.le_refl _) (by simp)⟩
end Go.Proofs.YtdpnlmofkkdioaaDoor.Hf
