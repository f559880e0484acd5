/- The law PartsWrites. -/
import Derived.Test.YtmalacamfjdimaaWh
import Derived.Test.YtmalacamfjdimaaArgr
namespace Go.Proofs.Ytmalacamfjdimaa.Pt
open Go.RowKit Go.Proofs.Ytmalacamfjdimaa.W

theorem sum_ge : ∀ (ls : List (List Int)) (l : List Int), l ∈ ls → l.length ≤ (ls.map List.length).sum := by
  intro ls
  induction ls with
  | nil => intro l h; cases h
  | cons a ls ih =>
    intro l h
    simp only [List.map_cons, List.sum_cons]
    rcases List.mem_cons.1 h with rfl | h
    · omega
    · have := ih l h; omega
theorem wres_len {W : List Int} (hW : W.length ≤ 72) {ls : List (List Int)} (hn : ls.length ≤ 1048576) (h : ∀ r ∈ ls, r.length ≤ 1048576) : ((wres W ls).getD []).length ≤ 1099592000000 := by
  unfold wres
  split
  · simp
  · have h1 := wbody_len hW ls 1048576 h
    have h2 : ls.length * (1048576 + 76) ≤ 1048576 * (1048576 + 76) := Nat.mul_le_mul_right _ hn
    have h3 : (wall W ls).length = (wbody W ls).length + (W.length + 4) := by simp [wall]
    show (wall W ls).length ≤ _
    omega
def WnPost (w : World) (e : Ending) (w' : World) : Prop := e = .returned (.tuple #[.slice none 0 0, .bool false]) ∧ w = w'
set_option maxHeartbeats 1000000 in
set_option maxRecDepth 100000 in
theorem c_write_no (v : Value) (b : ByteArray) (w : World) (hs : b.size ≤ 9223372036854775807) (hv : validB b.data.toList = false) : Calls Try.prog 25 #[v, .string b] w (WnPost w) := by
  have cV := c_valid b
  rw [hv] at cV
  have CV := Lib.hid cV
  clear cV hv
  go_enter Try.func25, Try.ntmps25
  go_wp2_with (go_at_call 13; go_must (refine (CV.out _ hs).mono ?_); rintro e w4 ⟨rfl, rfl⟩)
  go_ret2
  exact ⟨rfl, rfl⟩
set_option maxHeartbeats 1000000 in
set_option maxRecDepth 100000 in
theorem r_write_no (v : Value) (b : ByteArray) (w : World) (hs : b.size ≤ 9223372036854775807) (hv : validB b.data.toList = false) : Calls Try.prog 26 #[v, .string b] w (WnPost w) := by
  have cV := r_valid b
  rw [hv] at cV
  have CV := Lib.hid cV
  clear cV hv
  go_enter Try.func26, Try.ntmps26
  go_wp2_with (go_at_call 11; go_must (refine (CV.out _ hs).mono ?_); rintro e w4 ⟨rfl, rfl⟩)
  go_ret2
  exact ⟨rfl, rfl⟩

set_option maxHeartbeats 2000000 in
set_option maxRecDepth 100000 in
theorem parts_writes (A : Option Addr) (n c : Nat) (ls : List (List Int)) (s : ByteArray) (w : World) (hin : RowsArg w A n c ls) (hs : s.size ≤ 140737488351232) (hb : n + (ls.map List.length).sum ≤ 1048576) :
    Calls Try.prog 6 #[.slice A n c, .string s] w (LawPost w) := by
  have hso : s.size ≤ 9223372036854775807 := by omega
  have HIN := Lib.hid hin
  have hn : n ≤ 1048576 := by omega
  have HRL := Lib.hid (show ∀ r ∈ ls, r.length ≤ 1048576 from fun r hr => by have := sum_ge ls r hr; omega)
  clear hin hb
  cases hv : validB s.data.toList
  · have HV := Lib.hid hv
    clear hv
    go_enter Try.func6, Try.ntmps6
    go_wp2_with (first
      | (go_at_call 24; go_must (refine (c_copy A n c ls _ HIN.out.len hn HIN.out.rr HRL.out).mono ?_); rintro e w1 ⟨A1, m1, c1, vs1, rfl, P1, hb1⟩; have HP1 := Lib.hid P1; have HB1 := Lib.hid hb1; clear P1 hb1)
      | (go_at_call 25; go_must (refine (c_write_no _ s _ hso HV.out).mono ?_); rintro e w2 ⟨rfl, rfl⟩)
      | (go_at_call 26; go_must (refine (r_write_no _ s _ hso HV.out).mono ?_); rintro e w3 ⟨rfl, rfl⟩)
      | (go_at_call 18; go_must (have cS := c_same none none 0 0 0 0 [] [] w1 rfl rfl (by omega) (by omega) (RV.nil _ _) (RV.nil _ _)); go_must (rw [decT rfl] at cS); go_must (refine cS.mono ?_); rintro e w4 ⟨rfl, d4, rfl⟩; clear cS)
      | (go_at_call 16; go_must (have cR := c_rows A1 A m1 n c1 c ls ls (w1.drewN d4) HP1.out.len HIN.out.len (by have := HP1.out.len; have := HIN.out.len; omega) (by omega) ((RR.of_prt HP1.out).drewN d4) ((HIN.out.rr.below HB1.out).drewN d4) (fun h => absurd rfl h)); go_must (rw [decT rfl] at cR); go_must (refine cR.mono ?_); rintro e w5 ⟨rfl, d5, rfl⟩; clear cR)
      | (go_at_call 14; go_must (refine (c_awake _).mono ?_); rintro e w6 ⟨rfl, hb6⟩))
    go_ret
    exact ⟨rfl, bl_then HB1.out (bl_then (bl_drewN _ _) hb6)⟩
  · have HV := Lib.hid hv
    clear hv
    have HWR := Lib.hid (show (wres (strL (⟨#[45, 45]⟩ ++ s)) ls).isSome = (wres (strL (⟨#[45, 45]⟩ ++ s)) ls).isSome from rfl)
    obtain ⟨r, hr⟩ : ∃ r, wres (strL (⟨#[45, 45]⟩ ++ s)) ls = r := ⟨_, rfl⟩
    have HR := Lib.hid hr
    have HLN := Lib.hid (show (r.getD []).length ≤ 1099592000000 by rw [← hr]; exact wres_len (by rw [strL_length]; exact (want_size HV.out).2) (by rw [HIN.out.len]; exact hn) HRL.out)
    obtain ⟨bb, hbb⟩ : ∃ bb, r.isSome = bb := ⟨_, rfl⟩
    have HBB := Lib.hid hbb
    clear hr HWR hbb
    go_enter Try.func6, Try.ntmps6
    go_wp2_with (first
      | (go_at_call 24; go_must (refine (c_copy A n c ls _ HIN.out.len hn HIN.out.rr HRL.out).mono ?_); rintro e w1 ⟨A1, m1, c1, vs1, rfl, P1, hb1⟩; have HP1 := Lib.hid P1; have HB1 := Lib.hid hb1; have hm1 : m1 ≤ 1048576 := (by have := P1.len; have := HIN.out.len; omega); clear P1 hb1)
      | (go_at_call 25; go_must (have cW := c_write A1 m1 c1 ls s w1 HP1.out.len hm1 (RR.of_prt HP1.out) HIN.out.by_ HRL.out HV.out); go_must (rw [HR.out] at cW; unfold WrPost at cW; rw [HBB.out] at cW); go_must (refine cW.mono ?_); rintro e w2 ⟨⟨A2, m2, c2, rfl, own2⟩, hb2⟩; have HO2 := Lib.hid own2; have HB2 := Lib.hid hb2; clear own2 hb2 cW)
      | (go_at_call 26; go_must (have cW := r_write A n c ls s w2 HIN.out.len hn (HIN.out.rr.below (bl_then HB1.out HB2.out)) HIN.out.by_ HRL.out HV.out); go_must (rw [HR.out] at cW; unfold WrPost at cW; rw [HBB.out] at cW); go_must (refine cW.mono ?_); rintro e w3 ⟨⟨A3, m3, c3, rfl, own3⟩, hb3⟩; have HO3 := Lib.hid own3; have HB3 := Lib.hid hb3; clear own3 hb3 cW)
      | (go_at_call 18; go_must (have cS := c_same A2 A3 m2 m3 c2 c3 (r.getD []) (r.getD []) w3 (u8_size HO2.out) (u8_size HO3.out) (by rw [← u8_size HO2.out]; exact Nat.le_trans HLN.out (by omega)) (by rw [← u8_size HO3.out]; exact Nat.le_trans HLN.out (by omega)) ((RV.own HO2.out).below HB3.out) (RV.own HO3.out)); go_must (rw [decT rfl] at cS); go_must (refine cS.mono ?_); rintro e w4 ⟨rfl, d4, rfl⟩; clear cS)
      | (go_at_call 16; go_must (have cR := c_rows A1 A m1 n c1 c ls ls (w3.drewN d4) HP1.out.len HIN.out.len (by omega) (by omega) (((RR.of_prt HP1.out).below (bl_then HB2.out HB3.out)).drewN d4) ((HIN.out.rr.below (bl_then HB1.out (bl_then HB2.out HB3.out))).drewN d4) (fun h => absurd rfl h)); go_must (rw [decT rfl] at cR); go_must (refine cR.mono ?_); rintro e w5 ⟨rfl, d5, rfl⟩; clear cR)
      | (go_at_call 14; go_must (refine (c_awake _).mono ?_); rintro e w6 ⟨rfl, hb6⟩))
    go_ret
    exact ⟨rfl, bl_then HB1.out (bl_then HB2.out (bl_then HB3.out (bl_then (bl_drewN _ _) hb6)))⟩
end Go.Proofs.Ytmalacamfjdimaa.Pt
