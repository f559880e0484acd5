/- Fewer bytes are asked for (plain). -/
import Derived.Test.YtdpnlmofkkdioaaDoorMa
import Derived.Test.YtdpnlmofkkdioaaDoorSame
import Derived.Test.YtdpnlmofkkdioaaDoorJa
import Derived.OpenShut
namespace Go.Proofs.YtdpnlmofkkdioaaDoor.Hf
set_option linter.unusedVariables false
set_option linter.unusedSimpArgs false

theorem Res.len_le {s0 : St} {bs : List Bool} {n : Nat} {o : List Int} {ts : List Nat} {a w : Nat} {e : Bool} (h : Res s0 bs n o ts a w e) : o.length ≤ n := by
  cases h with
  | dead p hd hn => exact hn
  | cut p hl hx hn => exact hn
  | much p hx ho hn => omega
/-- As many as there are: the same. -/
theorem Res.all {s0 : St} {bs : List Bool} {n k : Nat} {o o' : List Int} {ts ts' : List Nat} {a a' w w' : Nat} {e e' : Bool} (h : Res s0 bs n o ts a w e) (h' : Res s0 bs k o' ts' a' w' e') (hk : k = o.length) (hw : w ≠ 62) : o' = o ∧ a' = a ∧ w' = w := by
  have h2 : Res s0 bs k o ts a w e := by
    cases h with
    | dead p hd hn => exact .dead p hd (by omega)
    | cut p hl hx hn => exact .cut p hl hx (by omega)
    | much p hx ho hn => exact absurd rfl hw
  obtain ⟨h3, _, h4, h5, _⟩ := h'.uniq h2
  exact ⟨h3, h4, h5⟩
theorem St.final_out {bs : List Bool} {s0 t : St} (p : Path bs s0 t) (hx : next bs t = none) {u : St} (p2 : Path bs s0 u) : u.out.length ≤ t.out.length := (p.final hx p2).out.1.length_le
/-- Fewer: the first ones, and that there are more. -/
theorem Res.few {s0 : St} {bs : List Bool} {n k : Nat} {o o' : List Int} {ts ts' : List Nat} {a a' w w' : Nat} {e e' : Bool} (h : Res s0 bs n o ts a w e) (h' : Res s0 bs k o' ts' a' w' e') (hk : k < o.length) (hp0 : s0.pos ≤ bs.length) : w' = 62 ∧ o' = o.take k ∧ a' ≤ a := by
  obtain ⟨v, pv, ho, hva⟩ : ∃ v, Path bs s0 v ∧ v.out = o ∧ (v.pos - 1) / 8 ≤ a := by
    cases h with
    | dead p hd hn => exact ⟨_, p, rfl, Nat.le_refl _⟩
    | cut p hl hx hn => exact ⟨_, p, rfl, by have := (p.pos hp0).2; omega⟩
    | much p hx ho hn => exact ⟨_, p, rfl, by have := (next_pos (p.pos hp0).2 hx).1; omega⟩
  subst ho
  cases h' with
  | dead p hd hn => exact absurd (St.final_out p (dead_next hd) pv) (by omega)
  | cut p hl hx hn => exact absurd (St.final_out p hx pv) (by omega)
  | @much u t x p hx ho hn =>
    rcases p.linear pv with q | q
    · cases q with
      | refl => omega
      | cons h1 q1 =>
        rw [hx] at h1
        injection h1 with h1
        subst h1
        have q2 := ((Path.one hx).trans q1).out.1
        refine ⟨rfl, ?_, ?_⟩
        · rw [← hn]; exact List.prefix_iff_eq_take.1 q2
        · have := (q1.pos ((next_pos (p.pos hp0).2 hx).2)).1
          omega
    · have := q.out.1.length_le
      omega
end Go.Proofs.YtdpnlmofkkdioaaDoor.Hf
/- InflateLess: the walk. -/
namespace Go.Proofs.YtdpnlmofkkdioaaDoor.Hf
set_option linter.unusedVariables false
set_option linter.unusedSimpArgs false
open Go.RowKit Go.Proofs.YtdpnlmofkkdioaaDoor.W

set_option maxHeartbeats 4000000 in
set_option maxRecDepth 100000 in
theorem c_less (A : Option Addr) (L c : Nat) (l : List Int) (a : Int) (w : World) (hG : Gt w []) (hL : l.length = L) (_hc : L ≤ c) (hL2 : L ≤ 140737488351232) (hB : Bytes l) (hr : RB w A l) (hwf : (Lit.int .u16 a).wf = true) :
    Calls Tryd.prog 9 #[.slice A L c, .int .u16 a] w fun e w' => e = .returned (.bool true) ∧ Below w.heap.size w w' := by
  have hab := bounds_u16 hwf
  have HG := Lib.hid hG
  have HL := Lib.hid hL
  have HB := Lib.hid hB
  have HR := Lib.hid hr
  have C1 := Lib.hid (c_whole A L c l 1048576 w hL (by omega) hB hr (by omega) (by omega) hG)
  clear hG hL hB hr hwf
  go_enter Tryd.func9, Tryd.ntmps9
  go_upto_region 3 with (first
    | (go_at_call 10; go_must (refine C1.out.mono ?_); rintro e w1 ⟨A1, m1, c1, o1, ts1, a1, y1, en1, rfl, hres, hown, hk⟩; have HRES := Lib.hid hres; have HOWN := Lib.hid hown; have HK := Lib.hid hk; have hm1 := hres.len_le; have HM := Lib.hid (show o1.length = m1 by have h9 := hown.1; rw [u8s_length] at h9; omega); rw [HM.out] at hm1; clear hres hown hk))
  obtain ⟨K, hK⟩ : ∃ K : Nat, a % ((m1 : Int) + 1) = (K : Int) := ⟨(a % ((m1 : Int) + 1)).toNat, by have := Int.emod_nonneg a (show (m1 : Int) + 1 ≠ 0 by omega); omega⟩
  have hKm : K ≤ m1 := by have := Int.emod_lt_of_pos a (show (0 : Int) < (m1 : Int) + 1 by omega); omega
  obtain ⟨U, hU⟩ : ∃ U, min (a1 + 1) l.length = U := ⟨_, rfl⟩
  have HU := Lib.hid hU
  rw [hU]
  try rw [hK]
  have hmt : (1048576 : Int).toNat = 1048576 := rfl
  rw [hmt] at HRES hm1
  have C2 := Lib.hid (c_whole A L c l (K : Int) w1 HL.out (by omega) HB.out (HR.out.below (HK.out.below (Nat.le_refl _) (by simp))) (by omega) (by omega) (HG.out.kept HK.out (fun k hk => hk)))
  rw [Int.toNat_natCast] at C2
  have hcc := (W.slice_form HOWN.out)
  have hc1 : m1 ≤ c1 := by obtain ⟨_, _, h1, h2⟩ := hcc; injection h1 with _ _ h3; omega
  clear hU hmt hK hcc
  by_cases hKm2 : K = m1
  · have ik : ((K : Int) == (m1 : Int)) = true := W.eqT (by omega)
    by_cases h62 : y1 = 62
    · have i62 : ((y1 : Int) == 62) = true := W.eqT (by omega)
      clear hKm2 h62
      go_wp2_with (first
        | (go_at_call 10; go_must (refine C2.out.mono ?_); rintro e w2 ⟨A2, m2, c2, o2, ts2, a2, y2, en2, rfl, hres, hown, hk⟩; have HRES2 := Lib.hid hres; have HOWN2 := Lib.hid hown; have HK2 := Lib.hid hk; have HM2 := Lib.hid (show o2.length = m2 by have h9 := hown.1; rw [u8s_length] at h9; omega); clear hres hown hk)
        | (go_at_call 14; go_must (refine (c_awake _ (HG.out.kept (HK.out.trans HK2.out) (fun k hk => hk))).mono ?_); rintro e w5 ⟨rfl, hk5⟩))
      go_ret
      exact ⟨rfl, ((HK.out.trans HK2.out).trans hk5).below (Nat.le_refl _) (fun k hk => (by cases hk))⟩
    · have i62 : ((y1 : Int) == 62) = false := W.eqF (by omega)
      have HKM := Lib.hid hKm2
      have H62 := Lib.hid h62
      clear hKm2 h62
      go_wp2_with (first
        | (go_at_call 10; go_must (refine C2.out.mono ?_); rintro e w2 ⟨A2, m2, c2, o2, ts2, a2, y2, en2, rfl, hres, hown, hk⟩; have HRES2 := Lib.hid hres; have HOWN2 := Lib.hid hown; have HK2 := Lib.hid hk; have HM2 := Lib.hid (show o2.length = m2 by have h9 := hown.1; rw [u8s_length] at h9; omega); clear hres hown hk; have hall := HRES.out.all HRES2.out (by rw [HM.out]; exact HKM.out) H62.out; obtain ⟨rfl, rfl, rfl⟩ := hall; have hus : ((min (a2 + 1) l.length : Nat) : Int) = (U : Int) := (by rw [HU.out]))
        | (go_at_call 12; go_must (have cS := c_same A1 A2 m1 m2 c1 c2 o2 o2 w2 HM.out HM2.out (by omega) (by rw [← HM2.out, HM.out]; omega) ((RV.own HOWN.out).below (HK2.out.below (Nat.le_refl _) (by simp))) (RV.own HOWN2.out)); go_must (rw [decT rfl] at cS); go_must (refine cS.mono ?_); rintro e w7 ⟨rfl, d7, rfl⟩; clear cS)
        | (go_at_call 14; go_must (refine (c_awake _ (HG.out.kept (HK.out.trans (HK2.out.drewN _)) (fun k hk => hk))).mono ?_); rintro e w5 ⟨rfl, hk5⟩))
      go_ret
      exact ⟨rfl, ((HK.out.trans (HK2.out.drewN _)).trans hk5).below (Nat.le_refl _) (fun k hk => (by cases hk))⟩
  · have ik : ((K : Int) == (m1 : Int)) = false := W.eqF (by omega)
    have hlt : K < m1 := by omega
    have q1 : (K : Int) ≤ (c1 : Int) := by omega
    have q2 : (K : Int) ≤ (m1 : Int) := by omega
    clear hKm2
    go_wp2_with (first
      | (go_at_call 10; go_must (refine C2.out.mono ?_); rintro e w2 ⟨A2, m2, c2, o2, ts2, a2, y2, en2, rfl, hres, hown, hk⟩; have HRES2 := Lib.hid hres; have HOWN2 := Lib.hid hown; have HK2 := Lib.hid hk; have HM2 := Lib.hid (show o2.length = m2 by have h9 := hown.1; rw [u8s_length] at h9; omega); clear hres hown hk; have hall := HRES.out.few HRES2.out (by rw [HM.out]; exact hlt) (Nat.zero_le _); obtain ⟨rfl, hot, hle⟩ := hall; have HOT := Lib.hid hot; have hus : ((min (a2 + 1) l.length : Nat) : Int) ≤ (U : Int) := (by have h9 := HU.out; omega); clear hot)
      | (go_at_call 12; go_must (have cS := c_same A2 A1 m2 K c2 c1 o2 (o1.take K) w2 HM2.out (by rw [List.length_take, HM.out]; omega) (by rw [← HM2.out, HOT.out, List.length_take, HM.out]; omega) (by omega) (RV.own HOWN2.out) (by rw [show RB w2 A1 (o1.take K) = RV w2 A1 ((u8s o1).take K) by unfold RB u8s; rw [List.map_take]]; exact ((RV.own HOWN.out).below (HK2.out.below (Nat.le_refl _) (by simp))).take K)); go_must (rw [decT HOT.out] at cS); go_must (refine cS.mono ?_); rintro e w7 ⟨rfl, d7, rfl⟩; clear cS)
      | (go_at_call 14; go_must (refine (c_awake _ (HG.out.kept (HK.out.trans (HK2.out.drewN _)) (fun k hk => hk))).mono ?_); rintro e w5 ⟨rfl, hk5⟩))
    go_ret
    exact ⟨rfl, ((HK.out.trans (HK2.out.drewN _)).trans hk5).below (Nat.le_refl _) (fun k hk => (by cases hk))⟩
end Go.Proofs.YtdpnlmofkkdioaaDoor.Hf
