/- The law PartsEnds. -/
import Derived.Test.YtmalacamfjdimaaBd
import Derived.Test.YtmalacamfjdimaaBe
import Derived.Test.YtmalacamfjdimaaBh
namespace Go.Proofs.Ytmalacamfjdimaa.Pt
open Go.RowKit Go.Proofs.Ytmalacamfjdimaa.W

theorem strL_strOf {l : List Int} (hb : Bytes l) : strL (strOfNums l) = l := by
  unfold strL strOfNums
  simp only [List.map_map]
  rw [List.map_congr_left (g := id)]
  · simp
  · intro x hx
    have := hb x hx
    simp
    omega
theorem win_eq {a : List Int} {W : ByteArray} (h : a = strL W) : strOfNums a = W := by
  subst h
  refine Go.WideShapes.bytes_inj ?_
  unfold strL strOfNums
  simp only [List.map_map]
  rw [List.map_congr_left (g := id)]
  · simp
  · intro x hx
    simp
theorem win_ne {a : List Int} {W : ByteArray} (ha : Bytes a) (h : a ≠ strL W) : ((strOfNums a).toList == W.toList) = false := by
  rw [beq_eq_false_iff_ne]
  intro e
  rw [Go.Lib.toList_data, Go.Lib.toList_data] at e
  have := Go.WideShapes.bytes_inj e
  exact h (by rw [← this]; exact (strL_strOf ha).symm)

set_option maxHeartbeats 4000000 in
set_option maxRecDepth 100000 in
theorem parts_ends (A : Option Addr) (n c : Nat) (ls : List (List Int)) (s : ByteArray) (a : Int) (w : World) (hin : RowsArg w A n c ls) (hs : s.size ≤ 140737488351232) (hwf : (Lit.int .u16 a).wf = true) (hb : n + (ls.map List.length).sum ≤ 1048576) :
    Calls Try.prog 8 #[.slice A n c, .string s, .int .u16 a] w (LawPost w) := by
  have hso : s.size ≤ 9223372036854775807 := by omega
  have HIN := Lib.hid hin
  have hn : n ≤ 1048576 := by omega
  have HSUM := Lib.hid (show (ls.map List.length).sum ≤ 1048576 by omega)
  have HRL := Lib.hid (show ∀ r ∈ ls, r.length ≤ 1048576 from fun r hr => by have := sum_ge ls r hr; omega)
  have ha0 : 0 ≤ a := (Go.bounds_u16 hwf).1
  have ha1 : a < 65536 := by have := (Go.bounds_u16 hwf).2; omega
  clear hin hb hwf
  go_enter Try.func8, Try.ntmps8
  cases hv : validB s.data.toList
  · have HV := Lib.hid hv
    clear hv
    go_wp2_with (first
      | (go_at_call 25; go_must (refine (c_write_no _ s _ hso HV.out).mono ?_); rintro e w2 ⟨rfl, rfl⟩)
      | (go_at_call 14; go_must (refine (c_awake _).mono ?_); rintro e w6 ⟨rfl, hb6⟩))
    go_ret
    exact ⟨rfl, hb6⟩
  · have HV := Lib.hid hv
    have hWk : Wk (⟨#[45, 45]⟩ ++ s) := Wk.mk' hv
    obtain ⟨W, hW⟩ : ∃ W, (⟨#[45, 45]⟩ ++ s : ByteArray) = W := ⟨_, rfl⟩
    have cWr := c_write A n c ls s w HIN.out.len hn HIN.out.rr HIN.out.by_ HRL.out hv
    have HWQ := Lib.hid hW
    rw [hW] at hWk cWr
    have HWK := Lib.hid hWk
    obtain ⟨N, hN⟩ : ∃ N, (strL W).length = N := ⟨_, rfl⟩
    have hNW : W.size = N := by rw [← hN, strL_length]
    have hN72 : N ≤ 72 := by rw [← hN, strL_length]; exact hWk.le
    have hN1 : 1 ≤ N := by rw [← hN, strL_length]; exact hWk.pos
    have HN := Lib.hid hN
    clear hv hWk hW hN
    cases hany : ls.any (hasW (strL W))
    · have HNO := Lib.hid (show ∀ q ∈ ls, hasW (strL W) q = false from fun q hq => by
        have := List.any_eq_false.1 hany q hq
        simpa using this)
      have HWR := Lib.hid (show wres (strL W) ls = some (wall (strL W) ls) by unfold wres; rw [hany]; rfl)
      obtain ⟨x, hx⟩ : ∃ x, wall (strL W) ls = x := ⟨_, rfl⟩
      rw [HWR.out, hx] at cWr
      have CWR := Lib.hid cWr
      have HX := Lib.hid hx
      have HXL := Lib.hid (show x.length ≤ 100000000 by
        have h1 := wbody_len2 (by rw [HN.out]; exact hN72) ls
        have h2 : ls.length * 76 ≤ 1048576 * 76 := Nat.mul_le_mul_right _ (by rw [HIN.out.len]; exact hn)
        rw [← hx]
        have h3 : (wall (strL W) ls).length = (wbody (strL W) ls).length + ((strL W).length + 4) := by simp [wall]
        have h4 := HN.out
        have h5 := HSUM.out
        omega)
      have HXG := Lib.hid (show 4 ≤ x.length by
        rw [← hx]
        have h3 : (wall (strL W) ls).length = (wbody (strL W) ls).length + ((strL W).length + 4) := by simp [wall]
        omega)
      clear hany hx cWr
      go_upto_block 0 with (first
        | (go_at_call 25; go_must (refine CWR.out.mono ?_); rintro e w2 ⟨⟨A2, m2, c2, rfl, own2⟩, hb2⟩; have HO2 := Lib.hid (show w2.ownsRow w.heap.size 5 1 (.slice A2 m2 c2) m2 (u8s x) from own2); have HB2 := Lib.hid hb2; have hm2 : m2 ≤ 100000000 := (by have h1 := u8_size HO2.out; have h2 := HXL.out; omega); have hm4 : 4 ≤ m2 := (by have h1 := u8_size HO2.out; have h2 := HXG.out; omega); have hz2 : ((m2 : Int) == 0) = false := (by rw [beq_eq_false_iff_ne]; omega); clear own2 hb2))
      rw [HWQ.out]
      have HR2 := Lib.hid (HIN.out.rr.below HB2.out)
      go_wp2_with (fail)
      go_loopg [10] n (fun g s10 wx => ∃ k : Nat, k + g = n ∧ s10 = .int .i64 k ∧ w2 = wx ∧ Hid (∀ i q, i < k → ls[i]? = some q → ¬ strL W <:+: q))
      case atStart => exact ⟨0, by omega, rfl, rfl, Lib.hid (fun i q h => by omega)⟩
      case round =>
        obtain ⟨k, hkg, rfl, rfl, hI⟩ := hrel
        cases gk with
        | zero =>
          obtain rfl : k = n := by omega
          have hk : ¬ (k : Int) < (k : Int) := by omega
          have HINF := Lib.hid (show ∀ q ∈ ls, hasW (strL W) q = false ∧ ¬ strL W <:+: q from fun q hq => ⟨HNO.out q hq, by
            obtain ⟨i, hi⟩ := List.getElem?_of_mem hq
            exact hI.out i q (by rw [← HIN.out.len]; exact (List.getElem?_eq_some_iff.1 hi).1) hi⟩)
          clear hI
          obtain ⟨K, hK⟩ : ∃ K : Nat, a % (m2 : Int) = (K : Int) := ⟨(a % (m2 : Int)).toNat, by have := Int.emod_nonneg a (show (m2 : Int) ≠ 0 by omega); omega⟩
          have hKm : K < m2 := by have := Int.emod_lt_of_pos a (show (0 : Int) < (m2 : Int) by omega); omega
          have hrm : a.tmod (m2 : Int) = (K : Int) := by rw [Int.tmod_eq_emod_of_nonneg ha0]; exact hK
          have hxm : x.length = m2 := u8_size HO2.out
          have hxb : Bytes x := by rw [← HX.out]; exact wall_bytes _ HIN.out.by_
          have cW := c_whole A2 K c2 (x.take K) s w2 (by rw [List.length_take]; omega) (by omega) (by_take hxb _) (by have := RV.take (RV.own HO2.out) K; unfold RB; simpa [u8s, List.map_take] using this) HV.out
          rw [HWQ.out] at cW
          have hE := ends_of HWK.out ls K HINF.out (by rw [HX.out, hxm]; exact hKm) (by rw [HX.out]; exact hxb)
          rw [HX.out, HN.out] at hE
          unfold WholePost at cW
          generalize (whole W (x.take K)).2 = m at cW hE
          generalize (whole W (x.take K)).1.reason = why at cW hE
          have CW := Lib.hid cW
          have HE := Lib.hid hE
          have HXM := Lib.hid hxm
          have HXB := Lib.hid hxb
          have hml := hE.len
          rw [HIN.out.len] at hml
          clear cW hE hxm hxb hK
          have hmc : m2 ≤ c2 := by obtain ⟨A', c', he, hc⟩ := slice_form HO2.out; injection he with _ _ h3; omega
          have hKc : K ≤ c2 := by omega
          obtain ⟨M, hM⟩ : ∃ M, m.length = M := ⟨_, rfl⟩
          have HM := Lib.hid hM
          have hM2 : ¬ (k : Int) + 1 < (M : Int) := by omega
          have hMb : M ≤ 1048577 := by omega
          clear hml
          rw [hM] at CW
          clear hM
          obtain ⟨y0, hy0⟩ : ∃ y, x[0]? = some y := ⟨_, List.getElem?_eq_getElem (by rw [HXM.out]; omega)⟩
          have hA2 : ∃ b2 off2, A2 = some ⟨b2, off2, none⟩ := by obtain ⟨b2, off2, h, _⟩ := RV.own HO2.out 0 _ (show (u8s x)[0]? = some (.int .u8 y0) by simp [u8s, hy0]); exact ⟨b2, off2, h⟩
          obtain ⟨b2, off2, rfl⟩ := hA2
          clear hy0
          have HOB := Lib.hid (show ∀ i, i ≤ k → offT N ls i ≤ 81000000 from fun i hi => by
            have h1 := offT_le N ls i (by rw [HIN.out.len]; exact hi)
            have h2 := HSUM.out
            have h3 : ls.length * (4 + N) ≤ 1048576 * 76 := Nat.mul_le_mul (by rw [HIN.out.len]; exact hn) (by omega)
            omega)
          go_wp2_with (go_at_call 10; go_must (refine CW.out.mono ?_); rintro e w3 ⟨A3, c3, vs3, rfl, P3, hb3⟩; have HP3 := Lib.hid P3; have HB3 := Lib.hid hb3; clear P3 hb3)
          go_loopg [16, 17] M (fun g s16 s17 wx => ∃ i f d : Nat, i + g = M ∧ s17 = .int .i64 i ∧ s16 = .int .i64 f ∧ w3.drewN d = wx ∧ f ≤ 81000100 ∧ Hid (i ≤ k → f = offT N ls i))
          case atStart => exact ⟨0, 0, 0, by omega, rfl, rfl, rfl, by omega, Lib.hid (fun _ => (offT_zero N ls).symm)⟩
          case round =>
            obtain ⟨i, f, d, hig, rfl, rfl, rfl, hfb, hF⟩ := hrel
            cases gk with
            | zero =>
              obtain rfl : i = M := by omega
              have hk3 : ¬ (i : Int) < (i : Int) := by omega
              have hwhy := HE.out.why
              rw [HXM.out] at hwhy
              rcases hwhy with ⟨rfl, hw⟩ | ⟨rfl, hw⟩
              · have h1 : (m2 : Int) ≤ (K : Int) + 2 := by omega
                have h2 := neT (show ¬ (K : Int) + 1 = (m2 : Int) by omega)
                clear hw
                go_wp2_with (go_at_call 14; go_must (refine (c_awake _).mono ?_); rintro e w6 ⟨rfl, hb6⟩)
                go_ret
                exact ⟨rfl, bl_then HB2.out (bl_then HB3.out (bl_then (bl_drewN _ _) hb6))⟩
              · by_cases h1 : (m2 : Int) ≤ (K : Int) + 2
                · have h2 : (m2 : Int) ≤ (K : Int) + 1 := by omega
                  clear hw
                  go_wp2_with (go_at_call 14; go_must (refine (c_awake _).mono ?_); rintro e w6 ⟨rfl, hb6⟩)
                  go_ret
                  exact ⟨rfl, bl_then HB2.out (bl_then HB3.out (bl_then (bl_drewN _ _) hb6))⟩
                · clear hw
                  go_wp2_with (go_at_call 14; go_must (refine (c_awake _).mono ?_); rintro e w6 ⟨rfl, hb6⟩)
                  go_ret
                  exact ⟨rfl, bl_then HB2.out (bl_then HB3.out (bl_then (bl_drewN _ _) hb6))⟩
            | succ g =>
              have hk3 : (i : Int) < (M : Int) := by omega
              have hiM : i + 1 ≤ M := by omega
              have hik : i ≤ k := by omega
              obtain ⟨z, hz⟩ : ∃ z, m[i]? = some z := ⟨_, List.getElem?_eq_getElem (by rw [HM.out]; omega)⟩
              obtain ⟨b5, off5, Az, cz, rfl, hb5, hcz, _, hzr, _⟩ := RR.get (RR.of_prt HP3.out) hz
              obtain ⟨Z, hZ⟩ : ∃ Z, z.length = Z := ⟨_, rfl⟩
              rw [hZ] at hcz
              have s1 := fun d => run_string (P := Try.prog) (w := w3.drewN d) _ _ _ Try.underlying22 Try.underlying5 Try.underlying9 (c := cz) hzr hZ
              obtain ⟨sz, hsz⟩ : ∃ sz, strOfNums z = sz := ⟨_, rfl⟩
              rw [hsz] at s1
              obtain ⟨F, hFF⟩ : ∃ F, f + (N + 2) = F := ⟨_, rfl⟩
              obtain ⟨T, hTT⟩ : ∃ T, F + Z = T := ⟨_, rfl⟩
              have hFo : offW N ls i = F := by unfold offW; have := hF.out hik; omega
              have hZb : Z ≤ 100000000 := by
                by_cases h0 : z = []
                · subst h0; simp at hZ; omega
                · rcases Nat.lt_or_ge i k with h1 | h1
                  · have := (HE.out.at_ i z (by rw [HIN.out.len]; exact h1) hz h0).1
                    omega
                  · obtain rfl : i = k := by omega
                    exact absurd (HE.out.end_ z (by rw [HIN.out.len]; exact hz)) h0
              have hFb : F ≤ 81000200 := by omega
              have e3 : IntKind.i64.wrap ((F : Int) + (Z : Int)) = (T : Int) := by rw [IntWalk.i64_in _ (by omega)]; omega
              have e4 : IntKind.i64.wrap ((i : Int) + 1) = (i : Int) + 1 := IntWalk.i64_in _ (by omega)
              have hFT : (F : Int) ≤ (T : Int) := by omega
              have HFF := Lib.hid (show ((f : Int) + ((N : Int) + 2)) = (F : Int) by omega)
              have HFo := Lib.hid hFo
              have HTT := Lib.hid hTT
              have HZZ := Lib.hid hZ
              have HSZ := Lib.hid hsz
              have HZ := Lib.hid hz
              have HIG := Lib.hid hig
              have hFm := HXM.out
              clear hz hZ hsz hFF hTT hFo hig hzr hFm
              by_cases hin : i + 1 < M
              · have hi2 : i < k := by omega
                have hy : ls[i]? = some z := HE.out.same i z (by rw [HM.out]; exact hin) HZ.out
                obtain ⟨y, hyz⟩ : ∃ y, y = z := ⟨_, rfl⟩
                rw [← hyz] at hy
                obtain ⟨bl, off, Al, cl, hAl, hblt, hcl, hlc, hrb, _⟩ := RR.get (HIN.out.rr.below (bl_then HB2.out HB3.out)) hy
                subst hAl
                obtain ⟨Y, hY⟩ : ∃ Y, y.length = Y := ⟨_, rfl⟩
                rw [hY] at hcl
                have hYb := HRL.out y (List.mem_of_getElem? hy)
                have HNX := Lib.hid (show F + (Y + 2) ≤ 81000100 ∧ (i + 1 ≤ k → F + (Y + 2) = offT N ls (i + 1)) by
                  have h1 := offT_succ N ls i y hy
                  have h2 := HOB.out (i + 1) (by omega)
                  have h3 := HFo.out
                  unfold offW at h3
                  rw [hY] at h1
                  exact ⟨by omega, fun _ => by omega⟩)
                have hYb2 : Y ≤ 1048576 := by rw [← hY]; exact hYb
                have hik2 : (i : Int) < (k : Int) := by omega
                have hike : ((i : Int) == (k : Int)) = false := by rw [beq_eq_false_iff_ne]; omega
                have s2 := fun d => run_string (P := Try.prog) (w := w3.drewN d) _ _ _ Try.underlying22 Try.underlying5 Try.underlying9 (c := cl) hrb hY
                rw [hyz, HSZ.out] at s2
                have hg : (i : Int) + 1 < (M : Int) := by omega
                clear hy hyz hY hrb hYb hF
                by_cases hTK0 : T ≤ K
                · have hTK : (T : Int) ≤ (K : Int) := by omega
                  have hTd : decide ((K : Int) < (T : Int)) = false := decide_eq_false (by omega)
                  have hTd2 : decide (K < T) = false := decide_eq_false (by omega)
                  have hTc : (T : Int) ≤ (c2 : Int) := by omega
                  have hTc2 : T ≤ c2 := by omega
                  have hFT2 : F ≤ T := by omega
                  have hxz : (x.drop F).take (T - F) = z := by
                    by_cases h0 : z = []
                    · subst h0
                      have h1 := HZZ.out
                      have h2 := HTT.out
                      simp at h1
                      rw [show T - F = 0 by omega]; rfl
                    · have h1 := (HE.out.at_ i z (by rw [HIN.out.len]; exact hi2) HZ.out h0).2
                      rw [HFo.out, HZZ.out] at h1
                      rw [show T - F = Z by have := HTT.out; omega]; exact h1
                  have s3 := fun d => run_string (P := Try.prog) (w := w3.drewN d) _ _ _ Try.underlying22 Try.underlying5 Try.underlying9 (c := c2 - F) (n := T - F) (RB.cut (show RB (w3.drewN d) (some ⟨b2, off2, none⟩) x from RV.drewN (RV.below (RV.own HO2.out) HB3.out) d) F (T - F)) (by rw [hxz, HZZ.out]; have := HTT.out; omega)
                  rw [hxz, HSZ.out] at s3
                  clear hxz
                  go_upto_region 22 with (fail)
                  rw [HFF.out]
                  go_quiet (fail)
                  go_upto_region 24 with (fail)
                  go_quiet (fail)
                  go_wp2_with (fail)
                  go_roundg g
                  case measure => omega
                  case rel => exact ⟨i + 1, F + (Y + 2), _, by have := HIG.out; omega, by go_num, by go_num, rfl, HNX.out.1, Lib.hid HNX.out.2⟩
                · have hTd : (K : Int) < (T : Int) := by omega
                  have hTd2 : decide (K < T) = true := decide_eq_true (by omega)
                  have hz0 : Z = 0 := by
                    by_cases h0 : z = []
                    · rw [← HZZ.out, h0]; rfl
                    · have h1 := (HE.out.at_ i z (by rw [HIN.out.len]; exact hi2) HZ.out h0).1
                      rw [HFo.out, HZZ.out, HTT.out] at h1
                      omega
                  have hZd : decide ((0 : Int) < (Z : Int)) = false := decide_eq_false (by omega)
                  have hZd2 : decide (0 < Z) = false := decide_eq_false (by omega)
                  have hZd3 : ¬ 0 < Z := by omega
                  clear hz0
                  go_upto_region 22 with (fail)
                  rw [HFF.out]
                  go_quiet (fail)
                  go_upto_region 24 with (fail)
                  go_quiet (fail)
                  go_wp2_with (fail)
                  go_roundg g
                  case measure => omega
                  case rel => exact ⟨i + 1, F + (Y + 2), _, by have := HIG.out; omega, by go_num, by go_num, rfl, HNX.out.1, Lib.hid HNX.out.2⟩
              · have hg : decide ((i : Int) + 1 < (M : Int)) = false := decide_eq_false (by omega)
                by_cases hi2 : i < k
                · obtain ⟨y, hy⟩ : ∃ y, ls[i]? = some y := ⟨_, List.getElem?_eq_getElem (by rw [HIN.out.len]; exact hi2)⟩
                  obtain ⟨bl, off, Al, cl, hAl, hblt, hcl, hlc, hrb, _⟩ := RR.get (HIN.out.rr.below (bl_then HB2.out HB3.out)) hy
                  subst hAl
                  obtain ⟨Y, hY⟩ : ∃ Y, y.length = Y := ⟨_, rfl⟩
                  rw [hY] at hcl
                  have hYb := HRL.out y (List.mem_of_getElem? hy)
                  have HNX := Lib.hid (show F + (Y + 2) ≤ 81000100 ∧ (i + 1 ≤ k → F + (Y + 2) = offT N ls (i + 1)) by
                    have h1 := offT_succ N ls i y hy
                    have h2 := HOB.out (i + 1) (by omega)
                    have h3 := HFo.out
                    unfold offW at h3
                    rw [hY] at h1
                    exact ⟨by omega, fun _ => by omega⟩)
                  have hYb2 : Y ≤ 1048576 := by rw [← hY]; exact hYb
                  have hik2 : (i : Int) < (k : Int) := by omega
                  have hike : ((i : Int) == (k : Int)) = false := by rw [beq_eq_false_iff_ne]; omega
                  clear hy hY hrb hYb hF
                  by_cases hTK0 : T ≤ K
                  · have hTK : (T : Int) ≤ (K : Int) := by omega
                    have hTd : decide ((K : Int) < (T : Int)) = false := decide_eq_false (by omega)
                    have hTd2 : decide (K < T) = false := decide_eq_false (by omega)
                    have hTc : (T : Int) ≤ (c2 : Int) := by omega
                    have hTc2 : T ≤ c2 := by omega
                    have hFT2 : F ≤ T := by omega
                    have hxz : (x.drop F).take (T - F) = z := by
                      by_cases h0 : z = []
                      · subst h0
                        have h1 := HZZ.out
                        have h2 := HTT.out
                        simp at h1
                        rw [show T - F = 0 by omega]; rfl
                      · have h1 := (HE.out.at_ i z (by rw [HIN.out.len]; exact hi2) HZ.out h0).2
                        rw [HFo.out, HZZ.out] at h1
                        rw [show T - F = Z by have := HTT.out; omega]; exact h1
                    have s3 := fun d => run_string (P := Try.prog) (w := w3.drewN d) _ _ _ Try.underlying22 Try.underlying5 Try.underlying9 (c := c2 - F) (n := T - F) (RB.cut (show RB (w3.drewN d) (some ⟨b2, off2, none⟩) x from RV.drewN (RV.below (RV.own HO2.out) HB3.out) d) F (T - F)) (by rw [hxz, HZZ.out]; have := HTT.out; omega)
                    rw [hxz, HSZ.out] at s3
                    clear hxz
                    go_upto_region 22 with (fail)
                    rw [HFF.out]
                    go_quiet (fail)
                    go_upto_region 24 with (fail)
                    go_quiet (fail)
                    go_wp2_with (fail)
                    go_roundg g
                    case measure => omega
                    case rel => exact ⟨i + 1, F + (Y + 2), _, by have := HIG.out; omega, by go_num, by go_num, rfl, HNX.out.1, Lib.hid HNX.out.2⟩
                  · have hTd : (K : Int) < (T : Int) := by omega
                    have hTd2 : decide (K < T) = true := decide_eq_true (by omega)
                    have hz0 : Z = 0 := by
                      by_cases h0 : z = []
                      · rw [← HZZ.out, h0]; rfl
                      · have h1 := (HE.out.at_ i z (by rw [HIN.out.len]; exact hi2) HZ.out h0).1
                        rw [HFo.out, HZZ.out, HTT.out] at h1
                        omega
                    have hZd : decide ((0 : Int) < (Z : Int)) = false := decide_eq_false (by omega)
                    have hZd2 : decide (0 < Z) = false := decide_eq_false (by omega)
                    have hZd3 : ¬ 0 < Z := by omega
                    clear hz0
                    go_upto_region 22 with (fail)
                    rw [HFF.out]
                    go_quiet (fail)
                    go_upto_region 24 with (fail)
                    go_quiet (fail)
                    go_wp2_with (fail)
                    go_roundg g
                    case measure => omega
                    case rel => exact ⟨i + 1, F + (Y + 2), _, by have := HIG.out; omega, by go_num, by go_num, rfl, HNX.out.1, Lib.hid HNX.out.2⟩
                · obtain rfl : i = k := by omega
                  have hz0 : Z = 0 := by rw [← HZZ.out, HE.out.end_ z (by rw [HIN.out.len]; exact HZ.out)]; rfl
                  have hZd : decide ((0 : Int) < (Z : Int)) = false := decide_eq_false (by omega)
                  have hZd2 : decide (0 < Z) = false := decide_eq_false (by omega)
                  have hZd3 : ¬ 0 < Z := by omega
                  have hik2 : decide ((i : Int) < (i : Int)) = false := decide_eq_false (by omega)
                  have hF2 : F ≤ 81000100 := by have h1 := hF.out (Nat.le_refl _); have h2 := HOB.out i (Nat.le_refl _); have h3 := HFF.out; omega
                  clear hz0 hF
                  go_upto_region 22 with (fail)
                  rw [HFF.out]
                  go_quiet (fail)
                  go_upto_region 24 with (fail)
                  go_quiet (fail)
                  go_wp2_with (fail)
                  go_roundg g
                  case measure => omega
                  case rel => exact ⟨i + 1, F, _, by have := HIG.out; omega, by go_num, rfl, rfl, by omega, Lib.hid (fun h => by omega)⟩
        | succ g =>
          have hk : (k : Int) < (n : Int) := by omega
          obtain ⟨l, hlk⟩ : ∃ l, ls[k]? = some l := ⟨_, List.getElem?_eq_getElem (by rw [HIN.out.len]; omega)⟩
          obtain ⟨bl, off, Al, cl, rfl, hblt, hcell, hlc, hrb, _⟩ := RR.get HR2.out hlk
          have hll := HRL.out l (List.mem_of_getElem? hlk)
          have hlb := HIN.out.by_ l (List.mem_of_getElem? hlk)
          have HLB := Lib.hid hlb
          have HRB := Lib.hid hrb
          have HLK := Lib.hid hlk
          have HKG := Lib.hid hkg
          clear hlb hrb hlk hkg
          obtain ⟨L, hL⟩ : ∃ L, l.length = L := ⟨_, rfl⟩
          rw [hL] at hcell hlc hll
          have HL := Lib.hid hL
          clear hL
          go_wp2_with (fail)
          go_loopg [11] (L + 1) (fun g s11 wx => ∃ j : Nat, j + g = L + 1 ∧ s11 = .int .i64 j ∧ w2 = wx ∧ Hid (∀ i, i < j → (l.drop i).take N ≠ strL W))
          case atStart => exact ⟨0, by omega, rfl, rfl, Lib.hid (fun i h => by omega)⟩
          case round =>
            obtain ⟨j, hjg, rfl, rfl, hJ⟩ := hrel
            by_cases hjn : j + N ≤ L
            · obtain ⟨g2, rfl⟩ : ∃ g2, gk = g2 + 1 := ⟨gk - 1, by omega⟩
              have hjn2 : (j : Int) + (N : Int) ≤ (L : Int) := by omega
              obtain ⟨y, hy⟩ : ∃ y, l[j]? = some y := ⟨_, List.getElem?_eq_getElem (by rw [HL.out]; omega)⟩
              obtain ⟨b3, off3, rfl, _, _⟩ := RB.get HRB.out hy
              have s1 := run_string (P := Try.prog) (w := w2) _ _ _ Try.underlying22 Try.underlying5 Try.underlying9 (c := cl - j) (n := N) (RB.cut HRB.out j N) (by rw [List.length_take, List.length_drop, HL.out]; omega)
              have HWB := Lib.hid (show Bytes ((l.drop j).take N) from fun z hz => HLB.out z (List.mem_of_mem_drop (List.mem_of_mem_take hz)))
              have e1 : j + N - j = N := by omega
              clear hy
              by_cases hwin : (l.drop j).take N = strL W
              · rw [win_eq hwin] at s1
                clear hwin
                go_wp2_with (go_at_call 14; go_must (refine (c_awake _).mono ?_); rintro e w6 ⟨rfl, hb6⟩)
                go_ret
                exact ⟨rfl, bl_then HB2.out hb6⟩
              · have hs1 := win_ne HWB.out hwin
                have HJ2 := Lib.hid (show ∀ i, i < j + 1 → (l.drop i).take N ≠ strL W from fun i hi => by
                  rcases Nat.lt_or_ge i j with h1 | h1
                  · exact hJ.out i h1
                  · obtain rfl : i = j := by omega
                    exact hwin)
                generalize strOfNums ((l.drop j).take N) = sx at s1 hs1
                clear hwin
                go_wp2_with (fail)
                go_roundg g2
                case measure => omega
                case rel => exact ⟨j + 1, by omega, by go_num, rfl, HJ2⟩
            · have hjn2 : ¬ (j : Int) + (N : Int) ≤ (L : Int) := by omega
              have HNI := Lib.hid (show ∀ i q, i < k + 1 → ls[i]? = some q → ¬ strL W <:+: q from fun i q hi hq => by
                rcases Nat.lt_or_ge i k with h1 | h1
                · exact hI.out i q h1 hq
                · obtain rfl : i = k := by omega
                  rw [HLK.out] at hq
                  injection hq with hq
                  subst hq
                  refine no_infix fun z hz => ?_
                  rw [HN.out] at hz ⊢
                  rw [HL.out] at hz
                  exact hJ.out z (by omega))
              go_wp2_with (fail)
              go_roundg g
              case measure => omega
              case rel => exact ⟨k + 1, by have := HKG.out; omega, by go_num, rfl, HNI⟩
    · have HWR := Lib.hid (show wres (strL W) ls = none by unfold wres; rw [hany]; rfl)
      rw [HWR.out] at cWr
      have CWR := Lib.hid cWr
      clear hany cWr
      go_wp2_with (first
        | (go_at_call 25; go_must (refine CWR.out.mono ?_); rintro e w2 ⟨⟨A2, m2, c2, rfl, own2⟩, hb2⟩; have hm2 : m2 = 0 := (by have := u8_size own2; simpa using this.symm); subst hm2; have HB2 := Lib.hid hb2; clear own2 hb2)
        | (go_at_call 14; go_must (refine (c_awake _).mono ?_); rintro e w6 ⟨rfl, hb6⟩))
      go_ret
      exact ⟨rfl, bl_then HB2.out hb6⟩
end Go.Proofs.Ytmalacamfjdimaa.Pt
