/- The program's delimited, walked. -/
import Derived.Test.YtmalacamfjdimaaWc
namespace Go.Proofs.Ytmalacamfjdimaa.Pt
open Go.RowKit Go.Proofs.Ytmalacamfjdimaa.W

set_option maxHeartbeats 4000000 in
set_option maxRecDepth 100000 in
theorem c_dlm (A : Option Addr) (n c : Nat) (p : List Int) (want : ByteArray) (w : World) (hl : p.length = n) (hnc : n ≤ c) (hn : n ≤ 1048576) (hby : Bytes p) (hr : RB w A p) (hnil : A = none → c = 0) (hws : want.size ≤ 72) :
    Calls Try.prog 37 #[.slice A n c, .string want] w (HasPost (hasW (strL want) p) w) := by
  obtain ⟨b, hb⟩ : ∃ b, hasW (strL want) p = b := ⟨_, rfl⟩
  subst hl
  have hD : Dk (strL want) w (p.length + 1) b (.slice A p.length c) (.bool true) := .inl ⟨A, c, p, rfl, rfl, hnc, by omega, hn, hnil, hby, hr, by rw [← hb, hasW]⟩
  rw [hb]
  have HD := Lib.hid hD
  clear hb hD hnc hby hr hnil
  go_enter Try.func37, Try.ntmps37
  go_wp2
  go_loopg [0, 5] (p.length + 1) (fun g s0 s5 wx => Dl (strL want) w g b s0 s5 wx)
  case atStart => exact ⟨Below.refl _ _, HD.out⟩
  case round =>
    obtain ⟨hB, hrel⟩ := hrel
    obtain ⟨wo, rfl⟩ : ∃ wo : World, wo = wr := ⟨_, rfl⟩
    have HB := Lib.hid hB
    rcases hrel with ⟨A', c', q, rfl, rfl, hqc, hqg, hq0, hqn, hqb, hqr, hbq⟩ | ⟨rfl, hbq⟩
    · have HQB := Lib.hid hqb
      have HQR := Lib.hid hqr
      obtain ⟨g, rfl⟩ : ∃ g, gk = g + 1 := ⟨gk - 1, by omega⟩
      have hc10 : (wo.alloc (.cells #[.int .u8 10] 5)).cell? ⟨wo.heap.size, 0, none⟩ = some (.int .u8 10) := cell_of_row _ _ 0 _ _ _ (heap_alloc_new wo _)
      have hcut := c_cut A' q.length c' wo.heap.size q (wo.alloc (.cells #[.int .u8 10] 5)) rfl hqc (by omega) hqb ((RV.below hqr (by exact hB)).alloc _) hqn hc10
      have hBz : ∀ wz, Below wo.heap.size wo wz → Below w.heap.size w wz := fun wz h => hB.trans (h.mono hB.size)
      have HBZ := Lib.hid hBz
      by_cases hnl : nl q < q.length
      · have HCY := Lib.hid (hcut.mono (fun e w' h => cut_yes hnl h))
        have hnle := nl_le q
        have htl : (q.take (nl q)).length = nl q := by rw [List.length_take]; omega
        obtain ⟨line, hline⟩ : ∃ line, strip (q.take (nl q)) = line := ⟨_, rfl⟩
        have hlb : Bytes line := by rw [← hline, strip_take]; exact by_take (by_take hqb _) _
        have hlr : RB w A' line := by
          rw [← hline, strip_take]
          have := (RV.take (RV.take hqr (nl q)) (strip (q.take (nl q))).length)
          unfold RB
          simpa [u8s, List.map_take] using this
        have hts := fun wz (h : Below w.heap.size w wz) b2 (h2 : wz.cell? ⟨b2, 0, none⟩ = some (.int .u8 13)) => c_trimS A' (nl q) c' b2 (q.take (nl q)) wz htl (by omega) (by omega) (by_take hqb _) (by have := RV.take (RV.below hqr h) (nl q); unfold RB; simpa [u8s, List.map_take] using this) h2
        rw [hline] at hts
        have HTS := Lib.hid hts
        have HBQ := Lib.hid (show b = (tst (strL want) line || hasF (strL want) g (q.drop (nl q + 1))) by rw [hbq, hasF, if_pos hnl, hline])
        obtain ⟨M, R, R2, hp, hM, cC, cP, ht⟩ := tst_parts want line hlb
        have hcv : ∀ wz, Below w.heap.size w wz → (convert 22 9 (.slice A' line.length c')).run Try.prog wz = .ok (.string M) wz := fun wz h => by
          rw [run_string (P := Try.prog) _ _ _ Try.underlying22 Try.underlying5 Try.underlying9 (RV.below hlr h) rfl, hM]
        have HCV := Lib.hid hcv
        have CC := Lib.hid cC
        have CP := Lib.hid cP
        have HT := Lib.hid ht
        clear hcut hc10 hline hlb hlr hts hqb hqr hqn hbq hB hBz htl hM hcv cC cP ht
        go_upto_region 7 with (first
          | (go_at_call 47; go_must (refine HCY.out.mono ?_); rintro e w1 ⟨A2, c2, d2, rfl, rfl, hr2, hle2, hn2⟩)
          | (go_at_call 48; go_must (refine (HTS.out _ (HBZ.out _ (bl_then (bl_then (bl_alloc _ _) (bl_drewN _ _)) (bl_alloc _ _))) _ (by have := cell_of_row _ _ 0 _ _ _ (heap_alloc_new ((wo.alloc (.cells #[.int .u8 10] 5)).drewN d2) (.cells #[.int .u8 13] 5)); simpa using this)).mono ?_); rintro e w2 ⟨rfl, rfl⟩))
        obtain ⟨wz, hwz⟩ : ∃ wz, (((wo.alloc (.cells #[.int .u8 10] 5)).drewN d2).alloc (.cells #[.int .u8 13] 5)) = wz := ⟨_, rfl⟩
        rw [hwz]
        have hBz7 : Below w.heap.size w wz := by rw [← hwz]; exact HBZ.out _ (bl_then (bl_then (bl_alloc _ _) (bl_drewN _ _)) (bl_alloc _ _))
        have HR2 : Hid (RB w A2 (q.drop (nl q + 1))) := Lib.hid (hr2 w HQR.out)
        clear hwz hr2
        have hcz := HCV.out wz hBz7
        cases hp with
        | false =>
          have HT2 := Lib.hid (show tst (strL want) line = false from HT.out)
          go_wp2_with (first
          | (go_at_call 44; go_must (refine (CC.out _).mono ?_); rintro e w3 ⟨rfl, rfl⟩)
          | (go_at_call 45; go_must (refine (CP.out _).mono ?_); rintro e w4 ⟨rfl, rfl⟩))
          go_roundg g
          case measure => omega
          case rel => exact ⟨hBz7, .inl ⟨A2, c2, q.drop (nl q + 1), rfl, by rw [List.length_drop], by rw [List.length_drop]; exact hle2, by rw [List.length_drop]; omega, by rw [List.length_drop]; omega, hn2, by_drop HQB.out _, HR2.out, by rw [HBQ.out, HT2.out]; rfl⟩⟩
        | true =>
          by_cases h16 : R2.size ≤ 16
          · have hk16 : (R2.size : Int) ≤ 16 := by omega
            cases hbk : blk8 R2.data.toList
            · have HT2 := Lib.hid (show tst (strL want) line = false by rw [HT.out, hbk]; simp)
              have cB := c_blk R2 wz (by omega)
              rw [hbk] at cB
              have CB := Lib.hid cB
              clear cB hbk
              go_wp2_with (first
          | (go_at_call 44; go_must (refine (CC.out _).mono ?_); rintro e w3 ⟨rfl, rfl⟩)
          | (go_at_call 45; go_must (refine (CP.out _).mono ?_); rintro e w4 ⟨rfl, rfl⟩)
                | (go_at_call 46; go_must (refine CB.out.mono ?_); rintro e w5 ⟨rfl, rfl⟩))
              go_roundg g
              case measure => omega
              case rel => exact ⟨hBz7, .inl ⟨A2, c2, q.drop (nl q + 1), rfl, by rw [List.length_drop], by rw [List.length_drop]; exact hle2, by rw [List.length_drop]; omega, by rw [List.length_drop]; omega, hn2, by_drop HQB.out _, HR2.out, by rw [HBQ.out, HT2.out]; rfl⟩⟩
            · have HT2 := Lib.hid (show tst (strL want) line = true by rw [HT.out, hbk, decT h16]; rfl)
              have cB := c_blk R2 wz (by omega)
              rw [hbk] at cB
              have CB := Lib.hid cB
              clear cB hbk
              go_wp2_with (first
          | (go_at_call 44; go_must (refine (CC.out _).mono ?_); rintro e w3 ⟨rfl, rfl⟩)
          | (go_at_call 45; go_must (refine (CP.out _).mono ?_); rintro e w4 ⟨rfl, rfl⟩)
                | (go_at_call 46; go_must (refine CB.out.mono ?_); rintro e w5 ⟨rfl, rfl⟩))
              go_ret
              exact ⟨by rw [HBQ.out, HT2.out]; rfl, hBz7⟩
          · have hk16 : ¬ (R2.size : Int) ≤ 16 := by omega
            have HT2 := Lib.hid (show tst (strL want) line = false by rw [HT.out, decF h16]; simp)
            go_wp2_with (first
          | (go_at_call 44; go_must (refine (CC.out _).mono ?_); rintro e w3 ⟨rfl, rfl⟩)
          | (go_at_call 45; go_must (refine (CP.out _).mono ?_); rintro e w4 ⟨rfl, rfl⟩))
            go_roundg g
            case measure => omega
            case rel => exact ⟨hBz7, .inl ⟨A2, c2, q.drop (nl q + 1), rfl, by rw [List.length_drop], by rw [List.length_drop]; exact hle2, by rw [List.length_drop]; omega, by rw [List.length_drop]; omega, hn2, by_drop HQB.out _, HR2.out, by rw [HBQ.out, HT2.out]; rfl⟩⟩
      · have HCN := Lib.hid (hcut.mono (fun e w' h => cut_no hnl h))
        obtain ⟨line, hline⟩ : ∃ line, q = line := ⟨_, rfl⟩
        have hlb : Bytes line := by rw [← hline]; exact hqb
        have hlr : RB w A' line := by rw [← hline]; exact hqr
        have HBQ := Lib.hid (show b = (tst (strL want) line || false) by rw [hbq, hasF, if_neg hnl, hline]; simp)
        obtain ⟨M, R, R2, hp, hM, cC, cP, ht⟩ := tst_parts want line hlb
        have hcv : ∀ wz, Below w.heap.size w wz → (convert 22 9 (.slice A' q.length c')).run Try.prog wz = .ok (.string M) wz := fun wz h => by
          rw [run_string (P := Try.prog) _ _ _ Try.underlying22 Try.underlying5 Try.underlying9 (RV.below hlr h) (by rw [hline]), hM]
        have HCV := Lib.hid hcv
        have CC := Lib.hid cC
        have CP := Lib.hid cP
        have HT := Lib.hid ht
        clear hcut hc10 hline hlb hlr hqb hqr hqn hbq hB hBz hM hcv cC cP ht
        go_upto_region 7 with (first
          | (go_at_call 47; go_must (refine HCN.out.mono ?_); rintro e w1 ⟨d2, rfl, rfl⟩))
        obtain ⟨wz, hwz⟩ : ∃ wz, ((wo.alloc (.cells #[.int .u8 10] 5)).drewN d2) = wz := ⟨_, rfl⟩
        rw [hwz]
        have hBz7 : Below w.heap.size w wz := by rw [← hwz]; exact HBZ.out _ (bl_then (bl_alloc _ _) (bl_drewN _ _))
        clear hwz
        have hcz := HCV.out wz hBz7
        cases hp with
        | false =>
          have HT2 := Lib.hid (show tst (strL want) line = false from HT.out)
          go_wp2_with (first
          | (go_at_call 44; go_must (refine (CC.out _).mono ?_); rintro e w3 ⟨rfl, rfl⟩)
          | (go_at_call 45; go_must (refine (CP.out _).mono ?_); rintro e w4 ⟨rfl, rfl⟩))
          go_roundg g
          case measure => omega
          case rel => exact ⟨hBz7, .inr ⟨rfl, by rw [HBQ.out, HT2.out]; rfl⟩⟩
        | true =>
          by_cases h16 : R2.size ≤ 16
          · have hk16 : (R2.size : Int) ≤ 16 := by omega
            cases hbk : blk8 R2.data.toList
            · have HT2 := Lib.hid (show tst (strL want) line = false by rw [HT.out, hbk]; simp)
              have cB := c_blk R2 wz (by omega)
              rw [hbk] at cB
              have CB := Lib.hid cB
              clear cB hbk
              go_wp2_with (first
          | (go_at_call 44; go_must (refine (CC.out _).mono ?_); rintro e w3 ⟨rfl, rfl⟩)
          | (go_at_call 45; go_must (refine (CP.out _).mono ?_); rintro e w4 ⟨rfl, rfl⟩)
                | (go_at_call 46; go_must (refine CB.out.mono ?_); rintro e w5 ⟨rfl, rfl⟩))
              go_roundg g
              case measure => omega
              case rel => exact ⟨hBz7, .inr ⟨rfl, by rw [HBQ.out, HT2.out]; rfl⟩⟩
            · have HT2 := Lib.hid (show tst (strL want) line = true by rw [HT.out, hbk, decT h16]; rfl)
              have cB := c_blk R2 wz (by omega)
              rw [hbk] at cB
              have CB := Lib.hid cB
              clear cB hbk
              go_wp2_with (first
          | (go_at_call 44; go_must (refine (CC.out _).mono ?_); rintro e w3 ⟨rfl, rfl⟩)
          | (go_at_call 45; go_must (refine (CP.out _).mono ?_); rintro e w4 ⟨rfl, rfl⟩)
                | (go_at_call 46; go_must (refine CB.out.mono ?_); rintro e w5 ⟨rfl, rfl⟩))
              go_ret
              exact ⟨by rw [HBQ.out, HT2.out]; rfl, hBz7⟩
          · have hk16 : ¬ (R2.size : Int) ≤ 16 := by omega
            have HT2 := Lib.hid (show tst (strL want) line = false by rw [HT.out, decF h16]; simp)
            go_wp2_with (first
          | (go_at_call 44; go_must (refine (CC.out _).mono ?_); rintro e w3 ⟨rfl, rfl⟩)
          | (go_at_call 45; go_must (refine (CP.out _).mono ?_); rintro e w4 ⟨rfl, rfl⟩))
            go_roundg g
            case measure => omega
            case rel => exact ⟨hBz7, .inr ⟨rfl, by rw [HBQ.out, HT2.out]; rfl⟩⟩
    · have HBF := Lib.hid hbq
      clear hbq
      go_wp2
      go_ret
      exact ⟨by rw [HBF.out]; rfl, HB.out⟩
end Go.Proofs.Ytmalacamfjdimaa.Pt
