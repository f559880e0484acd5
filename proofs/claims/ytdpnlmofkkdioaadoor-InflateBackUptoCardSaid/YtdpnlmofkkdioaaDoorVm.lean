/- The reference's writer: Deflate. -/
import Derived.Test.YtdpnlmofkkdioaaDoorVl
namespace Go.Proofs.YtdpnlmofkkdioaaDoor.Hf
set_option linter.unusedVariables false
set_option linter.unusedSimpArgs false
open Go.RowKit Go.Proofs.YtdpnlmofkkdioaaDoor.W

def DefP (w : World) (b : List Int) (e : Ending) (w' : World) : Prop := ∃ A c zl bits n, e = .returned (.slice A n c) ∧ zl.length = n ∧ w'.ownsRow w.heap.size 5 1 (.slice A n c) n (u8s zl) ∧ Pk zl bits ∧ Wrote b b.length bits true ∧ n ≤ 10000000 ∧ Below w.heap.size w w'
set_option maxHeartbeats 16000000 in
set_option maxRecDepth 100000 in
theorem w_deflate (w : World) (A Ap : Option Addr) (L c np cp : Nat) (l : List Int) (ps : List (Int × Int × Bool × Bool)) (hL : l.length = L) (hL5 : L ≤ 5000) (hB : Bytes l) (hr : RB w A l) (hp : ps.length = np) (hnp : np ≤ 200) (hrp : RP4 w Ap ps) :
    Calls Tryd.prog 22 #[.slice A L c, .slice Ap np cp] w (DefP w l) := by
  have HLL := Lib.hid hL
  have HBY := Lib.hid hB
  have HR := Lib.hid hr
  have HPL := Lib.hid hp
  have HRP := Lib.hid hrp
  clear hL hB hr hp hrp
  have HW0 := Lib.hid (show Wz (w.alloc (.cells #[.slice none 0 0, .int .i64 0] 72)) w.heap.size w.heap.size [] from
    ⟨⟨none, 0, [], heap_alloc_new _ _, World.ownsRow_nil _ _ _ _, Pk.zero⟩, Nat.le_refl _, by simp⟩)
  have HF0 := Lib.hid (show Kp [] w (w.alloc (.cells #[.slice none 0 0, .int .i64 0] 72)) from (Kp.refl _ _).alloc _)
  have tk1 : True := trivial
  have tk2 : True := trivial
  go_enter Tryd.func22, Tryd.ntmps22
  go_upto_block 0 with (first
    | (go_at_call 26; have _t := tk1; go_must (refine (r_fixed (w.alloc (.cells #[.slice none 0 0, .int .i64 0] 72))).mono ?_); rintro e w1 ⟨A7, c7, A8, c8, rfl, hra, -, hk7⟩; have HRA := Lib.hid hra; have HK7 := Lib.hid hk7; clear hra hk7 tk1 _t)
    | (go_at_call 26; go_must (refine (r_fixed w1).mono ?_); rintro e w2 ⟨A5, c5, A6, c6, rfl, -, hrb, hk6⟩; have HRB := Lib.hid hrb; have HK6 := Lib.hid hk6; clear hrb hk6)
    | (go_at_call 27; have _t := tk2; go_must (refine (r_new A7 288 c7 fixL w2 (by decide +kernel) (by omega) fixL_15 (HRA.out.below (HK6.out.below (Nat.le_refl _) (by simp)))).mono ?_); rintro e w3 hn8; obtain ⟨ta, rfl, hta, hka⟩ := hn8.yes fixL_ok; have HTA := Lib.hid hta; have HKA := Lib.hid hka; clear hta hka tk2 _t)
    | (go_at_call 27; go_must (refine (r_new A6 32 c6 fixD w3 (by decide +kernel) (by omega) fixD_15 (HRB.out.below (HKA.out.below (Nat.le_refl _) (by simp)))).mono ?_); rintro e w4 hn9; obtain ⟨tb, rfl, htb, hkb⟩ := hn9.yes fixD_ok; have HTB := Lib.hid htb; have HKB := Lib.hid hkb; clear htb hkb))
  have HK4 := Lib.hid (((HK7.out.trans HK6.out).trans HKA.out).trans HKB.out)
  have HW4 := Lib.hid (HW0.out.fr HK4.out)
  have HTA4 := Lib.hid (HTA.out.fw (Fw.of_kp (B := w.heap.size) HKB.out (fun k hk => (by cases hk))))
  have HF4 := Lib.hid (HF0.out.trans HK4.out)
  clear HRA HRB HTA HKA HKB HK7 HK6 HW0 HF0 HK4
  generalize hB0 : w.heap.size = B at *
  have HB0 := Lib.hid hB0
  clear hB0
  go_wp2_with (fail)
  go_loopg [6, 15] np (fun g s6 s15 wx => ∃ (i at_ : Nat) (bits : List Bool), i + g = np ∧ s6 = .int .i64 (at_ : Nat) ∧ s15 = .int .i64 (i : Nat) ∧ at_ ≤ L ∧ Hid (Wz wx B B bits ∧ Wrote l at_ bits false ∧ Fw B w4 wx ∧ bits.length ≤ 300000 * i))
  case atStart => exact ⟨0, 0, [], by omega, rfl, rfl, by omega, Lib.hid ⟨HW4.out, Wrote.zero l, Fw.refl _ _, by simp⟩⟩
  case round =>
    obtain ⟨i, at_, bits, hig, rfl, rfl, hat, hst⟩ := hrel
    go_upto_region 10 with (fail)
    have P9 := Lib.hid (show (wr.alloc (.cells #[.int .u8 1, .int .u16 65535, .bool true, .bool false] 74)).heap[wr.heap.size]? = some (.cells #[.int .u8 1, .int .u16 65535, .bool true, .bool false] 74 (0, 0)) from heap_alloc_new _ _)
    have K9 := Lib.hid (show Kp [] wr (wr.alloc (.cells #[.int .u8 1, .int .u16 65535, .bool true, .bool false] 74)) from (Kp.refl _ _).alloc _)
    obtain ⟨pb, hpb⟩ : ∃ pb, wr.heap.size = pb := ⟨_, rfl⟩
    rw [hpb] at P9 ⊢
    have HPB := Lib.hid hpb
    clear hpb
    change Code.wp _ _ _ _ (wr.alloc (.cells #[.int .u8 1, .int .u16 65535, .bool true, .bool false] 74))
    generalize wr.alloc (.cells #[.int .u8 1, .int .u16 65535, .bool true, .bool false] 74) = w9 at *
    have HBW := Lib.hid (show Below B w w9 by
      have h1 := HF4.out.below (Nat.le_refl _) (fun k hk => (by cases hk))
      rw [HB0.out] at h1
      have h2 := hst.out.2.2.1.below HW4.out.sz
      have h3 := K9.out.below (Nat.le_trans hst.out.1.sz (Nat.le_refl _)) (fun k hk => (by cases hk))
      exact h1.trans (h2.trans h3))
    go_upto_if 46 with (fail)
    go_cut [] (fun wz => ∃ k nb cc rn, Hid (wz.heap[pb]? = some (.cells #[.int .u8 k, .int .u16 nb, .bool cc, .bool rn] 74 (0, 0)) ∧ Kp [] wr wz ∧ (0 ≤ k ∧ k < 256) ∧ (0 ≤ nb ∧ nb < 65536) ∧ (i = np → nb = 65535)))
    case first =>
      by_cases hin : i < np
      · have hk : (i : Int) < (np : Int) := by omega
        have hk0 : (0 : Int) ≤ (i : Int) := by omega
        obtain ⟨t, ht⟩ : ∃ t, ps[i]? = some t := ⟨_, List.getElem?_eq_getElem (by rw [HPL.out]; omega)⟩
        obtain ⟨k, nb, cc, rn⟩ := t
        obtain ⟨blk, off, rfl, hlt, x0, x1, x2, x3, hkb, hnb⟩ := (HRP.out.below (by rw [HB0.out]; exact HBW.out)) i k nb cc rn ht
        have z0 : w9.cell? ⟨pb, 0, none⟩ = some (.int .u8 1) := cell_of_row w9 pb 0 _ _ _ P9.out
        have z1 : w9.cell? ⟨pb, 1, none⟩ = some (.int .u16 65535) := cell_of_row w9 pb 1 _ _ _ P9.out
        have z2 : w9.cell? ⟨pb, 2, none⟩ = some (.bool true) := cell_of_row w9 pb 2 _ _ _ P9.out
        have z3 : w9.cell? ⟨pb, 3, none⟩ = some (.bool false) := cell_of_row w9 pb 3 _ _ _ P9.out
        have hfz : ∀ i, w9.frozen? ⟨pb, i, none⟩ = false := fun i => frozen_of_row w9 pb i _ _ P9.out
        have hpl : pb < w9.heap.size := (Array.getElem?_eq_some_iff.1 P9.out).1
        have HBN := Lib.hid (show (0 ≤ k ∧ k < 256) ∧ (0 ≤ nb ∧ nb < 65536) from ⟨hkb, hnb⟩)
        have HIN := Lib.hid hin
        clear ht hin
        go_wp2_with (fail)
        go_meet
        have e1 := heap_set P9.out 0 (.int .u8 k)
        have e2 := heap_set e1 1 (.int .u16 nb)
        have e3 := heap_set e2 2 (.bool cc)
        have e4 := heap_set e3 3 (.bool rn)
        have hge : wr.heap.size ≤ pb := by rw [HPB.out]; exact Nat.le_refl _
        exact ⟨k, nb, cc, rn, Lib.hid ⟨e4, (((K9.out.setCell (.inr hge) _).setCell (.inr hge) _).setCell (.inr hge) _).setCell (.inr hge) _, HBN.out.1, HBN.out.2, fun h => by have := HIN.out; omega⟩⟩
      · have hk : ¬ (i : Int) < (np : Int) := by omega
        have HIN := Lib.hid hin
        go_wp2_with (fail)
        go_meet
        exact ⟨_, _, _, _, Lib.hid ⟨P9.out, K9.out, by omega, by omega, fun _ => rfl⟩⟩
    case rest =>
      obtain ⟨k, nb, cc, rn, hp⟩ := hcut
      obtain ⟨kq, rfl⟩ : ∃ n : Nat, k = n := ⟨k.toNat, by have := hp.out.2.2.1; omega⟩
      obtain ⟨y, rfl⟩ : ∃ n : Nat, nb = n := ⟨nb.toNat, by have := hp.out.2.2.2.1; omega⟩
      have HPC := Lib.hid (show ∀ wx, wx.heap[pb]? = some (.cells #[.int .u8 (kq : Nat), .int .u16 (y : Nat), .bool cc, .bool rn] 74 (0, 0)) → wx.cell? ⟨pb, 0, none⟩ = some (.int .u8 (kq : Nat)) ∧ wx.cell? ⟨pb, 1, none⟩ = some (.int .u16 (y : Nat)) ∧ wx.cell? ⟨pb, 2, none⟩ = some (.bool cc) ∧ wx.cell? ⟨pb, 3, none⟩ = some (.bool rn) from fun wx h => ⟨cell_of_row wx pb 0 _ _ _ h, cell_of_row wx pb 1 _ _ _ h, cell_of_row wx pb 2 _ _ _ h, cell_of_row wx pb 3 _ _ _ h⟩)
      have HPR := Lib.hid hp.out.1
      have HKW := Lib.hid hp.out.2.1
      have hk256 : kq < 256 := by have := hp.out.2.2.1; omega
      have hy : y < 65536 := by have := hp.out.2.2.2.1; omega
      have HYL := Lib.hid (show i = np → y = 65535 from fun h => by have := hp.out.2.2.2.2 h; omega)
      have HWC := Lib.hid (hst.out.1.fr HKW.out)
      have HWT := Lib.hid hst.out.2.1
      have HFC := Lib.hid (hst.out.2.2.1.trans (Fw.of_kp HKW.out (fun k hk => (by cases hk))))
      have HBL := Lib.hid hst.out.2.2.2
      clear hp hst P9 K9 HBW HKW
      obtain ⟨z0, z1, z2, z3⟩ := HPC.out _ HPR.out
      obtain ⟨E, hE⟩ : ∃ E : Nat, min (L : Int) ((at_ : Int) + (y : Int)) = (E : Int) := ⟨min L (at_ + y), by omega⟩
      have hE1 : at_ ≤ E := by omega
      have hE2 : E ≤ L := by omega
      have hE3 : E - at_ ≤ 65535 := by omega
      have HE4 := Lib.hid (show i = np → E = L from fun h => by have := HYL.out h; omega)
      go_upto_region 13 with (fail)
      obtain ⟨lb, hlb⟩ : ∃ lb, decide (i = np) = lb := ⟨_, rfl⟩
      go_cut [18] (fun s18 wz => s18 = .bool lb ∧ wc = wz)
      case first =>
        by_cases hin : i = np
        · have hk : (i : Int) ≥ (np : Int) := by omega
          have hEL := HE4.out hin
          have hEq : ((E : Int) == (L : Int)) = true := W.eqT (by omega)
          have hlt : lb = true := by rw [← hlb]; exact decide_eq_true hin
          clear hlb hin hE hEL
          go_wp2_with (fail)
          go_meet
          rw [hlt]
          exact ⟨rfl, rfl⟩
        · have hk : ¬ (i : Int) ≥ (np : Int) := by omega
          have hlt : lb = false := by rw [← hlb]; exact decide_eq_false hin
          clear hlb hin hE
          go_wp2_with (fail)
          go_meet
          rw [hlt]
          exact ⟨rfl, rfl⟩
      case rest =>
        obtain ⟨rfl, rfl⟩ := hcut
        have HLB := Lib.hid hlb
        clear hlb hE
        have hbl : bits.length ≤ 300000 * 200 := by have := HBL.out; omega
        have HB3 := Lib.hid hbl
        have C0 := Lib.hid (w_number wc B B bits 0 1 HWC.out (by omega) (by omega) (by omega))
        have C1 := Lib.hid (w_number wc B B bits 1 1 HWC.out (by omega) (by omega) (by omega))
        clear hbl
        go_upto_if 69 with (fail)
        go_cut [] (fun wz => Hid (Wz wz B B (bits ++ bitsOf 1 lb.toNat) ∧ Fw B wc wz))
        case first =>
          cases lb with
          | true =>
            go_wp2_with (first
              | (go_at_call 38; go_must (refine C1.out.mono ?_); rintro e w2 ⟨rfl, h1, h2⟩; have HW2 := Lib.hid (And.intro h1 h2); clear h1 h2))
            go_meet
            exact HW2
          | false =>
            go_wp2_with (first
              | (go_at_call 38; go_must (refine C0.out.mono ?_); rintro e w2 ⟨rfl, h1, h2⟩; have HW2 := Lib.hid (And.intro h1 h2); clear h1 h2))
            go_meet
            exact HW2
        case rest =>
          have HW2 := Lib.hid hcut.out.1
          have HF2 := Lib.hid (HFC.out.trans hcut.out.2)
          have HP2 := Lib.hid (hcut.out.2.block pb _ HPR.out (.inr ⟨_, _, rfl, by decide, by decide⟩))
          clear hcut C0 C1 HPR HFC HWC z0 z1 z2 z3
          obtain ⟨z0, z1, z2, z3⟩ := HPC.out _ HP2.out
          obtain ⟨kd, hkd⟩ : ∃ n : Nat, kq % 3 = n := ⟨_, rfl⟩
          have hkd3 : kd < 3 := by omega
          have hkdi : (kq : Int) % 3 = (kd : Int) := by omega
          have HLB1 := Lib.hid (show (bits ++ bitsOf 1 lb.toNat).length = bits.length + 1 by rw [List.length_append, bitsOf_length])
          have C2 := Lib.hid (w_number wc B B _ kd 2 HW2.out (by omega) (by omega) (by rw [HLB1.out]; have := HB3.out; omega))
          go_upto_region 18 with (first
            | (go_at_call 38; go_must (refine C2.out.mono ?_); rintro e w3 ⟨rfl, h1, h2⟩; have HW3 := Lib.hid h1; have HF3 := Lib.hid (HF2.out.trans h2); have HP3 := Lib.hid (h2.block pb _ HP2.out (.inr ⟨_, _, rfl, by decide, by decide⟩)); clear h1 h2))
          clear z0 z1 z2 z3 C2 HP2 HF2 HW2
          obtain ⟨z0, z1, z2, z3⟩ := HPC.out _ HP3.out
          have HRB := Lib.hid (show ∀ wx, Fw B w4 wx → RB wx A l from fun wx hf => RV.below HR.out (by
            have h1 := HF4.out.below (Nat.le_refl _) (fun k hk => (by cases hk))
            rw [HB0.out] at h1 ⊢
            exact h1.trans (hf.below HW4.out.sz)))
          go_upto_block 2 with (fail)
          go_cut [] (fun wz => ∃ bits', Hid (Wz wz B B bits' ∧ Wrote l E bits' lb ∧ Fw B w4 wz ∧ bits'.length ≤ 300000 * (i + 1)))
          case first =>
            have hkd2 : kd = 0 ∨ kd = 1 ∨ kd = 2 := by omega
            have HW3k := HW3
            rcases hkd2 with hq | hq | hq
            · rw [hq] at HW3
              have i0 : ((kq : Int) % 3 == 0) = true := W.eqT (by omega)
              clear hq hkd hkdi hkd3
              obtain ⟨bs2, hbs2⟩ : ∃ b, bits ++ bitsOf 1 lb.toNat ++ bitsOf 2 0 = b := ⟨_, rfl⟩
              rw [hbs2] at HW3
              have HBS2 := Lib.hid hbs2
              have HL2 := Lib.hid (show bs2.length = bits.length + 3 by rw [← hbs2, List.length_append, HLB1.out, bitsOf_length])
              obtain ⟨pd, hpd⟩ : ∃ p, (8 - (bits.length + 3) % 8) % 8 = p := ⟨_, rfl⟩
              have HPD := Lib.hid hpd
              clear hbs2 hpd
              go_upto_block 3 with (fail)
              go_cut [] (fun wz => Hid (Wz wz B B (bs2 ++ List.replicate pd false) ∧ Fw B w3 wz))
              case first =>
                go_wp2_with (fail)
                go_loopg [] pd (fun g wx => ∃ j, j + g = pd ∧ Hid (Wz wx B B (bs2 ++ List.replicate j false) ∧ Fw B w3 wx))
                case atStart => exact ⟨0, by omega, Lib.hid ⟨by rw [List.replicate_zero, List.append_nil]; exact HW3.out, Fw.refl _ _⟩⟩
                case round =>
                  obtain ⟨j, hjg, hst⟩ := hrel
                  have hex : ∃ T : Nat, T = bits.length + 3 + j ∧ wr.cell? ⟨B, 1, none⟩ = some (.int .i64 (T : Nat)) := by
                    obtain ⟨A', c', zl, q1, q2, q3⟩ := hst.out.1.ex
                    refine ⟨(bs2 ++ List.replicate j false).length, by rw [List.length_append, List.length_replicate, HL2.out], cell_of_row wr B 1 _ _ _ q1⟩
                  obtain ⟨T, hT, d1⟩ := hex
                  obtain ⟨r, hr⟩ : ∃ r, T % 8 = r := ⟨_, rfl⟩
                  have hri : (T : Int) % 8 = (r : Int) := by omega
                  have hpd := HPD.out
                  cases gk with
                  | zero =>
                    have hr0 : r = 0 := by omega
                    have i9 : ((r : Int) != 0) = false := W.neF (by omega)
                    obtain rfl : j = pd := by omega
                    clear hr hr0 hT hpd
                    go_wp2_with (fail)
                    go_meet
                    exact hst
                  | succ g =>
                    have hr0 : r ≠ 0 := by omega
                    have i9 : ((r : Int) != 0) = true := W.neT (by omega)
                    have C3 := Lib.hid (w_number wr B B _ 0 1 hst.out.1 (by omega) (by omega) (by rw [List.length_append, List.length_replicate, HL2.out]; have := HB3.out; omega))
                    clear hr hr0 hT hpd
                    go_wp2_with (first
                      | (go_at_call 38; go_must (refine C3.out.mono ?_); rintro e w5 ⟨rfl, h1, h2⟩; have HW5 := Lib.hid h1; have HF5 := Lib.hid (hst.out.2.trans h2); clear h1 h2))
                    go_roundg g
                    case measure => omega
                    case rel =>
                      refine ⟨j + 1, by omega, Lib.hid ⟨?_, HF5.out⟩⟩
                      have h9 := HW5.out
                      rw [List.append_assoc, show List.replicate j false ++ bitsOf 1 0 = List.replicate (j + 1) false by rw [List.replicate_succ']; rfl] at h9
                      exact h9
              case rest =>
                have HW4b := Lib.hid hcut.out.1
                have HF4b := Lib.hid (HF3.out.trans hcut.out.2)
                clear hcut
                obtain ⟨n, hn⟩ : ∃ n, E - at_ = n := ⟨_, rfl⟩
                have hni : (E : Int) - (at_ : Int) = (n : Int) := by omega
                obtain ⟨m6, hm⟩ : ∃ m, 65535 - n = m := ⟨_, rfl⟩
                have hmi : (65535 : Int) - (n : Int) = (m6 : Int) := by omega
                have HNM := Lib.hid (show E - at_ = n ∧ 65535 - n = m6 from ⟨hn, hm⟩)
                have hnb : n ≤ 5000 ∧ m6 ≤ 65535 := by omega
                have HL4 := Lib.hid (show (bs2 ++ List.replicate pd false).length = bits.length + 3 + pd by rw [List.length_append, List.length_replicate, HL2.out])
                have hpd8 : pd < 8 := by have := HPD.out; omega
                have C3 := Lib.hid (w_number wc B B _ n 16 HW4b.out (by omega) (by omega) (by rw [HL4.out]; have := HB3.out; omega))
                clear hn hm
                go_upto_region 24 with (first
                  | (go_at_call 38; go_must (refine C3.out.mono ?_); rintro e w5 ⟨rfl, h1, h2⟩; have HW5 := Lib.hid h1; have HF5 := Lib.hid (HF4b.out.trans h2); clear h1 h2))
                have C4 := Lib.hid (w_number w5 B B _ m6 16 HW5.out (by omega) (by omega) (by rw [List.length_append, HL4.out, bitsOf_length]; have := HB3.out; omega))
                go_upto_block 5 with (first
                  | (go_at_call 38; go_must (refine C4.out.mono ?_); rintro e w6 ⟨rfl, h1, h2⟩; have HW6 := Lib.hid h1; have HF6 := Lib.hid (HF5.out.trans h2); clear h1 h2))
                obtain ⟨bs6, hbs6⟩ : ∃ b, bs2 ++ List.replicate pd false ++ bitsOf 16 n ++ bitsOf 16 m6 = b := ⟨_, rfl⟩
                rw [hbs6] at HW6
                have HBS6 := Lib.hid hbs6
                have HL6 := Lib.hid (show bs6.length ≤ bits.length + 50 by rw [← hbs6, List.length_append, List.length_append, HL4.out, bitsOf_length, bitsOf_length]; omega)
                clear hbs6 C3 C4 hni hmi
                go_wp2_with (fail)
                go_loopg [19] n (fun g s19 wx => ∃ j m : Nat, j + g = n ∧ Hid (m = at_ + j) ∧ s19 = .int .i64 (m : Nat) ∧ Hid (Wz wx B B (bs6 ++ bits8 ((l.drop at_).take j)) ∧ Fw B w4 wx))
                case atStart => exact ⟨0, at_, by omega, Lib.hid rfl, rfl, Lib.hid ⟨by rw [List.take_zero]; show Wz w6 B B (bs6 ++ []); rw [List.append_nil]; exact HW6.out, HF6.out⟩⟩
                case round =>
                  obtain ⟨j, m, hjg, hmj, rfl, hst⟩ := hrel
                  cases gk with
                  | zero =>
                    obtain rfl : j = n := by omega
                    have hk : ¬ (m : Int) < (E : Int) := by have h1 := HNM.out.1; have h2 := hmj.out; omega
                    go_wp2_with (fail)
                    go_meet
                    have h9 := HWT.out.stored HBY.out hE1 (by rw [HLL.out]; exact hE2) hE3 lb
                    rw [HBS2.out, HPD.out, HNM.out.1, HNM.out.2, HBS6.out] at h9
                    refine ⟨_, Lib.hid ⟨hst.out.1, h9, hst.out.2, ?_⟩⟩
                    rw [List.length_append, bits8_length, List.length_take]
                    have h1 := HL6.out
                    have h2 := HBL.out
                    have h3 := Nat.min_le_left j (l.drop at_).length
                    omega
                  | succ g =>
                    have hmE : m < E := by have h1 := HNM.out.1; have h2 := hmj.out; omega
                    have hk : (m : Int) < (E : Int) := by omega
                    have hk0 : (0 : Int) ≤ (m : Int) := by omega
                    have hkL : (m : Int) < (L : Int) := by omega
                    have hkW : (m : Int) + 1 ≤ 5001 := by omega
                    obtain ⟨x, hx⟩ : ∃ x, l[m]? = some x := ⟨_, List.getElem?_eq_getElem (by rw [HLL.out]; omega)⟩
                    have hxb := HBY.out x (List.mem_of_getElem? hx)
                    obtain ⟨xn, rfl⟩ : ∃ xn : Nat, x = xn := ⟨x.toNat, by omega⟩
                    obtain ⟨gb, off, rfl, hlt, d0⟩ := (HRB.out wr hst.out.2).get hx
                    have HNX := Lib.hid (show bs6 ++ bits8 ((l.drop at_).take (j + 1)) = bs6 ++ bits8 ((l.drop at_).take j) ++ bitsOf 8 xn by
                      have h2 : (l.drop at_)[j]? = some (xn : Int) := by rw [List.getElem?_drop, ← hmj.out]; exact hx
                      obtain ⟨q1, q2⟩ := List.getElem?_eq_some_iff.1 h2
                      rw [List.take_succ_eq_append_getElem q1, q2, List.append_assoc]
                      congr 1
                      unfold bits8
                      rw [List.flatMap_append]
                      simp [byteB])
                    have C5 := Lib.hid (w_number wr B B _ xn 8 hst.out.1 (by omega) (by omega) (by rw [List.length_append, bits8_length, List.length_take]; have := HL6.out; have := HB3.out; omega))
                    have hxn : xn < 256 := by omega
                    clear hx hxb
                    go_wp2_with (first
                      | (go_at_call 38; go_must (refine C5.out.mono ?_); rintro e w7 ⟨rfl, h1, h2⟩; have HW7 := Lib.hid h1; have HF7 := Lib.hid (hst.out.2.trans h2); clear h1 h2))
                    go_roundg g
                    case measure => omega
                    case rel => exact ⟨j + 1, m + 1, by omega, Lib.hid (by have := hmj.out; omega), by go_num, Lib.hid ⟨by rw [HNX.out]; exact HW7.out, HF7.out⟩⟩
            · rw [hq] at HW3
              have i0 : ((kq : Int) % 3 == 0) = false := W.eqF (by omega)
              have i1 : ((kq : Int) % 3 == 1) = true := W.eqT (by omega)
              clear hq hkd hkdi hkd3
              have CT := Lib.hid (w_tokens w3 A L c l at_ E cc HLL.out (HRB.out w3 HF3.out) HBY.out hL5 hE1 hE2)
              go_wp2_with (first
                | (go_at_call 40; go_must (refine CT.out.mono ?_); rintro e w5 ⟨At, ct, toks, nt, rfl, h1, h2, h3, h4⟩; have HTL := Lib.hid h1; have HTR := Lib.hid (show R3 w5 104 At (tk3 toks) from R3.own (by rw [← tkC_3]; exact h2)); have HTK := Lib.hid h3; have HK5 := Lib.hid h4; have htn : nt ≤ 5000 := (by have := h3.count; omega); have HF5 := Lib.hid (HF3.out.trans (Fw.of_kp (B := B) h4 (fun k hk => (by cases hk)))); have CB := Lib.hid (w_body w5 B B ta tb fixL fixD At nt ct toks _ (HW3.out.fr h4) (HTA4.out.fw HF5.out) (HTB.out.fw HF5.out) h1 HTR.out (h3.ok HBY.out) (by decide +kernel) (by decide +kernel) fixL_15 fixD_15 htn (by rw [List.length_append, HLB1.out, bitsOf_length]; have := HB3.out; omega)); clear h1 h2 h3 h4)
                | (go_at_call 39; go_must (refine CB.out.mono ?_); rintro e w6 ⟨rfl, h1, h2⟩; have HW6 := Lib.hid h1; have HF6 := Lib.hid (HF5.out.trans h2); clear h1 h2))
              go_meet
              refine ⟨_, Lib.hid ⟨HW6.out, HWT.out.fixed HBY.out HTK.out lb, HF6.out, ?_⟩⟩
              have e1 := encToks_len fixL_15 fixD_15 (by decide +kernel) (by decide +kernel) (HTK.out.ok HBY.out)
              have e2 := code_len15 fixL_15 (i := 256) (by decide +kernel)
              rw [HTL.out] at e1
              have e3 := HBL.out
              have e4 := HLB1.out
              simp only [List.length_append, bitsOf_length] at e4 ⊢
              omega
            · rw [hq] at HW3
              have i0 : ((kq : Int) % 3 == 0) = false := W.eqF (by omega)
              have i1 : ((kq : Int) % 3 == 1) = false := W.eqF (by omega)
              clear hq hkd hkdi hkd3
              have hkd : Kp [] w3 w3.drew := (Kp.refl _ _).drew
              have HFD := Lib.hid (HF3.out.trans (Fw.of_kp (B := B) hkd (fun k hk => (by cases hk))))
              have HWD := Lib.hid (HW3.out.fr hkd)
              have HPD := Lib.hid (show w3.drew.heap[pb]? = some (.cells #[.int .u8 (kq : Nat), .int .u16 (y : Nat), .bool cc, .bool rn] 74 (0, 0)) from HP3.out)
              have CT := Lib.hid (w_tokens w3.drew A L c l at_ E cc HLL.out (HRB.out _ HFD.out) HBY.out hL5 hE1 hE2)
              go_upto_region 19 with (fail)
              go_region_held3 (fun w' => w'.cell? ⟨pb, 2, none⟩ = some (.bool cc) ∧ w'.cell? ⟨pb, 3, none⟩ = some (.bool rn)) (first | exact ⟨z2, z3⟩ | exact ⟨y2, y3⟩ | exact ⟨x2, x3⟩)
                (first
                  | (go_at_call 40; go_must (refine CT.out.mono ?_); rintro e w5 ⟨At, ct, toks, nt, rfl, h1, h2, h3, h4⟩; have HTL := Lib.hid h1; have HTR := Lib.hid (show R3 w5 104 At (tk3 toks) from R3.own (by rw [← tkC_3]; exact h2)); have HTK := Lib.hid h3; have HK5 := Lib.hid h4; have htn : nt ≤ 5000 := (by have := h3.count; omega); have HF5 := Lib.hid (HFD.out.trans (Fw.of_kp (B := B) h4 (fun k hk => (by cases hk)))); have HP5 := Lib.hid ((h4.block pb (Array.getElem?_eq_some_iff.1 HPD.out).1 (by simp)).trans HPD.out); have hpx5 := HPC.out _ HP5.out; obtain ⟨y0, y1, y2, y3⟩ := hpx5; have CB := Lib.hid (w_dynamic w5 B B At nt ct toks rn _ (HWD.out.fr h4) h1 HTR.out (h3.ok HBY.out) htn (by rw [List.length_append, HLB1.out, bitsOf_length]; have := HB3.out; omega)); clear h1 h2 h3 h4)
                  | (go_at_call 41; go_must (refine CB.out.mono ?_); rintro e w6 ⟨aa, dd, ff, ss, hdy, rfl, h1, h2⟩; have HDY := Lib.hid hdy; have HW6 := Lib.hid h1; have HF6 := Lib.hid (HF5.out.trans h2); have HP6 := Lib.hid (h2.block pb _ HP5.out (.inr ⟨_, _, rfl, by decide, by decide⟩)); have hpx6 := HPC.out _ HP6.out; obtain ⟨x0, x1, x2, x3⟩ := hpx6; clear hdy h1 h2))
              go_wp2_with (fail)
              go_meet
              refine ⟨_, Lib.hid ⟨HW6.out, HWT.out.dynamic HBY.out HTK.out HDY.out lb, HF6.out, ?_⟩⟩
              have e1 := encDyn_len HDY.out (HTK.out.ok HBY.out)
              rw [HTL.out] at e1
              have e3 := HBL.out
              have e4 := HLB1.out
              rw [List.length_append, List.length_append, e4, bitsOf_length]
              omega
          case rest =>
            obtain ⟨bits', hw⟩ := hcut
            have c0 : ∃ A' c' zl, wc.cell? ⟨B, 0, none⟩ = some (.slice A' zl.length c') ∧ wc.ownsRow B 5 1 (.slice A' zl.length c') zl.length (u8s zl) ∧ Pk zl bits' := by
              obtain ⟨A', c', zl, q1, q2, q3⟩ := hw.out.1.ex
              exact ⟨A', c', zl, cell_of_row wc B 0 _ _ _ q1, q2, q3⟩
            obtain ⟨A', c', zl, c0, hown, hpk⟩ := c0
            have HOW := Lib.hid hown
            have HPK := Lib.hid hpk
            clear hown hpk
            have HLBN := Lib.hid (show lb = decide (i = np) from HLB.out.symm)
            cases lb with
            | true =>
              have HIN := Lib.hid (show i = np from of_decide_eq_true HLBN.out.symm)
              go_wp2_with (fail)
              go_ret
              have hEL := HE4.out HIN.out
              refine ⟨A', c', zl, bits', zl.length, rfl, rfl, by rw [HB0.out]; exact HOW.out, HPK.out, by rw [HLL.out, ← hEL]; exact hw.out.2.1, ?_, ?_⟩
              · have h1 := HPK.out.2.2.1
                have h2 := hw.out.2.2.2
                omega
              · rw [HB0.out]
                have h1 := HF4.out.below (Nat.le_refl _) (fun k hk => (by cases hk))
                rw [HB0.out] at h1
                exact h1.trans (hw.out.2.2.1.below HW4.out.sz)
            | false =>
              have hin : i ≠ np := of_decide_eq_false HLBN.out.symm
              obtain ⟨g, rfl⟩ : ∃ g, gk = g + 1 := ⟨gk - 1, by omega⟩
              go_wp2_with (fail)
              go_roundg g
              case measure => omega
              case rel => exact ⟨i + 1, E, bits', by omega, rfl, by go_num, hE2, Lib.hid ⟨hw.out.1, hw.out.2.1, hw.out.2.2.1, hw.out.2.2.2⟩⟩
end Go.Proofs.YtdpnlmofkkdioaaDoor.Hf
