/- The law PartsLines. -/
import Derived.Test.YtmalacamfjdimaaBc
namespace Go.Proofs.Ytmalacamfjdimaa.Pt
open Go.RowKit Go.Proofs.Ytmalacamfjdimaa.W

def filt (l : List Int) : List Int := l.filter fun x => decide (x ≠ 10 ∧ x ≠ 13)
theorem filt_snoc {l : List Int} {k : Nat} {x : Int} (h : l[k]? = some x) : filt (l.take (k + 1)) = filt (l.take k) ++ (if x ≠ 10 ∧ x ≠ 13 then [x] else []) := by
  rw [take_snoc' h]
  unfold filt
  rw [List.filter_append]
  congr 1
  by_cases hx : x ≠ 10 ∧ x ≠ 13
  · simp [hx]
  · rw [if_neg hx]; simp only [List.filter_cons, List.filter_nil]; rw [if_neg (by simpa using hx)]
theorem filt_len (l : List Int) : (filt l).length ≤ l.length := List.length_filter_le _ _
theorem filt_no (l : List Int) : ∀ y ∈ filt l, y ≠ 10 ∧ y ≠ 13 := fun y hy => by
  have := (List.mem_filter.1 hy).2
  simpa using this
theorem filt_bytes {l : List Int} (h : Bytes l) : Bytes (filt l) := fun y hy => h y (List.mem_filter.1 hy).1

set_option maxHeartbeats 2000000 in
set_option maxRecDepth 100000 in
theorem parts_lines (A : Option Addr) (n c : Nat) (ls : List (List Int)) (s : ByteArray) (w : World) (hin : RowsArg w A n c ls) (hs : s.size ≤ 140737488351232) (hb : n + (ls.map List.length).sum ≤ 1048576) :
    Calls Try.prog 9 #[.slice A n c, .string s] w (LawPost w) := by
  have hso : s.size ≤ 9223372036854775807 := by omega
  have HIN := Lib.hid hin
  have hn : n ≤ 1048576 := by omega
  have HRL := Lib.hid (show ∀ r ∈ ls, r.length ≤ 1048576 from fun r hr => by have := sum_ge ls r hr; omega)
  clear hin hb
  go_enter Try.func9, Try.ntmps9
  go_upto_block 0 with (fail)
  go_cut [5] (fun s5 wz => ∃ m c' A' vs, s5 = .slice A' m c' ∧ Prt wz (List.range w.heap.size) A' m c' vs ((ls.take 60).map filt) ∧ Below w.heap.size w wz)
  case first =>
    go_wp2_with (fail)
    go_loopg [5, 6] (min n 60) (fun g s5 s6 wx => ∃ (k m c' : Nat) (A' : Option Addr) (vs : List Value), k + g = min n 60 ∧ s6 = .int .i64 k ∧ s5 = .slice A' m c' ∧ Prt wx (List.range w.heap.size) A' m c' vs ((ls.take k).map filt) ∧ Below w.heap.size w wx)
    case atStart => exact ⟨0, 0, 0, none, [], by omega, rfl, rfl, Prt.nil _ _, Below.refl _ _⟩
    case round =>
      obtain ⟨k, m2, c2, A2, vs2, hkg, rfl, rfl, P, hB⟩ := hrel
      obtain ⟨wq, rfl⟩ : ∃ wq : World, wq = wr := ⟨_, rfl⟩
      cases gk with
      | zero =>
        have HP := Lib.hid P
        clear P
        by_cases hk60 : k < 60
        · obtain rfl : k = n := by omega
          have hk : ¬ (k : Int) < (k : Int) := by omega
          have HT := Lib.hid (show ls.take k = ls.take 60 by rw [List.take_of_length_le (by rw [HIN.out.len]; exact Nat.le_refl _), List.take_of_length_le (by rw [HIN.out.len]; omega)])
          go_wp2_with (fail)
          go_meet
          exact ⟨_, _, _, _, rfl, by rw [← HT.out]; exact HP.out, hB⟩
        · obtain rfl : k = 60 := by omega
          have h60 : ¬ ((60 : Nat) : Int) < 60 := by omega
          by_cases hkn : 60 < n
          · have hk : ((60 : Nat) : Int) < (n : Int) := by omega
            go_wp2_with (fail)
            go_meet
            exact ⟨_, _, _, _, rfl, HP.out, hB⟩
          · have hk : ¬ ((60 : Nat) : Int) < (n : Int) := by omega
            go_wp2_with (fail)
            go_meet
            exact ⟨_, _, _, _, rfl, HP.out, hB⟩
      | succ g =>
        have hk : (k : Int) < (n : Int) := by omega
        have hk60 : (k : Int) < 60 := by omega
        obtain ⟨l, hlk⟩ : ∃ l, ls[k]? = some l := ⟨_, List.getElem?_eq_getElem (by rw [HIN.out.len]; omega)⟩
        obtain ⟨bl, off, Al, cl, rfl, hblt, hcell0, hlc, hrb, _⟩ := RR.get HIN.out.rr hlk
        have hll := HRL.out l (List.mem_of_getElem? hlk)
        have HF := Lib.hid (show (ls.take (k + 1)).map filt = (ls.take k).map filt ++ [filt l] by rw [take_snoc' hlk]; simp)
        have hmk : m2 ≤ 60 := by have := P.len; rw [List.length_map, List.length_take] at this; omega
        have HRB := Lib.hid hrb
        have HBQ := Lib.hid hB
        have HPQ := Lib.hid P
        have hbq := hB.size
        have HC0 := Lib.hid hcell0
        clear hlk hcell0 hrb P
        go_upto_block 2 with (fail)
        go_cut [7] (fun s7 wz => ∃ m c A7, s7 = .slice A7 m c ∧ wz.ownsRow wq.heap.size 5 1 (.slice A7 m c) m (u8s (filt l)) ∧ Below wq.heap.size wq wz)
        case first =>
          go_wp2_with (fail)
          go_loopg [7, 8] l.length (fun g s7 s8 wx => ∃ (q m c : Nat) (A7 : Option Addr), q + g = l.length ∧ s8 = .int .i64 q ∧ s7 = .slice A7 m c ∧ wx.ownsRow wq.heap.size 5 1 (.slice A7 m c) m (u8s (filt (l.take q))) ∧ Below wq.heap.size wq wx)
          case atStart => exact ⟨0, 0, 0, none, by omega, rfl, rfl, World.ownsRow_nil _ _ _ _, Below.refl _ _⟩
          case round =>
            obtain ⟨q, m, c7, A7, hqg, rfl, rfl, own, hB7⟩ := hrel
            obtain ⟨wx, rfl⟩ : ∃ wx : World, wx = wr := ⟨_, rfl⟩
            have HBX := Lib.hid (HBQ.out.trans (hB7.mono hbq))
            have hcellR : wx.cell? ⟨bl, off + k, none⟩ = some (.slice Al l.length cl) := (HBX.out.cell (p := ⟨bl, off + k, none⟩) hblt).trans HC0.out
            have hbx := hB7.size
            cases gk with
            | zero =>
              obtain rfl : q = l.length := by omega
              have hq : ¬ (l.length : Int) < (l.length : Int) := by omega
              have HT := Lib.hid (show l.take l.length = l from List.take_of_length_le (Nat.le_refl _))
              go_wp2_with (fail)
              go_meet
              rw [HT.out] at own
              exact ⟨_, _, _, rfl, own, hB7⟩
            | succ g7 =>
              have hq : (q : Int) < (l.length : Int) := by omega
              obtain ⟨x, hx⟩ : ∃ x, l[q]? = some x := ⟨_, List.getElem?_eq_getElem (by omega)⟩
              obtain ⟨b2, off2, rfl, hb2, hbc⟩ := RB.get HRB.out hx
              have hbyte : wx.cell? ⟨b2, off2 + q, none⟩ = some (.int .u8 x) := (HBX.out.cell (p := ⟨b2, off2 + q, none⟩) hb2).trans hbc
              have hml : m ≤ 1048576 := by
                have h1 := u8_size own
                have h2 := filt_len (l.take q)
                rw [List.length_take] at h2
                omega
              have HFS := Lib.hid (filt_snoc hx)
              clear hx hbc
              by_cases h10 : x = 10
              · have e10 := neF h10
                have HT := Lib.hid (show filt (l.take (q + 1)) = filt (l.take q) by rw [HFS.out, if_neg (by omega)]; simp)
                clear h10
                go_wp2
                go_roundg g7
                case measure => omega
                case rel => exact ⟨q + 1, m, c7, A7, by omega, by go_num, rfl, by rw [HT.out]; exact own, hB7⟩
              · have e10 := neT h10
                by_cases h13 : x = 13
                · have e13 := neF h13
                  have HT := Lib.hid (show filt (l.take (q + 1)) = filt (l.take q) by rw [HFS.out, if_neg (by omega)]; simp)
                  clear h10 h13
                  go_wp2
                  go_roundg g7
                  case measure => omega
                  case rel => exact ⟨q + 1, m, c7, A7, by omega, by go_num, rfl, by rw [HT.out]; exact own, hB7⟩
                · have e13 := neT h13
                  have HT := Lib.hid (show filt (l.take (q + 1)) = filt (l.take q) ++ [x] by rw [HFS.out, if_pos ⟨h10, h13⟩])
                  clear h10 h13
                  go_wp2_with (at_builtin; go_must (refine wpList_ap el8 rfl (.tmp 53) (.tmp 61) rfl rfl (own.alloc _) rfl rfl (RV.new _ _) (by intro u hu; simp at hu; subst hu; rfl) (by unfold maxLen; simp; omega) (by simp; omega) (by simp; omega) ?_); intro A8 c8 w8 hown8 hgrow8 hat8 hle8)
                  go_roundg g7
                  case measure => omega
                  case rel => exact ⟨q + 1, m + 1, c8, A8, by omega, by go_num, rfl, by rw [HT.out, u8s_append]; exact hown8, hB7.trans (((bl_alloc wx _).mono hbx).trans (own_below hgrow8 (own.alloc _) (by simp; omega)))⟩
        case rest =>
          obtain ⟨m7, c7, A7, rfl, own7, hB7⟩ := hcut
          obtain ⟨w7, rfl⟩ : ∃ w7 : World, w7 = wc := ⟨_, rfl⟩
          have HO7 := Lib.hid own7
          have HB7 := Lib.hid hB7
          have HP7 := Lib.hid (HPQ.out.kept (Kp.of_below (S := []) hB7) (by simp))
          have hml := u8_size own7
          have HML := Lib.hid hml
          clear own7 hB7 hml
          go_wp2_with (at_builtin; go_must (refine wpList_ap el88 rfl (.tmp 63) (.tmp 65) rfl rfl (HP7.out.own.alloc _) rfl rfl (RV.new _ _) (by intro u hu; simp at hu; subst hu; rfl) (by unfold maxLen; omega) (by omega) (Nat.zero_le _) ?_); intro A8 c8 w8 hown8 hgrow8 hat8 hle8)
          go_roundg g
          case measure => omega
          case rel =>
            have hge : ∀ k, (Value.slice A7 m7 c7).ownBlock = some k → wq.heap.size ≤ k := fun k hk => (HO7.out.lt k hk).1
            have ho7 : w7.ownsRow 0 5 1 (.slice A7 m7 c7) (filt l).length (u8s (filt l)) := by rw [HML.out]; exact own_base HO7.out (Nat.zero_le _)
            refine ⟨k + 1, m2 + 1, c8, A8, _, by omega, by go_num, rfl, by rw [HF.out]; exact row_pushed HP7.out ho7 (fun k hk => by have := hge k hk; simp; omega) (fresh_ap (w1 := wq) HPQ.out hge) hown8 hgrow8 hat8 (fun k hk => by simp at hk; have := HB7.out.size; omega), ?_⟩
            refine (HBQ.out.trans (HB7.out.mono hbq)).trans (Kp.below (((Kp.refl (Value.slice A2 m2 c2).ownBlock.toList w7).alloc _).grown hgrow8 (fun k hk => .inl (by have hk' : (Value.slice A2 m2 c2).ownBlock = some k := hk; simpa using hk'))) (Nat.le_trans hbq HB7.out.size) (fun t ht => by
              have ht' : (Value.slice A2 m2 c2).ownBlock = some t := by simpa using ht
              have := HPQ.out.avoid t ht'
              simpa using this))
  case rest =>
    obtain ⟨m5, c5, A5, vs5, rfl, P5, hB5⟩ := hcut
    obtain ⟨w5, rfl⟩ : ∃ w5 : World, w5 = wc := ⟨_, rfl⟩
    have HP5 := Lib.hid P5
    have HB5 := Lib.hid hB5
    obtain ⟨pl, hpl⟩ : ∃ pl, (ls.take 60).map filt = pl := ⟨_, rfl⟩
    have HM5 := Lib.hid (show pl.length = m5 by rw [← hpl]; exact P5.len)
    have hm5 : m5 ≤ 60 := by have := P5.len; rw [List.length_map, List.length_take] at this; omega
    have HPB := Lib.hid (show ∀ q ∈ pl, Bytes q from fun q hq => by
      rw [← hpl] at hq
      obtain ⟨l, hl, rfl⟩ := List.mem_map.1 hq
      exact filt_bytes (HIN.out.by_ l (List.mem_of_mem_take hl)))
    have HPL := Lib.hid (show ∀ q ∈ pl, q.length ≤ 1048576 from fun q hq => by
      rw [← hpl] at hq
      obtain ⟨l, hl, rfl⟩ := List.mem_map.1 hq
      exact Nat.le_trans (filt_len l) (HRL.out l (List.mem_of_mem_take hl)))
    have HPN := Lib.hid (show ∀ q ∈ pl, ∀ y ∈ q, y ≠ 10 ∧ y ≠ 13 from fun q hq => by
      rw [← hpl] at hq
      obtain ⟨l, hl, rfl⟩ := List.mem_map.1 hq
      exact filt_no l)
    have HPR := Lib.hid (show RR w5 A5 pl by rw [← hpl]; exact RR.of_prt P5)
    clear P5 hB5 hpl HP5
    cases hv : validB s.data.toList
    · have HV := Lib.hid hv
      clear hv
      go_wp2_with (first
        | (go_at_call 25; go_must (refine (c_write_no _ s _ hso HV.out).mono ?_); rintro e w2 ⟨rfl, rfl⟩)
        | (go_at_call 14; go_must (refine (c_awake _).mono ?_); rintro e w6 ⟨rfl, hb6⟩))
      go_ret
      exact ⟨rfl, bl_then HB5.out hb6⟩
    · have HV := Lib.hid hv
      have hWk : Wk (⟨#[45, 45]⟩ ++ s) := Wk.mk' hv
      have HWK := Lib.hid hWk
      have HWL := Lib.hid (show (strL (⟨#[45, 45]⟩ ++ s)).length ≤ 72 by rw [strL_length]; exact hWk.le)
      clear hv hWk
      cases hany : pl.any (hasW (strL (⟨#[45, 45]⟩ ++ s)))
      · have HNO := Lib.hid (show ∀ q ∈ pl, hasW (strL (⟨#[45, 45]⟩ ++ s)) q = false from fun q hq => by
          have := List.any_eq_false.1 hany q hq
          simpa using this)
        have HWR := Lib.hid (show wres (strL (⟨#[45, 45]⟩ ++ s)) pl = some (wall (strL (⟨#[45, 45]⟩ ++ s)) pl) by unfold wres; rw [hany]; rfl)
        obtain ⟨x, hx⟩ : ∃ x, wall (strL (⟨#[45, 45]⟩ ++ s)) pl = x := ⟨_, rfl⟩
        have HX := Lib.hid hx
        have HXL := Lib.hid (show x.length ≤ 100000000 by
          have h1 := wbody_len HWL.out pl 1048576 HPL.out
          have h2 : pl.length * (1048576 + 76) ≤ 60 * (1048576 + 76) := Nat.mul_le_mul_right _ (by rw [HM5.out]; exact hm5)
          rw [← hx]
          have h3 : (wall (strL (⟨#[45, 45]⟩ ++ s)) pl).length = (wbody (strL (⟨#[45, 45]⟩ ++ s)) pl).length + ((strL (⟨#[45, 45]⟩ ++ s)).length + 4) := by simp [wall]
          have h4 := HWL.out
          omega)
        clear hany hx
        go_upto_block 4 with (first
          | (go_at_call 25; go_must (have cW := c_write A5 m5 c5 pl s w5 HM5.out (by omega) HPR.out HPB.out HPL.out HV.out); go_must (rw [HWR.out, HX.out] at cW); go_must (refine cW.mono ?_); rintro e w2 ⟨⟨A2, m2, c2, rfl, own2⟩, hb2⟩; have HO2 := Lib.hid own2; have HB2 := Lib.hid hb2; clear own2 hb2 cW))
        go_cut [11] (fun s11 wz => ∃ m c A7, s11 = .slice A7 m c ∧ wz.ownsRow w2.heap.size 5 1 (.slice A7 m c) m (u8s (no13 x)) ∧ Below w2.heap.size w2 wz)
        case first =>
          have HX2 := Lib.hid (show w2.ownsRow w5.heap.size 5 1 (.slice A2 m2 c2) m2 (u8s x) from HO2.out)
          have HM2 := Lib.hid (u8_size HX2.out)
          have hm2 : m2 ≤ 100000000 := by have h1 := HXL.out; have h2 := HM2.out; omega
          go_wp2_with (fail)
          go_loopg [11, 12] m2 (fun g s11 s12 wx => ∃ (q m c : Nat) (A7 : Option Addr), q + g = m2 ∧ s12 = .int .i64 q ∧ s11 = .slice A7 m c ∧ wx.ownsRow w2.heap.size 5 1 (.slice A7 m c) m (u8s (no13 (x.take q))) ∧ Below w2.heap.size w2 wx)
          case atStart => exact ⟨0, 0, 0, none, by omega, rfl, rfl, World.ownsRow_nil _ _ _ _, Below.refl _ _⟩
          case round =>
            obtain ⟨q, m, c7, A7, hqg, rfl, rfl, own, hB7⟩ := hrel
            obtain ⟨wx, rfl⟩ : ∃ wx : World, wx = wr := ⟨_, rfl⟩
            have hbx := hB7.size
            cases gk with
            | zero =>
              obtain rfl : q = m2 := by omega
              have hq : ¬ (q : Int) < (q : Int) := by omega
              have HT := Lib.hid (show x.take q = x from List.take_of_length_le (by rw [HM2.out]; exact Nat.le_refl _))
              go_wp2_with (fail)
              go_meet
              rw [HT.out] at own
              exact ⟨_, _, _, rfl, own, hB7⟩
            | succ g7 =>
              have hq : (q : Int) < (m2 : Int) := by omega
              obtain ⟨y, hy⟩ : ∃ y, x[q]? = some y := ⟨_, List.getElem?_eq_getElem (by rw [HM2.out]; omega)⟩
              obtain ⟨b2, off2, rfl, hb2, hbc⟩ := RB.get (show RB w2 A2 x from RV.own HX2.out) hy
              have hbyte : wx.cell? ⟨b2, off2 + q, none⟩ = some (.int .u8 y) := (hB7.cell (p := ⟨b2, off2 + q, none⟩) hb2).trans hbc
              have hml : m ≤ 100000000 := by
                have h1 := u8_size own
                have h2 : (no13 (x.take q)).length ≤ (x.take q).length := List.length_filter_le _ _
                rw [List.length_take] at h2
                have := HXL.out
                omega
              have HFS := Lib.hid (take_snoc' hy)
              clear hy hbc
              by_cases h13 : y = 13
              · have e13 := neF h13
                have HT := Lib.hid (show no13 (x.take (q + 1)) = no13 (x.take q) by rw [HFS.out, h13]; simp [no13])
                clear h13
                go_wp2
                go_roundg g7
                case measure => omega
                case rel => exact ⟨q + 1, m, c7, A7, by omega, by go_num, rfl, by rw [HT.out]; exact own, hB7⟩
              · have e13 := neT h13
                have HT := Lib.hid (show no13 (x.take (q + 1)) = no13 (x.take q) ++ [y] by rw [HFS.out]; simp [no13, h13])
                clear h13
                go_wp2_with (at_builtin; go_must (refine wpList_ap el8 rfl (.tmp 87) (.tmp 92) rfl rfl (own.alloc _) rfl rfl (RV.new _ _) (by intro u hu; simp at hu; subst hu; rfl) (by unfold maxLen; simp; omega) (by simp; omega) (by simp; omega) ?_); intro A8 c8 w8 hown8 hgrow8 hat8 hle8)
                go_roundg g7
                case measure => omega
                case rel => exact ⟨q + 1, m + 1, c8, A8, by omega, by go_num, rfl, by rw [HT.out, u8s_append]; exact hown8, hB7.trans (((bl_alloc wx _).mono hbx).trans (own_below hgrow8 (own.alloc _) (by simp; omega)))⟩
        case rest =>
          obtain ⟨m7, c7, A7, rfl, own7, hB7⟩ := hcut
          obtain ⟨w7, rfl⟩ : ∃ w7 : World, w7 = wc := ⟨_, rfl⟩
          have hyb : Bytes (no13 x) := by
            rw [← HX.out]
            intro y hy
            have hy := (List.mem_filter.1 hy).1
            unfold wall at hy
            rcases List.mem_append.1 hy with h | h
            · obtain ⟨q, hq, h⟩ := List.mem_flatMap.1 h
              unfold wsep at h
              rcases List.mem_append.1 h with h | h
              · rcases List.mem_append.1 h with h | h
                · rcases List.mem_append.1 h with h | h
                  · exact strL_bytes _ y h
                  · simp at h; omega
                · exact HPB.out q hq y h
              · simp at h; omega
            · rcases List.mem_append.1 h with h | h
              · exact strL_bytes _ y h
              · simp at h; omega
          have hyw : no13 x = lwall (strL (⟨#[45, 45]⟩ ++ s)) pl := by rw [← HX.out]; exact no13_wall HWK.out pl (fun q hq y hy => (HPN.out q hq y hy).2)
          have hlw := lines_whole HWK.out pl (fun q hq => ⟨HNO.out q hq, HPN.out q hq⟩)
          rw [← hyw] at hlw
          have hyl : (no13 x).length ≤ 1000000000 := by
            have h2 : (no13 x).length ≤ x.length := List.length_filter_le _ _
            have := HXL.out
            omega
          have hm7 := u8_size own7
          have cW := c_whole A7 m7 c7 (no13 x) s w7 hm7 (by omega) hyb (RV.own own7) HV.out
          unfold WholePost at cW
          rw [hlw.1, hlw.2] at cW
          have CW := Lib.hid cW
          have HB7 := Lib.hid hB7
          clear cW hlw hyw hyb own7 hm7 hyl hB7
          go_wp2_with (first
            | (go_at_call 10; go_must (refine CW.out.mono ?_); rintro e w8 ⟨A8, c8, vs8, rfl, P8, hb8⟩; have HP8 := Lib.hid P8; have HB8 := Lib.hid hb8; clear P8 hb8)
            | (go_at_call 16; go_must (have cR := c_rows A8 A5 _ m5 c8 c5 pl pl w8 HP8.out.len HM5.out (by have := HM5.out; omega) (by omega) (RR.of_prt HP8.out) (HPR.out.below (bl_then HB2.out (bl_then HB7.out HB8.out))) (fun h => absurd rfl h)); go_must (rw [decT rfl] at cR); go_must (refine cR.mono ?_); rintro e w9 ⟨rfl, d9, rfl⟩; clear cR)
            | (go_at_call 14; go_must (refine (c_awake _).mono ?_); rintro e w6 ⟨rfl, hb6⟩))
          go_ret
          exact ⟨rfl, bl_then HB5.out (bl_then HB2.out (bl_then HB7.out (bl_then HB8.out (bl_then (bl_drewN _ _) hb6))))⟩
      · have HWR := Lib.hid (show wres (strL (⟨#[45, 45]⟩ ++ s)) pl = none by unfold wres; rw [hany]; rfl)
        clear hany
        go_wp2_with (first
          | (go_at_call 25; go_must (have cW := c_write A5 m5 c5 pl s w5 HM5.out (by omega) HPR.out HPB.out HPL.out HV.out); go_must (rw [HWR.out] at cW); go_must (refine cW.mono ?_); rintro e w2 ⟨⟨A2, m2, c2, rfl, own2⟩, hb2⟩; have HO2 := Lib.hid own2; have HB2 := Lib.hid hb2; clear own2 hb2 cW)
          | (go_at_call 14; go_must (refine (c_awake _).mono ?_); rintro e w6 ⟨rfl, hb6⟩))
        go_ret
        exact ⟨rfl, bl_then HB5.out (bl_then HB2.out hb6)⟩
end Go.Proofs.Ytmalacamfjdimaa.Pt
