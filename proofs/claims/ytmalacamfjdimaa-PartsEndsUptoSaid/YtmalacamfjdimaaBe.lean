/- The law PartsBack. -/
import Derived.Test.YtmalacamfjdimaaBd
import Derived.Test.YtmalacamfjdimaaArgp
namespace Go.Proofs.Ytmalacamfjdimaa.Pt
open Go.RowKit Go.Proofs.Ytmalacamfjdimaa.W

theorem wbody_len2 {W : List Int} (hW : W.length ≤ 72) : ∀ (ls : List (List Int)), (wbody W ls).length ≤ (ls.map List.length).sum + ls.length * 76 := by
  intro ls
  induction ls with
  | nil => simp [wbody]
  | cons l ls ih =>
    have e : wbody W (l :: ls) = wsep W l ++ wbody W ls := by simp [wbody]
    have : (wsep W l).length = W.length + 2 + l.length + 2 := by simp [wsep]; omega
    rw [e, List.length_append, List.length_cons, List.map_cons, List.sum_cons, Nat.succ_mul]
    omega
def lett (x : Int) : Int := 97 + x % 26
def letts (l : List Int) : List Int := (l.take 50).map lett
theorem lett_ok (x : Int) : 97 ≤ lett x ∧ lett x ≤ 122 := by unfold lett; omega
theorem letts_no (l : List Int) : ∀ y ∈ letts l, y ≠ 10 ∧ y ≠ 45 := fun y hy => by
  obtain ⟨x, _, rfl⟩ := List.mem_map.1 hy
  have := lett_ok x
  omega
theorem letts_bytes (l : List Int) : Bytes (letts l) := fun y hy => by
  obtain ⟨x, _, rfl⟩ := List.mem_map.1 hy
  have := lett_ok x
  omega
theorem ahead_bytes {a : List Int} (h : Bytes a) : Bytes (ahead a) := by
  unfold ahead
  split
  · intro x hx; cases hx
  · intro x hx
    rcases List.mem_append.1 hx with h1 | h1
    · exact h x h1
    · simp at h1; omega
theorem wall_bytes (W : ByteArray) {pl : List (List Int)} (h : ∀ q ∈ pl, Bytes q) : Bytes (wall (strL W) pl) := by
  intro y hy
  unfold wall at hy
  rcases List.mem_append.1 hy with h1 | h1
  · obtain ⟨q, hq, h1⟩ := List.mem_flatMap.1 h1
    unfold wsep at h1
    rcases List.mem_append.1 h1 with h1 | h1
    · rcases List.mem_append.1 h1 with h1 | h1
      · rcases List.mem_append.1 h1 with h1 | h1
        · exact strL_bytes _ y h1
        · simp at h1; omega
      · exact h q hq y h1
    · simp at h1; omega
  · rcases List.mem_append.1 h1 with h1 | h1
    · exact strL_bytes _ y h1
    · simp at h1; omega

set_option maxHeartbeats 2000000 in
set_option maxRecDepth 100000 in
theorem parts_back (A : Option Addr) (n c : Nat) (ls : List (List Int)) (s : ByteArray) (A0 : Option Addr) (n0 c0 : Nat) (l0 : List Int) (A1 : Option Addr) (n1 c1 : Nat) (l1 : List Int) (w : World) (hin : RowsArg w A n c ls) (hs : s.size ≤ 140737488351232) (h0 : SlArg w A0 n0 c0 l0) (h1 : SlArg w A1 n1 c1 l1) (hb : n + (ls.map List.length).sum ≤ 1048576 ∧ n0 + n1 ≤ 1048576) :
    Calls Try.prog 7 #[.slice A n c, .string s, .agg #[.slice A0 n0 c0, .slice A1 n1 c1]] w (LawPost w) := by
  have hso : s.size ≤ 9223372036854775807 := by omega
  have HIN := Lib.hid hin
  have H0 := Lib.hid h0
  have H1 := Lib.hid h1
  have hn : n ≤ 1048576 := by omega
  have hn0 : n0 ≤ 1048576 := by omega
  have hn1 : n1 ≤ 1048576 := by omega
  have HSUM := Lib.hid (show (ls.map List.length).sum ≤ 1048576 by omega)
  have HRL := Lib.hid (show ∀ r ∈ ls, r.length ≤ 1048576 from fun r hr => by have := sum_ge ls r hr; omega)
  clear hin h0 h1 hb
  go_enter Try.func7, Try.ntmps7
  obtain ⟨wb, hwb⟩ : ∃ wb, w.alloc (.cells #[.slice A0 n0 c0, .slice A1 n1 c1] 53) = wb := ⟨_, rfl⟩
  have HWB := Lib.hid hwb
  have HBB := Lib.hid (show Below w.heap.size w wb by rw [← hwb]; exact bl_alloc _ _)
  have HB0 := Lib.hid (show wb.heap[w.heap.size]? = some (.cells #[.slice A0 n0 c0, .slice A1 n1 c1] 53 (0, 0)) by rw [← hwb]; exact heap_alloc_new _ _)
  have hbs : w.heap.size < wb.heap.size := by rw [← hwb]; simp
  clear hwb
  cases hv : validB s.data.toList
  · have HV := Lib.hid hv
    clear hv
    go_wp2_with (first
      | (go_at_call 25; go_must (rw [HWB.out]; refine (c_write_no _ s _ hso HV.out).mono ?_); rintro e w2 ⟨rfl, rfl⟩)
      | (go_at_call 14; go_must (refine (c_awake _).mono ?_); rintro e w6 ⟨rfl, hb6⟩))
    go_ret
    exact ⟨rfl, bl_then HBB.out hb6⟩
  · have HV := Lib.hid hv
    have hWk : Wk (⟨#[45, 45]⟩ ++ s) := Wk.mk' hv
    have HWK := Lib.hid hWk
    have HWL := Lib.hid (show (strL (⟨#[45, 45]⟩ ++ s)).length ≤ 72 by rw [strL_length]; exact hWk.le)
    clear hv hWk
    cases hany : ls.any (hasW (strL (⟨#[45, 45]⟩ ++ s)))
    · have HNO := Lib.hid (show ∀ q ∈ ls, hasW (strL (⟨#[45, 45]⟩ ++ s)) q = false from fun q hq => by
        have := List.any_eq_false.1 hany q hq
        simpa using this)
      have HWR := Lib.hid (show wres (strL (⟨#[45, 45]⟩ ++ s)) ls = some (wall (strL (⟨#[45, 45]⟩ ++ s)) ls) by unfold wres; rw [hany]; rfl)
      obtain ⟨x, hx⟩ : ∃ x, wall (strL (⟨#[45, 45]⟩ ++ s)) ls = x := ⟨_, rfl⟩
      have HX := Lib.hid hx
      have HXL := Lib.hid (show x.length ≤ 100000000 by
        have h1 := wbody_len2 HWL.out ls
        have h2 : ls.length * 76 ≤ 1048576 * 76 := Nat.mul_le_mul_right _ (by rw [HIN.out.len]; exact hn)
        rw [← hx]
        have h3 : (wall (strL (⟨#[45, 45]⟩ ++ s)) ls).length = (wbody (strL (⟨#[45, 45]⟩ ++ s)) ls).length + ((strL (⟨#[45, 45]⟩ ++ s)).length + 4) := by simp [wall]
        have h4 := HWL.out
        have h5 := HSUM.out
        omega)
      clear hany hx
      go_upto_block 0 with (first
        | (go_at_call 25; go_must (rw [HWB.out]; have cW := c_write A n c ls s wb HIN.out.len hn (HIN.out.rr.below HBB.out) HIN.out.by_ HRL.out HV.out); go_must (rw [HWR.out, HX.out] at cW); go_must (refine cW.mono ?_); rintro e w2 ⟨⟨A2, m2, c2, rfl, own2⟩, hb2⟩; have HO2 := Lib.hid own2; have HB2 := Lib.hid hb2; clear own2 hb2 cW))
      have hk0 := HB0.out
      have hH0 : w.heap.size < w2.heap.size := Nat.lt_of_lt_of_le hbs HB2.out.size
      have HK := Lib.hid (show ∀ wz, Below w2.heap.size w2 wz → wz.cell? ⟨w.heap.size, 0, none⟩ = some (.slice A0 n0 c0) ∧ wz.cell? ⟨w.heap.size, 1, none⟩ = some (.slice A1 n1 c1) from fun wz h => by
        have h2 : wz.heap[w.heap.size]? = some (.cells #[.slice A0 n0 c0, .slice A1 n1 c1] 53 (0, 0)) := (h.block _ hH0).trans ((HB2.out.block _ hbs).trans hk0)
        exact ⟨cell_of_row wz _ 0 _ _ _ h2, cell_of_row wz _ 1 _ _ _ h2⟩)
      clear hk0
      go_cut [9] (fun s9 wz => ∃ m c A9, s9 = .slice A9 m c ∧ wz.ownsRow w2.heap.size 5 1 (.slice A9 m c) m (u8s (letts l0)) ∧ Below w2.heap.size w2 wz)
      case first =>
        go_wp2_with (fail)
        go_loopg [9, 10] (min n0 50) (fun g s9 s10 wx => ∃ (k m c : Nat) (A9 : Option Addr), k + g = min n0 50 ∧ s10 = .int .i64 k ∧ s9 = .slice A9 m c ∧ wx.ownsRow w2.heap.size 5 1 (.slice A9 m c) m (u8s ((l0.take k).map lett)) ∧ Below w2.heap.size w2 wx)
        case atStart => exact ⟨0, 0, 0, none, by omega, rfl, rfl, World.ownsRow_nil _ _ _ _, Below.refl _ _⟩
        case round =>
          obtain ⟨k, m, c9, A9, hkg, rfl, rfl, own, hB9⟩ := hrel
          obtain ⟨wx, rfl⟩ : ∃ wx : World, wx = wr := ⟨_, rfl⟩
          obtain ⟨k0, k1⟩ := HK.out wx hB9
          have hbx := hB9.size
          cases gk with
          | zero =>
            by_cases hk50 : k < 50
            · obtain rfl : k = n0 := by omega
              have hk : ¬ (k : Int) < (k : Int) := by omega
              have HT := Lib.hid (show (l0.take k).map lett = letts l0 by unfold letts; rw [List.take_of_length_le (by rw [H0.out.len]; exact Nat.le_refl _), List.take_of_length_le (by rw [H0.out.len]; omega)])
              go_wp2_with (fail)
              go_meet
              rw [HT.out] at own
              exact ⟨_, _, _, rfl, own, hB9⟩
            · obtain rfl : k = 50 := by omega
              have h50 : ¬ ((50 : Nat) : Int) < 50 := by omega
              by_cases hkn : 50 < n0
              · have hk : ((50 : Nat) : Int) < (n0 : Int) := by omega
                go_wp2_with (fail)
                go_meet
                exact ⟨_, _, _, rfl, own, hB9⟩
              · have hk : ¬ ((50 : Nat) : Int) < (n0 : Int) := by omega
                go_wp2_with (fail)
                go_meet
                exact ⟨_, _, _, rfl, own, hB9⟩
          | succ g =>
            have hk : (k : Int) < (n0 : Int) := by omega
            have hk50 : (k : Int) < 50 := by omega
            obtain ⟨y, hy⟩ : ∃ y, l0[k]? = some y := ⟨_, List.getElem?_eq_getElem (by rw [H0.out.len]; omega)⟩
            have hyb := H0.out.by_ y (List.mem_of_getElem? hy)
            obtain ⟨b2, off2, rfl, hb2, hbc⟩ := RB.get H0.out.rb hy
            have hbyte : wx.cell? ⟨b2, off2 + k, none⟩ = some (.int .u8 y) := by
              have h1 := (HBB.out.cell (p := ⟨b2, off2 + k, none⟩) hb2).trans hbc
              have h2 := (HB2.out.cell (p := ⟨b2, off2 + k, none⟩) (show b2 < wb.heap.size by omega)).trans h1
              exact (hB9.cell (p := ⟨b2, off2 + k, none⟩) (show b2 < w2.heap.size by omega)).trans h2
            have hml : m ≤ 50 := by
              have h1 := u8_size own
              rw [List.length_map, List.length_take] at h1
              omega
            have HT := Lib.hid (show (l0.take (k + 1)).map lett = (l0.take k).map lett ++ [lett y] by rw [take_snoc' hy]; simp)
            have hy0 : 0 ≤ y := hyb.1
            have hy1 : y < 256 := hyb.2
            have hr0 : 0 ≤ y % 26 := by omega
            have hr1 : y % 26 < 26 := by omega
            clear hy hbc hyb
            go_wp2_with (at_builtin; go_must (refine wpList_ap el8 rfl (.tmp 40) (.tmp 48) rfl rfl (own.alloc _) rfl rfl (RV.new _ _) (by intro u hu; simp at hu; subst hu; rfl) (by unfold maxLen; simp; omega) (by simp; omega) (by simp; omega) ?_); intro A8 c8 w8 hown8 hgrow8 hat8 hle8)
            go_roundg g
            case measure => omega
            case rel => exact ⟨k + 1, m + 1, c8, A8, by omega, by go_num, rfl, by rw [HT.out, u8s_append]; exact hown8, hB9.trans (((bl_alloc wx _).mono hbx).trans (own_below hgrow8 (own.alloc _) (by simp; omega)))⟩
      case rest =>
        obtain ⟨m9, c9, A9, rfl, own9, hB9⟩ := hcut
        obtain ⟨w9, rfl⟩ : ∃ w9 : World, w9 = wc := ⟨_, rfl⟩
        have hbx := hB9.size
        have hm9 : m9 ≤ 50 := by
          have h1 := u8_size own9
          unfold letts at h1
          rw [List.length_map, List.length_take] at h1
          omega
        go_upto_if 52 with (fail)
        go_cut [9] (fun s9 wz => ∃ m c A9, s9 = .slice A9 m c ∧ m ≤ 52 ∧ wz.ownsRow w2.heap.size 5 1 (.slice A9 m c) m (u8s (ahead (letts l0))) ∧ Below w2.heap.size w2 wz)
        case first =>
          by_cases hm0 : m9 = 0
          · subst hm0
            have HA := Lib.hid (show ahead (letts l0) = letts l0 by
              have h1 := u8_size own9
              have h2 : letts l0 = [] := List.eq_nil_of_length_eq_zero h1
              rw [h2]; rfl)
            go_wp2
            go_meet
            exact ⟨_, _, _, rfl, by omega, by rw [HA.out]; exact own9, hB9⟩
          · have hpos : (0 : Int) < (m9 : Int) := by omega
            have HA := Lib.hid (show ahead (letts l0) = letts l0 ++ [13, 10] by
              have h1 := u8_size own9
              unfold ahead
              rw [if_neg (fun e => hm0 (by rw [← h1, e]; rfl))])
            clear hm0
            go_wp2_with (at_builtin; go_must (refine wpList_ap el8 rfl (.tmp 53) (.tmp 54) rfl rfl (own9.alloc _) rfl rfl (RV.new _ _) (by intro u hu; simp at hu; rcases hu with rfl | rfl <;> rfl) (by unfold maxLen; simp; omega) (by simp; omega) (by simp; omega) ?_); intro A8 c8 w8 hown8 hgrow8 hat8 hle8)
            go_meet
            exact ⟨m9 + 2, c8, A8, rfl, by omega, by rw [HA.out, u8s_append]; exact hown8, hB9.trans (((bl_alloc w9 _).mono hbx).trans (own_below hgrow8 (own9.alloc _) (by simp; omega)))⟩
        case rest =>
          obtain ⟨m6, c6, A6, rfl, hm6, own6, hB6⟩ := hcut
          obtain ⟨w6, rfl⟩ : ∃ w6 : World, w6 = wc := ⟨_, rfl⟩
          have hb6s := hB6.size
          obtain ⟨k0, k1⟩ := HK.out w6 hB6
          have HX2 := Lib.hid (show w2.ownsRow wb.heap.size 5 1 (.slice A2 m2 c2) m2 (u8s x) from HO2.out)
          have HM2 := Lib.hid (u8_size HX2.out)
          have hm2 : m2 ≤ 100000000 := by have h1 := HXL.out; have h2 := HM2.out; omega
          have HRX := Lib.hid (show RB w6.drew A2 x from (show RB w6 A2 x from RV.below (RV.own HX2.out) hB6))
          have HOW6 : Hid (w6.drew.ownsRow w2.heap.size 5 1 (.slice A6 m6 c6) m6 (u8s (ahead (letts l0)))) := Lib.hid own6
          have HBL6 := Lib.hid (hB6.trans ((below_kp ((Kp.refl [] w6).drew)).mono hb6s))
          have HBW6 := Lib.hid (HBB.out.trans ((HB2.out.mono (Nat.le_of_lt hbs)).trans (hB6.mono (Nat.le_of_lt hH0))))
          have hsq : w2.heap.size ≤ w6.drew.heap.size := hb6s
          have HR1 := Lib.hid H1.out.rb
          clear own9 hB9 own6 hB6
          go_upto_region 11 with (fail)
          go_cut [11] (fun s11 wz => ∃ A8 m8 c8, s11 = .slice A8 m8 c8 ∧ m8 ≤ 102000000 ∧ wz.ownsRow w2.heap.size 5 1 (.slice A8 m8 c8) m8 (u8s (ahead (letts l0) ++ x ++ l1)) ∧ Below w2.heap.size w2 wz)
          case first =>
            go_region_law (first
              | (refine step_ap el8 rfl (.tmp 56) (.tmp 57) rfl (by rfl) HOW6.out (by rfl) (by rw [u8s_length]; exact HM2.out) HRX.out (u8s_one x) (by unfold maxLen; omega) (by omega) hsq ?_; intro A7 c7 w7 hown7 hgrow7 hat7 hle7; have hB7 := Lib.hid (HBL6.out.trans (own_below hgrow7 HOW6.out hsq)); have hk7 := HK.out w7 hB7.out; obtain ⟨kk0, kk1⟩ := hk7; have hs7 := hB7.out.size; rw [← u8s_append] at hown7; have HO7 := Lib.hid hown7; have HR7 := Lib.hid (show RB w7 A1 l1 from RV.below HR1.out (HBB.out.trans ((HB2.out.mono (Nat.le_of_lt hbs)).trans (hB7.out.mono (Nat.le_of_lt hH0))))); clear hown7 hgrow7 hat7 hle7)
              | (refine step_ap el8 rfl (.tmp 58) (.tmp 60) rfl (by rfl) HO7.out (by rfl) (by rw [u8s_length]; exact H1.out.len) HR7.out (u8s_one l1) (by unfold maxLen; omega) (by omega) hs7 ?_; intro A8 c8 w8 hown8 hgrow8 hat8 hle8))
            all_goals go_wp2
            all_goals go_meet
            all_goals exact ⟨A8, _, c8, rfl, by omega, by rw [u8s_append]; exact hown8, hB7.out.trans (own_below hgrow8 HO7.out hs7)⟩
          case rest =>
            obtain ⟨A8, m8, c8, rfl, hm8, own8, hB8⟩ := hcut
            obtain ⟨w8, rfl⟩ : ∃ w8 : World, w8 = wc := ⟨_, rfl⟩
            have hbw := back_whole HWK.out (letts l0) l1 ls (letts_no l0) HNO.out
            rw [HX.out] at hbw
            have hbb : Bytes (ahead (letts l0) ++ x ++ l1) := by
              intro y hy
              rcases List.mem_append.1 hy with h | h
              · rcases List.mem_append.1 h with h | h
                · exact ahead_bytes (letts_bytes l0) y h
                · rw [← HX.out] at h
                  exact wall_bytes _ HIN.out.by_ y h
              · exact H1.out.by_ y h
            have cW := c_whole A8 m8 c8 (ahead (letts l0) ++ x ++ l1) s w8 (u8_size own8) (by omega) hbb (RV.own own8) HV.out
            unfold WholePost at cW
            rw [hbw.1, hbw.2] at cW
            have CW := Lib.hid cW
            have HB8 := Lib.hid hB8
            clear cW hbw hbb own8 hB8
            go_wp2_with (first
              | (go_at_call 10; go_must (refine CW.out.mono ?_); rintro e w3 ⟨A3, c3, vs3, rfl, P3, hb3⟩; have HP3 := Lib.hid P3; have HB3 := Lib.hid hb3; clear P3 hb3)
              | (go_at_call 16; go_must (have cR := c_rows A3 A _ n c3 c ls ls w3 HP3.out.len HIN.out.len (by have := HIN.out.len; omega) (by omega) (RR.of_prt HP3.out) (HIN.out.rr.below (bl_then HBB.out (bl_then HB2.out (bl_then HB8.out HB3.out)))) (fun h => absurd rfl h)); go_must (rw [decT rfl] at cR); go_must (refine cR.mono ?_); rintro e w4 ⟨rfl, d4, rfl⟩; clear cR)
              | (go_at_call 14; go_must (refine (c_awake _).mono ?_); rintro e w5 ⟨rfl, hb5⟩))
            go_ret
            exact ⟨rfl, bl_then HBB.out (bl_then HB2.out (bl_then HB8.out (bl_then HB3.out (bl_then (bl_drewN _ _) hb5))))⟩
    · have HWR := Lib.hid (show wres (strL (⟨#[45, 45]⟩ ++ s)) ls = none by unfold wres; rw [hany]; rfl)
      clear hany
      go_wp2_with (first
        | (go_at_call 25; go_must (rw [HWB.out]; have cW := c_write A n c ls s wb HIN.out.len hn (HIN.out.rr.below HBB.out) HIN.out.by_ HRL.out HV.out); go_must (rw [HWR.out] at cW); go_must (refine cW.mono ?_); rintro e w2 ⟨⟨A2, m2, c2, rfl, own2⟩, hb2⟩; have hm2 : m2 = 0 := (by have := u8_size own2; simpa using this.symm); subst hm2; have HB2 := Lib.hid hb2; clear own2 hb2 cW)
        | (go_at_call 14; go_must (refine (c_awake _).mono ?_); rintro e w6 ⟨rfl, hb6⟩))
      go_ret
      exact ⟨rfl, bl_then HBB.out (bl_then HB2.out hb6)⟩
end Go.Proofs.Ytmalacamfjdimaa.Pt
