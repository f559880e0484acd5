/- The reference's look: what some bytes are of a delimiter. -/
import Derived.Test.YtmalacamfjdimaaRa
namespace Go.Proofs.Ytmalacamfjdimaa.Pt
open Go.RowKit Go.Proofs.Ytmalacamfjdimaa.W

def lkE (c : Int) (r : List Int) (last : Bool) : Int × Bool :=
  if c = 13 ∧ r = [] then (1, last) else if c = 10 ∨ (c = 13 ∧ r.head? = some 10) then (3, last) else (0, false)
def lkB : List Int → Nat → Bool → Int × Bool
  | [], _, last => (2, last)
  | c :: r, n, last => if c = 9 ∨ c = 32 then (if n = 16 then (0, false) else lkB r (n + 1) last) else lkE c r last
def lkD : List Int → Int × Bool
  | [] => lkB [] 0 false
  | c :: r => if c = 45 then (match r with
    | [] => (1, false)
    | d :: r2 => if d = 45 then lkB r2 0 true else (0, false)) else lkB (c :: r) 0 false
def lkW : List Int → List Int → Int × Bool
  | l, [] => lkD l
  | [], _ :: _ => (1, false)
  | c :: r, w :: ws => if c = w then lkW r ws else (0, false)
def lkN (W : List Int) : List Int → Int × Bool
  | [] => (1, false)
  | c :: t => if c = 10 then lkW t W else (0, false)
def look (W l : List Int) (fresh : Bool) : Int × Bool := if fresh then lkW l W else lkN W (if l.head? = some 13 then l.tail else l)

theorem RB.at_ {w : World} {b off : Nat} {l : List Int} (h : RB w (some ⟨b, off, none⟩) l) {i : Nat} {x : Int} (hx : l[i]? = some x) : w.cell? ⟨b, off + i, none⟩ = some (.int .u8 x) := by
  obtain ⟨b', off', hA, _, hc⟩ := RB.get h hx
  injection hA with hA
  injection hA with h1 h2
  subst h1 h2
  exact hc
theorem drop_cons {l : List Int} {i : Nat} {x : Int} (h : l[i]? = some x) : l.drop i = x :: l.drop (i + 1) := by
  obtain ⟨h1, h2⟩ := List.getElem?_eq_some_iff.1 h
  rw [List.drop_eq_getElem_cons h1, h2]

theorem dn (w : World) (a b : Nat) : (w.drewN a).drewN b = w.drewN (a + b) := by simp [World.drewN, Nat.add_assoc]
def LookPost (W l : List Int) (fresh : Bool) (w : World) (e : Ending) (w' : World) : Prop := e = .returned (.tuple #[.int .i64 (look W l fresh).1, .bool (look W l fresh).2]) ∧ ∃ d, w' = w.drewN d

set_option maxHeartbeats 2000000 in
set_option maxRecDepth 100000 in
theorem c_look (A : Option Addr) (n c : Nat) (l : List Int) (bd : ByteArray) (fresh : Bool) (w : World) (hl : l.length = n) (hn : n ≤ 140737488355328) (hr : RB w A l) (hs : bd.size ≤ 140737488355328) :
    Calls Try.prog 30 #[.slice A n c, .string bd, .bool fresh] w (LookPost (strL (⟨#[45, 45]⟩ ++ bd)) l fresh w) := by
  have HC := Lib.hid hr
  have HL := Lib.hid hl
  obtain ⟨W, hW⟩ : ∃ W, strL (⟨#[45, 45]⟩ ++ bd) = W := ⟨_, rfl⟩
  have HW := Lib.hid hW
  rw [hW]
  obtain ⟨R, hR⟩ : ∃ R, look W l fresh = R := ⟨_, rfl⟩
  have HR := Lib.hid hR
  clear hr hl hW hR
  go_enter Try.func30, Try.ntmps30
  go_upto_if 14 with (fail)
  go_cut [8] (fun t8 wz => ∃ i : Nat, t8 = .int .i64 i ∧ i ≤ n ∧ Hid (R = lkW (l.drop i) W) ∧ wz = w)
  case first =>
    cases fresh with
    | true =>
      go_wp2
      go_meet
      case rel => exact ⟨0, rfl, Nat.zero_le _, HR.out.symm, rfl⟩
    | false =>
      have hR := HR.out
      unfold look at hR
      rw [if_neg (by decide)] at hR
      have HR2 := Lib.hid hR
      clear hR
      by_cases h0 : n = 0
      · have i0 : ¬ (0 : Int) < (n : Int) := by omega
        have i1 : ((0 : Int) == (n : Int)) = true := eqT (by omega)
        have hres : R = (1, false) := by
          have : l = [] := List.eq_nil_of_length_eq_zero (HL.out.trans h0)
          rw [← HR2.out, this]; rfl
        have HRE := Lib.hid hres
        clear hres
        go_wp2
        go_ret2
        exact ⟨by rw [HR.out, HRE.out]; rfl, 0, rfl⟩
      · have i0 : (0 : Int) < (n : Int) := by omega
        obtain ⟨c0, hc0⟩ : ∃ x, l[0]? = some x := ⟨_, List.getElem?_eq_getElem (by rw [HL.out]; omega)⟩
        obtain ⟨b, off, rfl, hb, hcell⟩ := RB.get HC.out hc0
        simp only [Nat.add_zero] at hcell
        have HC0 := Lib.hid hc0
        clear hc0
        by_cases h13 : c0 = 13
        · subst h13
          by_cases h1 : n = 1
          · subst h1
            have hres : R = (1, false) := by
              have h2 : l = [13] := by
                have h3 := HL.out
                have h4 := HC0.out
                match l, h3, h4 with
                | [x], _, h4 => simp at h4; rw [h4]
              rw [← HR2.out, h2]; rfl
            have HRE := Lib.hid hres
            clear hres
            go_wp2
            go_ret2
            exact ⟨by rw [HR.out, HRE.out]; rfl, 0, rfl⟩
          · have j0 : (1 : Int) < (n : Int) := by omega
            have j1 : ((1 : Int) == (n : Int)) = false := eqF (by omega)
            obtain ⟨c1, hc1⟩ : ∃ x, l[1]? = some x := ⟨_, List.getElem?_eq_getElem (by rw [HL.out]; omega)⟩
            have hcell1 := RB.at_ HC.out hc1
            have hres : R = lkN W (c1 :: l.drop 2) := by
              have h4 := drop_cons HC0.out
              have h5 := drop_cons hc1
              rw [List.drop_zero] at h4
              rw [← HR2.out, h4, h5]; rfl
            have HRE := Lib.hid hres
            clear hres hc1
            by_cases h10 : c1 = 10
            · subst h10
              go_wp2
              go_meet
              case rel => exact ⟨2, rfl, by omega, HRE.out, rfl⟩
            · have hres : R = (0, false) := by rw [HRE.out]; simp [lkN, h10]
              have HRF := Lib.hid hres
              have e10 := neT h10
              clear hres h10
              go_wp2
              go_ret2
              exact ⟨by rw [HR.out, HRF.out]; rfl, 0, rfl⟩
        · have e13 := eqF h13
          have hres : R = lkN W (c0 :: l.drop 1) := by
            have h4 := drop_cons HC0.out
            rw [List.drop_zero] at h4
            rw [← HR2.out, h4]; simp [h13]
          have HRE := Lib.hid hres
          have i1 : ((0 : Int) == (n : Int)) = false := eqF (by omega)
          clear hres h13
          by_cases h10 : c0 = 10
          · subst h10
            go_wp2
            go_meet
            case rel => exact ⟨1, rfl, by omega, HRE.out, rfl⟩
          · have hres : R = (0, false) := by rw [HRE.out]; simp [lkN, h10]
            have HRF := Lib.hid hres
            have e10 := neT h10
            clear hres h10
            go_wp2
            go_ret2
            exact ⟨by rw [HR.out, HRF.out]; rfl, 0, rfl⟩
  case rest =>
    obtain ⟨i, rfl, hin, HI, rfl⟩ := hcut
    obtain ⟨wo, rfl⟩ : ∃ wo : World, wo = wc := ⟨_, rfl⟩
    go_wp2
    obtain ⟨WB, hWB⟩ : ∃ WB : ByteArray, (⟨#[45, 45]⟩ : ByteArray) ++ bd = WB := ⟨_, rfl⟩
    rw [hWB]
    have hW := HW.out
    rw [hWB] at hW
    have hws : WB.size ≤ 140737488355330 := by rw [← hWB, ByteArray.size_append]; show 2 + bd.size ≤ _; omega
    have HWL := Lib.hid (show W.length = WB.size by rw [← hW, strL_length])
    have HWX := Lib.hid hW
    clear hWB hW HW
    go_loopg [8, 10] WB.size (fun g t8 t10 wx => ∃ i k d : Nat, k + g = WB.size ∧ i ≤ n ∧ t8 = .int .i64 i ∧ t10 = .int .i64 k ∧ Hid (R = lkW (l.drop i) (W.drop k)) ∧ Hid (wx = wo.drewN d))
    case atStart => exact ⟨i, 0, 0, by omega, hin, rfl, rfl, HI, Lib.hid rfl⟩
    case round =>
      obtain ⟨i, k, d, hkg, hin, rfl, rfl, HI, HWR⟩ := hrel
      have HCr : Hid (RB wr A l) := Lib.hid (by rw [HWR.out]; exact HC.out)
      cases gk with
      | zero =>
        have hk : ¬ (k : Int) < (WB.size : Int) := by omega
        have hI := HI.out
        rw [show W.drop k = [] from List.drop_eq_nil_of_le (by rw [HWL.out]; omega)] at hI
        have HI2 := Lib.hid (show R = lkD (l.drop i) by rw [hI]; cases l.drop i <;> rfl)
        clear hI HI
        clear HCr
        go_upto_region 20 with (fail)
        go_cut [67] (fun t wz => t = .bool (decide (l[i]? = some 45)) ∧ wz = wr)
        case first =>
          by_cases hi : i < n
          · have hi2 : (i : Int) < (n : Int) := by omega
            obtain ⟨c1, hc1⟩ : ∃ x, l[i]? = some x := ⟨_, List.getElem?_eq_getElem (by rw [HL.out]; omega)⟩
            obtain ⟨b, off, rfl, hb, hcell⟩ := RB.get (show RB wr A l by rw [HWR.out]; exact HC.out) hc1
            have hd : decide (l[i]? = some 45) = decide (c1 = 45) := by rw [hc1]; simp
            clear hc1
            go_wp2
            all_goals go_meet
            all_goals exact ⟨by rw [hd]; rfl, rfl⟩
          · have hi2 : ¬ (i : Int) < (n : Int) := by omega
            have hd : decide (l[i]? = some 45) = false := by rw [List.getElem?_eq_none (by rw [HL.out]; omega)]; rfl
            go_wp2
            go_meet
            case rel => exact ⟨by rw [hd], rfl⟩
        case rest =>
          obtain ⟨rfl, rfl⟩ := hcut
          obtain ⟨wq, rfl⟩ : ∃ wq : World, wq = wc := ⟨_, rfl⟩
          go_upto_if 67 with (fail)
          go_cut [8, 11] (fun t8 t11 wz => ∃ (i2 : Nat) (last : Bool) (d : Nat), t8 = .int .i64 i2 ∧ t11 = .bool last ∧ i2 ≤ n ∧ Hid (R = lkB (l.drop i2) 0 last) ∧ Hid (wz = wo.drewN d))
          case first =>
            by_cases h45 : l[i]? = some 45
            · rw [decT h45]
              have hi : i < n := by rw [← HL.out]; exact (List.getElem?_eq_some_iff.1 h45).1
              have H45 := Lib.hid (drop_cons h45)
              clear h45
              by_cases hi1 : i + 1 = n
              · have ei : ((i : Int) + 1 == (n : Int)) = true := eqT (by omega)
                have HRE := Lib.hid (show R = (1, false) by rw [HI2.out, H45.out, List.drop_eq_nil_of_le (by rw [HL.out]; omega)]; rfl)
                go_wp2
                go_ret2
                exact ⟨by rw [HR.out, HRE.out]; rfl, d, HWR.out⟩
              · have ei : ((i : Int) + 1 == (n : Int)) = false := eqF (by omega)
                obtain ⟨c2, hc2⟩ : ∃ x, l[i + 1]? = some x := ⟨_, List.getElem?_eq_getElem (by rw [HL.out]; omega)⟩
                obtain ⟨b, off, rfl, hb, hcell⟩ := RB.get (show RB wq A l by rw [HWR.out]; exact HC.out) hc2
                have HD2 := Lib.hid (drop_cons hc2)
                clear hc2
                have hlt : (i : Int) + 1 < (n : Int) := by omega
                have hge : 0 ≤ (i : Int) + 1 := by omega
                have hnat : ((i : Int) + 1).toNat = i + 1 := by omega
                by_cases hc : c2 = 45
                · have HRE := Lib.hid (show R = lkB (l.drop (i + 2)) 0 true by rw [HI2.out, H45.out, HD2.out, hc]; rfl)
                  have en := neF hc
                  go_wp2
                  go_meet
                  case rel => exact ⟨i + 2, true, d, by go_num, rfl, by omega, HRE, HWR⟩
                · have HRE := Lib.hid (show R = (0, false) by rw [HI2.out, H45.out, HD2.out]; simp [lkD, hc])
                  have en := neT hc
                  go_wp2
                  go_ret2
                  exact ⟨by rw [HR.out, HRE.out]; rfl, d, HWR.out⟩
            · rw [decF h45]
              have HRE := Lib.hid (show R = lkB (l.drop i) 0 false by
                rw [HI2.out]
                by_cases hi : i < n
                · obtain ⟨c1, hc1⟩ : ∃ x, l[i]? = some x := ⟨_, List.getElem?_eq_getElem (by rw [HL.out]; omega)⟩
                  rw [drop_cons hc1]
                  exact if_neg (fun e => h45 (by rw [hc1, e]))
                · rw [List.drop_eq_nil_of_le (by rw [HL.out]; omega)]; rfl)
              clear h45
              go_wp2
              go_meet
              case rel => exact ⟨i, false, d, rfl, rfl, hin, HRE, HWR⟩
          case rest =>
            obtain ⟨i2, last, d2, rfl, rfl, hin2, HI3, HWC⟩ := hcut
            clear HI2 HWR hin
            obtain ⟨wp, rfl⟩ : ∃ wp : World, wp = wc := ⟨_, rfl⟩
            go_wp2
            go_loopg [8, 12] (n - i2) (fun g t8 t12 wx => ∃ i n3 : Nat, i + g = n ∧ n3 ≤ 16 ∧ t8 = .int .i64 i ∧ t12 = .int .i64 n3 ∧ Hid (R = lkB (l.drop i) n3 last) ∧ wx = wp)
            case atStart => exact ⟨i2, 0, by omega, by omega, rfl, rfl, HI3, rfl⟩
            case round =>
              obtain ⟨i, n3, hig, hn3, rfl, rfl, HI4, rfl⟩ := hrel
              cases gk with
              | zero =>
                obtain rfl : i = n := by omega
                have hi : ¬ (i : Int) < (i : Int) := by omega
                have ei : ((i : Int) == (i : Int)) = true := eqT rfl
                have HRE := Lib.hid (show R = (2, last) by rw [HI4.out, List.drop_eq_nil_of_le (by rw [HL.out]; omega)]; rfl)
                go_wp2
                go_ret2
                exact ⟨by rw [HR.out, HRE.out]; rfl, d2, HWC.out⟩
              | succ g =>
                obtain ⟨c1, hc1⟩ : ∃ x, l[i]? = some x := ⟨_, List.getElem?_eq_getElem (by rw [HL.out]; omega)⟩
                obtain ⟨b, off, rfl, hb, hcell⟩ := RB.get (show RB wr A l by rw [HWC.out]; exact HC.out) hc1
                have HD1 := Lib.hid (drop_cons hc1)
                have hi : (i : Int) < (n : Int) := by omega
                clear hc1
                by_cases hbl : c1 = 9 ∨ c1 = 32
                · have HRE := Lib.hid (show R = if n3 = 16 then (0, false) else lkB (l.drop (i + 1)) (n3 + 1) last by rw [HI4.out, HD1.out]; exact if_pos hbl)
                  by_cases h16 : n3 = 16
                  · have e16 : ((n3 : Int) == 16) = true := eqT (by omega)
                    have HRF := Lib.hid (show R = (0, false) by rw [HRE.out, if_pos h16])
                    rcases hbl with rfl | rfl
                    all_goals go_wp2
                    all_goals go_ret2
                    all_goals exact ⟨by rw [HR.out, HRF.out]; rfl, d2, HWC.out⟩
                  · have e16 : ((n3 : Int) == 16) = false := eqF (by omega)
                    have HRF := Lib.hid (show R = lkB (l.drop (i + 1)) (n3 + 1) last by rw [HRE.out, if_neg h16])
                    rcases hbl with rfl | rfl
                    all_goals go_wp2
                    all_goals (go_roundg g; (case measure => omega); (case rel => exact ⟨i + 1, n3 + 1, by omega, by omega, by go_num, by go_num, HRF, rfl⟩))
                · have h9 : (c1 == 9) = false := eqF (fun e => hbl (.inl e))
                  have h32 : (c1 == 32) = false := eqF (fun e => hbl (.inr e))
                  have HRE := Lib.hid (show R = lkE c1 (l.drop (i + 1)) last by rw [HI4.out, HD1.out]; exact if_neg hbl)
                  clear hbl
                  have ei : ((i : Int) == (n : Int)) = false := eqF (by omega)
                  by_cases h13 : c1 = 13
                  · subst h13
                    by_cases hi1 : i + 1 = n
                    · have ei1 : ((i : Int) + 1 == (n : Int)) = true := eqT (by omega)
                      have HRF := Lib.hid (show R = (1, last) by
                        rw [HRE.out]
                        exact if_pos ⟨rfl, List.drop_eq_nil_of_le (by rw [HL.out]; omega)⟩)
                      go_wp2
                      go_ret2
                      exact ⟨by rw [HR.out, HRF.out]; rfl, d2, HWC.out⟩
                    · have ei1 : ((i : Int) + 1 == (n : Int)) = false := eqF (by omega)
                      obtain ⟨c2, hc2⟩ : ∃ x, l[i + 1]? = some x := ⟨_, List.getElem?_eq_getElem (by rw [HL.out]; omega)⟩
                      have hcell2 := RB.at_ (show RB wr (some ⟨b, off, none⟩) l by rw [HWC.out]; exact HC.out) hc2
                      have HD2 := Lib.hid (drop_cons hc2)
                      clear hc2
                      have hlt : (i : Int) + 1 < (n : Int) := by omega
                      have hge : 0 ≤ (i : Int) + 1 := by omega
                      have hnat : ((i : Int) + 1).toNat = i + 1 := by omega
                      by_cases h10 : c2 = 10
                      · subst h10
                        have HRF := Lib.hid (show R = (3, last) by rw [HRE.out, HD2.out]; simp [lkE])
                        go_wp2
                        go_ret2
                        exact ⟨by rw [HR.out, HRF.out]; rfl, d2, HWC.out⟩
                      · have HRF := Lib.hid (show R = (0, false) by rw [HRE.out, HD2.out]; simp [lkE, h10])
                        have e10 := eqF h10
                        go_wp2
                        go_ret2
                        exact ⟨by rw [HR.out, HRF.out]; rfl, d2, HWC.out⟩
                  · have e13 := eqF h13
                    by_cases h10 : c1 = 10
                    · subst h10
                      have HRF := Lib.hid (show R = (3, last) by rw [HRE.out]; simp [lkE])
                      go_wp2
                      go_ret2
                      exact ⟨by rw [HR.out, HRF.out]; rfl, d2, HWC.out⟩
                    · have e10 := eqF h10
                      have HRF := Lib.hid (show R = (0, false) by rw [HRE.out]; simp [lkE, h13, h10])
                      go_wp2
                      go_ret2
                      exact ⟨by rw [HR.out, HRF.out]; rfl, d2, HWC.out⟩
      | succ g =>
        have hk : (k : Int) < (WB.size : Int) := by omega
        have hkn : k < WB.size := by omega
        have hx : W[k]? = some (WB[k].toNat : Int) := by
          rw [← HWX.out]
          unfold strL
          rw [List.getElem?_map, data_get WB hkn]; rfl
        have hd := drop_cons hx
        have HD := Lib.hid hd
        clear hx hd
        by_cases hi : i = n
        · have ei : ((i : Int) == (n : Int)) = true := eqT (by omega)
          have hres : R = (1, false) := by
            rw [HI.out, HD.out, List.drop_eq_nil_of_le (by rw [HL.out]; omega)]; rfl
          have HRE := Lib.hid hres
          clear hres
          go_wp2
          go_ret2
          exact ⟨by rw [HR.out, HRE.out]; rfl, d, HWR.out⟩
        · have ei : ((i : Int) == (n : Int)) = false := eqF (by omega)
          obtain ⟨c1, hc1⟩ : ∃ x, l[i]? = some x := ⟨_, List.getElem?_eq_getElem (by rw [HL.out]; omega)⟩
          obtain ⟨b, off, rfl, hb, hcell⟩ := RB.get HCr.out hc1
          have hi2 : (i : Int) < (n : Int) := by omega
          have hI := HI.out
          rw [HD.out, drop_cons hc1] at hI
          have HI2 := Lib.hid hI
          clear hI hc1
          by_cases he : c1 = (WB[k].toNat : Int)
          · have hI := HI2.out
            have HI3 := Lib.hid (show R = lkW (l.drop (i + 1)) (W.drop (k + 1)) by rw [hI]; exact if_pos he)
            have en := neF he
            clear hI
            go_wp2
            go_quiet (fail)
            go_wp2
            go_roundg g
            case measure => omega
            case rel => exact ⟨i + 1, k + 1, _, by omega, by omega, by go_num, by go_num, HI3, Lib.hid (by rw [HWR.out, dn])⟩
          · have hI := HI2.out
            have HI3 := Lib.hid (show R = (0, false) by rw [hI]; exact if_neg he)
            have en := neT he
            clear hI
            go_wp2
            go_quiet (fail)
            go_wp2
            go_ret2
            exact ⟨by rw [HR.out, HI3.out]; rfl, _, by rw [HWR.out, dn]⟩
end Go.Proofs.Ytmalacamfjdimaa.Pt
