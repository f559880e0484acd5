/- The reference's has: is one of a part's lines a delimiter? -/
import Derived.Test.YtmalacamfjdimaaWc
namespace Go.Proofs.Ytmalacamfjdimaa.Pt
open Go.RowKit Go.Proofs.Ytmalacamfjdimaa.W

theorem last_at {p : List Int} {d i : Nat} (h : d < i) (hi : i ≤ p.length) : ((p.drop d).take (i - d)).getLast? = p[i - 1]? := by
  rw [List.getLast?_eq_getElem?, List.getElem?_take, List.length_take, List.length_drop]
  rw [show min (i - d) (p.length - d) = i - d by omega, if_pos (by omega), List.getElem?_drop]
  congr 1
  omega
theorem strip_yes {p : List Int} {d i : Nat} (h : d < i) (hi : i ≤ p.length) (h13 : p[i - 1]? = some 13) : strip ((p.drop d).take (i - d)) = (p.drop d).take (i - 1 - d) := by
  unfold strip
  rw [last_at h hi, if_pos h13, List.dropLast_eq_take, List.take_take, List.length_take, List.length_drop]
  congr 1
  omega
theorem strip_no {p : List Int} {d i : Nat} (hi : i ≤ p.length) (h13 : d < i → p[i - 1]? ≠ some 13) : strip ((p.drop d).take (i - d)) = (p.drop d).take (i - d) := by
  unfold strip
  by_cases h : d < i
  · rw [last_at h hi, if_neg (h13 h)]
  · rw [show i - d = 0 by omega]; simp
theorem hasF_line {W p : List Int} {d i g : Nat} (hd : d ≤ i) (hi : p[i]? = some 10) (hno : ∀ j, d ≤ j → j < i → p[j]? ≠ some 10) : hasF W (g + 1) (p.drop d) = (tst W (strip ((p.drop d).take (i - d))) || hasF W g (p.drop (i + 1))) := by
  have hlt := (List.getElem?_eq_some_iff.1 hi).1
  have e : nl (p.drop d) = i - d := nl_eq (fun j x hj hx => by
    rw [List.getElem?_drop] at hx
    intro e
    subst e
    exact hno (d + j) (by omega) (by omega) hx) (.inr (by rw [List.getElem?_drop, show d + (i - d) = i by omega]; exact hi)) (by rw [List.length_drop]; omega)
  rw [hasF, e, if_pos (by rw [List.length_drop]; omega), List.drop_drop, show d + (i - d + 1) = i + 1 by omega]
theorem hasF_last {W p : List Int} {d g : Nat} (hd : d ≤ p.length) (hno : ∀ j, d ≤ j → j < p.length → p[j]? ≠ some 10) : hasF W (g + 1) (p.drop d) = tst W ((p.drop d).take (p.length - d)) := by
  have e : nl (p.drop d) = p.length - d := nl_eq (fun j x hj hx => by
    rw [List.getElem?_drop] at hx
    intro e
    subst e
    exact hno (d + j) (by omega) (by omega) hx) (.inl (by simp)) (by rw [List.length_drop]; omega)
  rw [hasF, e, if_neg (by rw [List.length_drop]; omega), List.take_of_length_le (by simp)]

/-- A round's head: byte i, the line began at d; b: what is still to be told. -/
def Hs (W p : List Int) (w : World) (n g : Nat) (b : Bool) (s5 s6 : Value) (wx : World) : Prop :=
  ∃ (i d G q : Nat), i + g = n + 1 ∧ s6 = .int .i64 i ∧ s5 = .int .i64 d ∧ wx = w.drewN q ∧ ((i ≤ n ∧ d ≤ i ∧ (∀ j, d ≤ j → j < i → p[j]? ≠ some 10) ∧ n - d < G ∧ b = hasF W G (p.drop d)) ∨ (i = n + 1 ∧ b = false))
theorem Hs.next {W p : List Int} {w : World} {n g i G q d2 : Nat} {b : Bool} (hb : b = hasF W G (p.drop (i + 1))) (hig : i + (g + 1) = n + 1) (hlt : i < n) (hG : n - (i + 1) < G) : Hs W p w n g b (.int .i64 ((i : Int) + 1)) (.int .i64 ((i : Int) + 1)) (w.drewN (q + d2)) :=
  ⟨i + 1, i + 1, G, q + d2, by omega, rfl, rfl, rfl, .inl ⟨by omega, Nat.le_refl _, fun j h1 h2 => by omega, hG, hb⟩⟩
theorem RB.cutd {w : World} {b off d m q : Nat} {l : List Int} (h : RB w (some ⟨b, off, none⟩) l) : RB (w.drewN q) (some ⟨b, off + d, none⟩) ((l.drop d).take m) := by
  have := (RV.drop h d).take m
  unfold RB
  simpa [u8s, List.map_take, List.map_drop] using RV.drewN this q
def HasQ (b : Bool) (w : World) (e : Ending) (w' : World) : Prop := e = .returned (.bool b) ∧ ∃ q, w' = w.drewN q

set_option maxHeartbeats 2000000 in
set_option maxRecDepth 100000 in
theorem c_has (A : Option Addr) (n c : Nat) (p : List Int) (bd : ByteArray) (w : World) (hl : p.length = n) (hnc : n ≤ c) (hn : n ≤ 1048576) (hby : Bytes p) (hr : RB w A p) (hs : bd.size ≤ 140737488355328) :
    Calls Try.prog 38 #[.slice A n c, .string bd] w (HasQ (hasW (strL (⟨#[45, 45]⟩ ++ bd)) p) w) := by
  obtain ⟨b, hb⟩ : ∃ b, hasW (strL (⟨#[45, 45]⟩ ++ bd)) p = b := ⟨_, rfl⟩
  rw [hb]
  have HL := Lib.hid hl
  have HR := Lib.hid hr
  have HBY := Lib.hid hby
  have HST := Lib.hid (show b = hasF (strL (⟨#[45, 45]⟩ ++ bd)) (n + 1) (p.drop 0) by rw [← hb, hasW, hl]; rfl)
  clear hb hl hr hby
  generalize hW : strL (⟨#[45, 45]⟩ ++ bd) = W at *
  have HW := Lib.hid hW
  clear hW
  go_enter Try.func38, Try.ntmps38
  go_wp2
  go_loopg [5, 6] (n + 1) (fun g s5 s6 wx => Hs W p w n g b s5 s6 wx)
  case atStart => exact ⟨0, 0, n + 1, 0, by omega, rfl, rfl, rfl, .inl ⟨by omega, by omega, fun j _ h => by omega, by omega, HST.out⟩⟩
  case round =>
    obtain ⟨i, d, G, q, hig, rfl, rfl, rfl, hD⟩ := hrel
    rcases hD with ⟨hin, hdi, hno, hG, hbG⟩ | ⟨rfl, hb⟩
    · have HNO := Lib.hid hno
      have HBG := Lib.hid hbG
      clear hno hbG
      have hle : (i : Int) ≤ (n : Int) := by omega
      obtain ⟨g, rfl⟩ : ∃ g, gk = g + 1 := ⟨gk - 1, by omega⟩
      obtain ⟨G, rfl⟩ : ∃ G', G = G' + 1 := ⟨G - 1, by omega⟩
      by_cases hlt : i < n
      · have hlt2 : (i : Int) < (n : Int) := by omega
        obtain ⟨x, hx⟩ : ∃ x, p[i]? = some x := ⟨_, List.getElem?_eq_getElem (by rw [HL.out]; exact hlt)⟩
        obtain ⟨bl, off, rfl, hblt, hcell⟩ := RB.get HR.out hx
        have hcellA : ∀ j y, p[j]? = some y → w.cell? ⟨bl, off + j, none⟩ = some (.int .u8 y) := fun j y hy => RB.at_ HR.out hy
        have HCA := Lib.hid hcellA
        have HX := Lib.hid hx
        clear hx hcellA
        by_cases h10 : x = 10
        · have e10 := neF h10
          subst h10
          have hG2 : n - (i + 1) < G := by omega
          have hdc : ¬ d = c := by omega
          have hfl := hasF_line (W := W) (g := G) hdi HX.out HNO.out
          by_cases hdi2 : d < i
          · obtain ⟨y, hy⟩ : ∃ y, p[i - 1]? = some y := ⟨_, List.getElem?_eq_getElem (by rw [HL.out]; omega)⟩
            have hcy := HCA.out _ _ hy
            have hgt : (d : Int) < (i : Int) := by omega
            obtain ⟨i1, hi1, hi2⟩ : ∃ i1, i1 + 1 ≤ i ∧ i ≤ i1 + 1 := ⟨i - 1, by omega⟩
            have i1i : (i : Int) - 1 = (i1 : Int) := by omega
            rw [show i - 1 = i1 by omega] at hcy
            have hdi1 : d ≤ i1 := by omega
            by_cases h13 : y = 13
            · have e13 := eqT h13
              subst h13
              have HBG2 := Lib.hid (show b = (tst W ((p.drop d).take (i1 - d)) || hasF W G (p.drop (i + 1))) by rw [HBG.out, hfl, strip_yes hdi2 (by rw [HL.out]; omega) hy, show i - 1 - d = i1 - d by omega])
              clear hfl hy
              obtain ⟨K, L, hKL⟩ : ∃ K L, look W ((p.drop d).take (i1 - d)) true = (K, L) := ⟨_, _, rfl⟩
              have cL := c_look (some ⟨bl, off + d, none⟩) (i1 - d) (c - d) ((p.drop d).take (i1 - d)) bd true (w.drewN q) (by rw [List.length_take, List.length_drop, HL.out]; omega) (by omega) (RB.cutd HR.out) hs
              unfold LookPost at cL
              rw [HW.out, hKL] at cL
              have CL := Lib.hid cL
              have hts : tst W ((p.drop d).take (i1 - d)) = decide (K = 2) := by
                have := look_two W ((p.drop d).take (i1 - d))
                rw [hKL] at this
                dsimp only at this
                rw [Bool.eq_iff_iff, ← this]
                simp
              have HTS := Lib.hid hts
              clear cL hKL hts
              by_cases hK : K = 2
              · subst hK
                have HB1 := Lib.hid (show b = true by rw [HBG2.out, HTS.out]; rfl)
                go_wp2_with (go_at_call 30; go_must (refine CL.out.mono ?_); rintro e w2 ⟨rfl, d2, rfl⟩)
                go_ret
                exact ⟨by rw [HB1.out]; rfl, _, rfl⟩
              · have eK := eqF hK
                have HB1 := Lib.hid (show b = hasF W G (p.drop (i + 1)) by rw [HBG2.out, HTS.out, decF hK]; rfl)
                clear hK
                go_wp2_with (go_at_call 30; go_must (refine CL.out.mono ?_); rintro e w2 ⟨rfl, d2, rfl⟩)
                go_roundg g
                case measure => omega
                case rel => exact Hs.next HB1.out hig hlt hG2
            · have e13 := eqF h13
              have HBG2 := Lib.hid (show b = (tst W ((p.drop d).take (i - d)) || hasF W G (p.drop (i + 1))) by rw [HBG.out, hfl, strip_no (by rw [HL.out]; omega) (fun _ => by rw [hy]; intro e; injection e with e; exact h13 e)])
              clear hfl hy h13
              obtain ⟨K, L, hKL⟩ : ∃ K L, look W ((p.drop d).take (i - d)) true = (K, L) := ⟨_, _, rfl⟩
              have cL := c_look (some ⟨bl, off + d, none⟩) (i - d) (c - d) ((p.drop d).take (i - d)) bd true (w.drewN q) (by rw [List.length_take, List.length_drop, HL.out]; omega) (by omega) (RB.cutd HR.out) hs
              unfold LookPost at cL
              rw [HW.out, hKL] at cL
              have CL := Lib.hid cL
              have hts : tst W ((p.drop d).take (i - d)) = decide (K = 2) := by
                have := look_two W ((p.drop d).take (i - d))
                rw [hKL] at this
                dsimp only at this
                rw [Bool.eq_iff_iff, ← this]
                simp
              have HTS := Lib.hid hts
              clear cL hKL hts
              by_cases hK : K = 2
              · subst hK
                have HB1 := Lib.hid (show b = true by rw [HBG2.out, HTS.out]; rfl)
                go_wp2_with (go_at_call 30; go_must (refine CL.out.mono ?_); rintro e w2 ⟨rfl, d2, rfl⟩)
                go_ret
                exact ⟨by rw [HB1.out]; rfl, _, rfl⟩
              · have eK := eqF hK
                have HB1 := Lib.hid (show b = hasF W G (p.drop (i + 1)) by rw [HBG2.out, HTS.out, decF hK]; rfl)
                clear hK
                go_wp2_with (go_at_call 30; go_must (refine CL.out.mono ?_); rintro e w2 ⟨rfl, d2, rfl⟩)
                go_roundg g
                case measure => omega
                case rel => exact Hs.next HB1.out hig hlt hG2
          · have hgt : ¬ (d : Int) < (i : Int) := by omega
            have HBG2 := Lib.hid (show b = (tst W ((p.drop d).take (i - d)) || hasF W G (p.drop (i + 1))) by rw [HBG.out, hfl, strip_no (by rw [HL.out]; omega) (fun h => absurd h hdi2)])
            clear hfl
            obtain ⟨K, L, hKL⟩ : ∃ K L, look W ((p.drop d).take (i - d)) true = (K, L) := ⟨_, _, rfl⟩
            have cL := c_look (some ⟨bl, off + d, none⟩) (i - d) (c - d) ((p.drop d).take (i - d)) bd true (w.drewN q) (by rw [List.length_take, List.length_drop, HL.out]; omega) (by omega) (RB.cutd HR.out) hs
            unfold LookPost at cL
            rw [HW.out, hKL] at cL
            have CL := Lib.hid cL
            have hts : tst W ((p.drop d).take (i - d)) = decide (K = 2) := by
              have := look_two W ((p.drop d).take (i - d))
              rw [hKL] at this
              dsimp only at this
              rw [Bool.eq_iff_iff, ← this]
              simp
            have HTS := Lib.hid hts
            clear cL hKL hts
            by_cases hK : K = 2
            · subst hK
              have HB1 := Lib.hid (show b = true by rw [HBG2.out, HTS.out]; rfl)
              go_wp2_with (go_at_call 30; go_must (refine CL.out.mono ?_); rintro e w2 ⟨rfl, d2, rfl⟩)
              go_ret
              exact ⟨by rw [HB1.out]; rfl, _, rfl⟩
            · have eK := eqF hK
              have HB1 := Lib.hid (show b = hasF W G (p.drop (i + 1)) by rw [HBG2.out, HTS.out, decF hK]; rfl)
              clear hK
              go_wp2_with (go_at_call 30; go_must (refine CL.out.mono ?_); rintro e w2 ⟨rfl, d2, rfl⟩)
              go_roundg g
              case measure => omega
              case rel => exact Hs.next HB1.out hig hlt hG2
        · have e10 := neT h10
          have HNO2 := Lib.hid (show ∀ j, d ≤ j → j < i + 1 → p[j]? ≠ some 10 from fun j h1 h2 => by
            by_cases hji : j = i
            · subst hji; rw [HX.out]; intro e; injection e with e; exact h10 e
            · exact HNO.out j h1 (by omega))
          clear h10
          go_wp2
          go_roundg g
          case measure => omega
          case rel => exact ⟨i + 1, d, G + 1, q, by omega, by go_num, rfl, rfl, .inl ⟨by omega, by omega, HNO2.out, hG, HBG.out⟩⟩
      · obtain rfl : i = n := by omega
        have hlt2 : ¬ (i : Int) < (i : Int) := by omega
        have hfl := hasF_last (W := W) (p := p) (d := d) (g := G) (by rw [HL.out]; exact hdi) (by rw [HL.out]; exact HNO.out)
        rw [HL.out] at hfl
        have HBG2 := Lib.hid (show b = tst W ((p.drop d).take (i - d)) by rw [HBG.out, hfl])
        clear hfl
        by_cases hdn : d < i
        · obtain ⟨bl, off, rfl, hblt⟩ := RV.addr HR.out (by rw [u8s_length, HL.out]; omega)
          have hdc : ¬ d = c := by omega
          have hdi3 : (d : Int) ≤ (i : Int) := by omega
          obtain ⟨K, L, hKL⟩ : ∃ K L, look W ((p.drop d).take (i - d)) true = (K, L) := ⟨_, _, rfl⟩
          have cL := c_look (some ⟨bl, off + d, none⟩) (i - d) (c - d) ((p.drop d).take (i - d)) bd true (w.drewN q) (by rw [List.length_take, List.length_drop, HL.out]; omega) (by omega) (RB.cutd HR.out) hs
          unfold LookPost at cL
          rw [HW.out, hKL] at cL
          have CL := Lib.hid cL
          have hts : tst W ((p.drop d).take (i - d)) = decide (K = 2) := by
            have := look_two W ((p.drop d).take (i - d))
            rw [hKL] at this
            dsimp only at this
            rw [Bool.eq_iff_iff, ← this]
            simp
          have HTS := Lib.hid hts
          clear cL hKL hts
          by_cases hK : K = 2
          · subst hK
            have HB1 := Lib.hid (show b = true by rw [HBG2.out, HTS.out]; rfl)
            go_wp2_with (go_at_call 30; go_must (refine CL.out.mono ?_); rintro e w2 ⟨rfl, d2, rfl⟩)
            go_ret
            exact ⟨by rw [HB1.out]; rfl, _, rfl⟩
          · have eK := eqF hK
            have HB1 := Lib.hid (show b = false by rw [HBG2.out, HTS.out, decF hK])
            clear hK
            go_wp2_with (go_at_call 30; go_must (refine CL.out.mono ?_); rintro e w2 ⟨rfl, d2, rfl⟩)
            go_roundg g
            case measure => omega
            case rel => exact ⟨i + 1, i + 1, 0, q + d2, by omega, by go_num, by go_num, rfl, .inr ⟨rfl, HB1.out⟩⟩
        · obtain rfl : d = i := by omega
          obtain ⟨K, L, hKL⟩ : ∃ K L, look W ((p.drop d).take (d - d)) true = (K, L) := ⟨_, _, rfl⟩
          have cL : ∀ A' c', Calls Try.prog 30 #[.slice A' 0 c', .string bd, .bool true] (w.drewN q) fun e w' => e = .returned (.tuple #[.int .i64 K, .bool L]) ∧ ∃ d, w' = (w.drewN q).drewN d := fun A' c' => by
            have := c_look A' 0 c' [] bd true (w.drewN q) rfl (by omega) (RV.nil _ _) hs
            unfold LookPost at this
            rw [show (p.drop d).take (d - d) = [] by simp] at hKL
            rw [HW.out, hKL] at this
            exact this
          have CL := Lib.hid cL
          by_cases hdc : d = c
          · subst hdc
            cases A with
            | none =>
              have hts : tst W ((p.drop d).take (d - d)) = decide (K = 2) := by
                have := look_two W ((p.drop d).take (d - d))
                rw [hKL] at this
                dsimp only at this
                rw [Bool.eq_iff_iff, ← this]
                simp
              have HTS := Lib.hid hts
              clear cL hKL hts
              by_cases hK : K = 2
              · subst hK
                have HB1 := Lib.hid (show b = true by rw [HBG2.out, HTS.out]; rfl)
                go_wp2_with (go_at_call 30; go_must (refine (CL.out _ _).mono ?_); rintro e w2 ⟨rfl, d2, rfl⟩)
                go_ret
                exact ⟨by rw [HB1.out]; rfl, _, rfl⟩
              · have eK := eqF hK
                have HB1 := Lib.hid (show b = false by rw [HBG2.out, HTS.out, decF hK])
                clear hK
                go_wp2_with (go_at_call 30; go_must (refine (CL.out _ _).mono ?_); rintro e w2 ⟨rfl, d2, rfl⟩)
                go_roundg g
                case measure => omega
                case rel => exact ⟨d + 1, d + 1, 0, q + d2, by omega, by go_num, by go_num, rfl, .inr ⟨rfl, HB1.out⟩⟩
            | some a =>
              have hts : tst W ((p.drop d).take (d - d)) = decide (K = 2) := by
                have := look_two W ((p.drop d).take (d - d))
                rw [hKL] at this
                dsimp only at this
                rw [Bool.eq_iff_iff, ← this]
                simp
              have HTS := Lib.hid hts
              clear cL hKL hts
              by_cases hK : K = 2
              · subst hK
                have HB1 := Lib.hid (show b = true by rw [HBG2.out, HTS.out]; rfl)
                go_wp2_with (go_at_call 30; go_must (refine (CL.out _ _).mono ?_); rintro e w2 ⟨rfl, d2, rfl⟩)
                go_ret
                exact ⟨by rw [HB1.out]; rfl, _, rfl⟩
              · have eK := eqF hK
                have HB1 := Lib.hid (show b = false by rw [HBG2.out, HTS.out, decF hK])
                clear hK
                go_wp2_with (go_at_call 30; go_must (refine (CL.out _ _).mono ?_); rintro e w2 ⟨rfl, d2, rfl⟩)
                go_roundg g
                case measure => omega
                case rel => exact ⟨d + 1, d + 1, 0, q + d2, by omega, by go_num, by go_num, rfl, .inr ⟨rfl, HB1.out⟩⟩
          · have hdc2 : ¬ c = d := fun e => hdc e.symm
            cases A with
            | none =>
              have hts : tst W ((p.drop d).take (d - d)) = decide (K = 2) := by
                have := look_two W ((p.drop d).take (d - d))
                rw [hKL] at this
                dsimp only at this
                rw [Bool.eq_iff_iff, ← this]
                simp
              have HTS := Lib.hid hts
              clear cL hKL hts
              by_cases hK : K = 2
              · subst hK
                have HB1 := Lib.hid (show b = true by rw [HBG2.out, HTS.out]; rfl)
                go_wp2_with (go_at_call 30; go_must (refine (CL.out _ _).mono ?_); rintro e w2 ⟨rfl, d2, rfl⟩)
                go_ret
                exact ⟨by rw [HB1.out]; rfl, _, rfl⟩
              · have eK := eqF hK
                have HB1 := Lib.hid (show b = false by rw [HBG2.out, HTS.out, decF hK])
                clear hK
                go_wp2_with (go_at_call 30; go_must (refine (CL.out _ _).mono ?_); rintro e w2 ⟨rfl, d2, rfl⟩)
                go_roundg g
                case measure => omega
                case rel => exact ⟨d + 1, d + 1, 0, q + d2, by omega, by go_num, by go_num, rfl, .inr ⟨rfl, HB1.out⟩⟩
            | some a =>
              have hts : tst W ((p.drop d).take (d - d)) = decide (K = 2) := by
                have := look_two W ((p.drop d).take (d - d))
                rw [hKL] at this
                dsimp only at this
                rw [Bool.eq_iff_iff, ← this]
                simp
              have HTS := Lib.hid hts
              clear cL hKL hts
              by_cases hK : K = 2
              · subst hK
                have HB1 := Lib.hid (show b = true by rw [HBG2.out, HTS.out]; rfl)
                go_wp2_with (go_at_call 30; go_must (refine (CL.out _ _).mono ?_); rintro e w2 ⟨rfl, d2, rfl⟩)
                go_ret
                exact ⟨by rw [HB1.out]; rfl, _, rfl⟩
              · have eK := eqF hK
                have HB1 := Lib.hid (show b = false by rw [HBG2.out, HTS.out, decF hK])
                clear hK
                go_wp2_with (go_at_call 30; go_must (refine (CL.out _ _).mono ?_); rintro e w2 ⟨rfl, d2, rfl⟩)
                go_roundg g
                case measure => omega
                case rel => exact ⟨d + 1, d + 1, 0, q + d2, by omega, by go_num, by go_num, rfl, .inr ⟨rfl, HB1.out⟩⟩
    · have hle : ¬ ((n : Int) + 1 ≤ (n : Int)) := by omega
      have HBF := Lib.hid hb
      clear hb
      go_wp2
      go_ret
      exact ⟨by rw [HBF.out]; rfl, _, rfl⟩
end Go.Proofs.Ytmalacamfjdimaa.Pt
