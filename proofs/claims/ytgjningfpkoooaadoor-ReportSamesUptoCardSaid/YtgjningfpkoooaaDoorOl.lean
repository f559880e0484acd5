/- Route: awake; RouteStands. -/
import Derived.Test.YtgjningfpkoooaaDoorOk
namespace Go.Proofs.YtgjningfpkoooaaDoor.Ro
set_option linter.unusedVariables false
set_option linter.unusedSimpArgs false
open Go.RowKit Go.Proofs.YtgjningfpkoooaaDoor.W

def TrueP (w : World) (e : Ending) (w' : World) : Prop := e = .returned (.bool true) ∧ Below w.heap.size w w'
theorem rv_lit {w : World} {cs : Array Value} {l : List Int} (h : cs.toList = is64 l) : RV (w.alloc (.cells cs 3)) (some ⟨w.heap.size, 0, none⟩) (is64 l) := by
  have := RV.new (w := w) cs 3
  rw [h] at this
  exact this
theorem rv_draw {w : World} {A : Option Addr} {vs : List Value} (h : RV w A vs) (d : Nat) : RV (w.drewN d) A vs := h
theorem bel_draw {B : Nat} {a w : World} (h : Below B a w) (d : Nat) : Below B a (w.drewN d) := ⟨h.os, h.tape, h.output, h.size, h.block⟩
theorem bel_all {B : Nat} {a w : World} (h : Below B a w) (o : Obj) (hB : B ≤ w.heap.size) : Below B a (w.alloc o) := h.alloc hB o
theorem sz1 {w : World} {o : Obj} : (w.alloc o).heap.size = w.heap.size + 1 := by simp
theorem rv10 {w : World} : RV (w.alloc (.cells #[.int .i64 1, .int .i64 0] 3)) (some ⟨w.heap.size, 0, none⟩) (is64 [1, 0]) := rv_lit rfl
theorem rv1 {w : World} : RV (w.alloc (.cells #[.int .i64 1] 3)) (some ⟨w.heap.size, 0, none⟩) (is64 [1]) := rv_lit rfl
theorem rv14 {w : World} : RV (w.alloc (.cells #[.int .i64 1, .int .i64 4] 3)) (some ⟨w.heap.size, 0, none⟩) (is64 [1, 4]) := rv_lit rfl
theorem aw_i : ints ((some [1, 0] : Option (List Nat)).getD []) = is64 [1, 0] := rfl
theorem aw_el : less [1] [1, 0] = true := rfl
theorem aw_eu : under [1, 0] [1] = true := rfl
theorem aw_e1 : decide (([1, 0] : List Int) = [1, 0]) = true := decide_eq_true rfl
theorem aw_e2 : decide ((([1] : List Int) ++ [4]) = [1, 4]) = true := decide_eq_true rfl
theorem aw_s : ((⟨([47, 49, 47, 48] : List UInt8).toArray⟩ : ByteArray).toList == [47, 49, 47, 48]) = true := by rw [ByteArray.toList_eq]; rfl
theorem aw_t : textP [1, 0] = [47, 49, 47, 48] := by decide +kernel
theorem aw_o : okP [1, 0] = true := by decide +kernel
theorem aw_p : parseP [47, 49, 47, 48] = some [1, 0] := (parseP_iff _ _).2 ⟨by decide +kernel, by decide +kernel⟩
set_option maxHeartbeats 4000000 in
set_option maxRecDepth 100000 in
theorem c_awake (w : World) (hG : Gw w) : Calls Tryd.prog 17 #[] w (TrueP w) := by
  have HG := Lib.hid hG
  clear hG
  have et := aw_t
  have eo := aw_o
  have ep := aw_p
  have HB0 := Lib.hid (show Below w.heap.size w (w.alloc (.cells #[.int .i64 1, .int .i64 0] 3)) from (Below.refl _ _).alloc (Nat.le_refl _) _)
  have C1 := Lib.hid (c_text (some ⟨w.heap.size, 0, none⟩) 2 2 [1, 0] (w.alloc (.cells #[.int .i64 1, .int .i64 0] 3)) rfl (by omega) (rv_lit rfl) (HG.out.below HB0.out HG.out.sz))
  go_enter Tryd.func17, Tryd.ntmps17
  go_upto_region 2 with (first
    | (go_at_call 12; go_must (refine C1.out.mono ?_); rintro e w1 ⟨he, hb⟩; rw [eo] at he; have hex : ∃ S : ByteArray, (⟨(textP [1, 0]).toArray⟩ : ByteArray) = S := ⟨_, rfl⟩; obtain ⟨S, hS⟩ := hex; rw [hS] at he; subst he; have HB1 := Lib.hid (HB0.out.trans (hb.mono HB0.out.size)); clear hb))
  have C2 := Lib.hid (c_parse ⟨#[47, 49, 47, 48]⟩ w1 (by decide) (HG.out.below HB1.out HG.out.sz))
  go_upto_region 3 with (first
    | (go_at_call 14; go_must (refine C2.out.mono ?_); rintro e w2 ⟨A2, n2, c2, he, hb, hn, hown⟩; rw [ep] at he hn hown; rw [aw_i] at hown; subst he; have hn2 : n2 = 2 := hn.symm; subst hn2; have HO2 := Lib.hid (RV.own hown); have HB2 := Lib.hid (HB1.out.trans (hb.mono HB1.out.size)); clear hb hn hown))
  have hSL : (S.toList == [47, 49, 47, 48]) = true := by rw [← hS, et]; exact aw_s
  clear et eo ep C1 C2 hS
  have tk1 : True := trivial
  have hz2 := HB2.out.size
  go_wp2_with (fail)
  go_at_call 16
  have C3 := c_ints A2 (some ⟨w2.heap.size, 0, none⟩) 2 2 c2 2 [1, 0] [1, 0] (w2.alloc (.cells #[.int .i64 1, .int .i64 0] 3)) rfl rfl (by omega) (by omega) (HO2.out.alloc _) rv10
  refine C3.mono ?_
  rintro e w3 ⟨he, d3, hw⟩
  rw [aw_e1] at he
  subst he
  have HB3 := Lib.hid (show Below w.heap.size w w3 by rw [hw]; exact bel_draw (bel_all HB2.out (.cells #[.int .i64 1, .int .i64 0] 3) hz2) d3)
  have hz3 := HB3.out.size
  clear hw C3
  go_wp2_with (fail)
  go_at_call 19
  have r4 := rv10 (w := w3.alloc (.cells #[.int .i64 1] 3))
  rw [sz1] at r4
  have C4 := c_pless (some ⟨w3.heap.size, 0, none⟩) (some ⟨w3.heap.size + 1, 0, none⟩) 1 2 1 2 [1] [1, 0] ((w3.alloc (.cells #[.int .i64 1] 3)).alloc (.cells #[.int .i64 1, .int .i64 0] 3)) rfl rfl (by omega) (by omega) (rv1.alloc _) r4
  refine C4.mono ?_
  rintro e w4 ⟨he, d4, hw⟩
  rw [aw_el] at he
  subst he
  have HB4 := Lib.hid (show Below w.heap.size w w4 by rw [hw]; exact bel_draw (bel_all (bel_all HB3.out (.cells #[.int .i64 1] 3) hz3) (.cells #[.int .i64 1, .int .i64 0] 3) (by rw [sz1]; omega)) d4)
  have hz4 := HB4.out.size
  clear hw C4 r4
  go_wp2_with (fail)
  go_at_call 21
  have r5 := rv1 (w := w4.alloc (.cells #[.int .i64 1, .int .i64 0] 3))
  rw [sz1] at r5
  have C5 := c_punder (some ⟨w4.heap.size, 0, none⟩) (some ⟨w4.heap.size + 1, 0, none⟩) 2 1 2 1 [1, 0] [1] ((w4.alloc (.cells #[.int .i64 1, .int .i64 0] 3)).alloc (.cells #[.int .i64 1] 3)) rfl rfl (by omega) (by omega) (rv10.alloc _) r5
  refine C5.mono ?_
  rintro e w5 ⟨he, d5, hw⟩
  rw [aw_eu] at he
  subst he
  have HB5 := Lib.hid (show Below w.heap.size w w5 by rw [hw]; exact bel_draw (bel_all (bel_all HB4.out (.cells #[.int .i64 1, .int .i64 0] 3) hz4) (.cells #[.int .i64 1] 3) (by rw [sz1]; omega)) d5)
  have hz5 := HB5.out.size
  clear hw C5 r5
  go_wp2_with (fail)
  go_at_call 18
  have C6 := c_child (some ⟨w5.heap.size, 0, none⟩) 1 1 [1] 4 (w5.alloc (.cells #[.int .i64 1] 3)) rfl (by omega) rv1
  refine C6.mono ?_
  rintro e w6 ⟨A6, c6, rfl, h1, h2⟩
  have HO6 := Lib.hid (RV.own h1)
  have HB6 := Lib.hid ((bel_all HB5.out (.cells #[.int .i64 1] 3) hz5).trans (h2.mono (by rw [sz1]; omega)))
  have hz6 := HB6.out.size
  clear h1 h2 C6
  go_wp2_with (fail)
  go_at_call 16
  have C7 := c_ints A6 (some ⟨w6.heap.size, 0, none⟩) 2 2 c6 2 ([1] ++ [4]) [1, 4] (w6.alloc (.cells #[.int .i64 1, .int .i64 4] 3)) rfl rfl (by omega) (by omega) (HO6.out.alloc _) rv14
  refine C7.mono ?_
  rintro e w7 ⟨he, d7, hw⟩
  rw [aw_e2] at he
  subst he
  have HB7 := Lib.hid (show Below w.heap.size w w7 by rw [hw]; exact bel_draw (bel_all HB6.out (.cells #[.int .i64 1, .int .i64 4] 3) hz6) d7)
  clear hw C7
  go_wp2_with (fail)
  go_ret
  exact ⟨rfl, HB7.out⟩
end Go.Proofs.YtgjningfpkoooaaDoor.Ro
