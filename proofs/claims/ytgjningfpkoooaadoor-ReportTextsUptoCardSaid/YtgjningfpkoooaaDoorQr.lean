/- ReportTexts. -/
import Derived.Test.YtgjningfpkoooaaDoorQq
import Derived.Test.YtgjningfpkoooaaDoorQo
import Derived.Test.YtgjningfpkoooaaDoorQp
namespace Go.Proofs.YtgjningfpkoooaaDoor.Ro
set_option linter.unusedVariables false
set_option linter.unusedSimpArgs false
open Go.RowKit Go.Proofs.YtgjningfpkoooaaDoor.W

set_option maxHeartbeats 8000000 in
set_option maxRecDepth 100000 in
theorem c_reptexts (A : Option Addr) (n c : Nat) (A2 : Option Addr) (m c2 : Nat) (r : Rp) (w : World) (hG : Gw w) (h : RepAt w 0 A n c A2 m c2 r) (hf : Fit r) :
    Calls Tryd.prog 8 #[.agg #[.slice A n c, .slice A2 m c2]] w (TrueP w) := by
  obtain ⟨w1, hw1⟩ : ∃ w1, w.alloc (.cells #[.slice A n c, .slice A2 m c2] 36) = w1 := ⟨_, rfl⟩
  obtain ⟨q1, q2, q3⟩ := new_cells hw1
  have HW1 := Lib.hid q1
  obtain ⟨p, hp⟩ : ∃ p, w.heap.size = p := ⟨_, rfl⟩
  have HP := Lib.hid hp
  rw [hp] at q2 q3
  have HZ1 := Lib.hid q2
  have HB := Lib.hid q3
  have hn : n ≤ 1048576 ∧ m ≤ 1048576 := ⟨by have := h.1; have := hf.1; omega, by have := h.2.2.1; have := hf.2.1; omega⟩
  have HF := Lib.hid hf
  have HR := Lib.hid (h.below HW1.out)
  have HG := Lib.hid (hG.below HW1.out hG.sz)
  obtain ⟨a0, a1⟩ := two_cells (HB.out w1 (Below.refl _ _))
  obtain ⟨X, hX⟩ : ∃ X : ByteArray, (⟨(textR r).toArray⟩ : ByteArray) = X := ⟨_, rfl⟩
  obtain ⟨OK, hOK⟩ : ∃ b, okR r = b := ⟨_, rfl⟩
  have TX := Lib.hid (show ∀ (wa : World) e wb, TextRIs wa r e wb → e = .returned (.tuple #[.string X, .bool OK]) ∧ Below wa.heap.size wa wb from fun wa e wb h => by unfold TextRIs at h; rw [hX, hOK] at h; exact h)
  have C1 := Lib.hid (r_copy A n c A2 m c2 r w1 HR.out (by omega) (by omega))
  clear q1 q2 q3 h hG hf hX hOK
  go_enter Tryd.func8, Tryd.ntmps8
  go_upto_region 2 with (first
    | (go_at_call 23; go_must (refine C1.out.mono ?_); rintro e w2 ⟨Ac, nc, cc, Ac2, mc, cc2, rfl, hb, hr⟩; have HB2 := Lib.hid hb; have HR2 := Lib.hid (RepAt.base hr.read (Nat.zero_le _)); clear hb hr))
  clear hp hw1
  obtain ⟨w3, hw3⟩ : ∃ w3, w2.alloc (.cells #[.slice Ac nc cc, .slice Ac2 mc cc2] 36) = w3 := ⟨_, rfl⟩
  obtain ⟨q1, q2, q3⟩ := new_cells hw3
  obtain ⟨b, hb⟩ : ∃ p, w2.heap.size = p := ⟨_, rfl⟩
  rw [hb] at q2 q3
  have HB23 := Lib.hid q1
  have HB3 := Lib.hid (HB2.out.trans (q1.mono HB2.out.size))
  have HC3 := Lib.hid q3
  have HZ3 := Lib.hid (show w1.heap.size ≤ w3.heap.size from HB3.out.size)
  have HAL := Lib.hid (show ∀ wx, Below w3.heap.size w3 wx → Below w1.heap.size w1 wx ∧ wx.heap[p]? = some (.cells #[.slice A n c, .slice A2 m c2] 36 (0, 0)) ∧ wx.heap[b]? = some (.cells #[.slice Ac nc cc, .slice Ac2 mc cc2] 36 (0, 0)) ∧ RepAt wx 0 A n c A2 m c2 r ∧ RepAt wx 0 Ac nc cc Ac2 mc cc2 r ∧ Gw wx from fun wx hx => by
    have h1 : Below w1.heap.size w1 wx := HB3.out.trans (hx.mono HZ3.out)
    exact ⟨h1, HB.out wx h1, HC3.out wx hx, HR.out.below h1, (HR2.out.below HB23.out).below hx, HG.out.below h1 HG.out.sz⟩)
  obtain ⟨_, q4, q5, q6, q7, q8⟩ := HAL.out w3 (Below.refl _ _)
  obtain ⟨b0, b1⟩ := two_cells q4
  obtain ⟨b2, b3⟩ := two_cells q5
  have hnc : nc = n := by have h1 := q6.1; have h2 := q7.1; omega
  have hmc : mc = m := by have h1 := q6.2.2.1; have h2 := q7.2.2.1; omega
  have HNC := Lib.hid (And.intro hnc hmc)
  have C2 := Lib.hid (c_rtext _ _ _ _ _ _ r w3 q7 HF.out q8)
  clear q1 q2 q3 q4 q5 q6 q7 q8 C1 hnc hmc a0 a1
  go_upto_region 3 with (first
    | (go_at_call 24; go_must (refine C2.out.mono ?_); intro e w4 he; obtain ⟨rfl, hb4⟩ := TX.out _ _ _ he; have HB4 := Lib.hid hb4; clear hb4 he))
  obtain ⟨_, q4, q5, q6, q7, q8⟩ := HAL.out w4 HB4.out
  obtain ⟨c0, c1⟩ := two_cells q4
  have C3 := Lib.hid (r_rtext _ _ _ _ _ _ r w4 q6 HF.out)
  clear q4 q5 q6 q7 q8 C2 hw3 hb
  go_upto_region 4 with (first
    | (go_at_call 25; go_must (refine C3.out.mono ?_); intro e w5 he; obtain ⟨rfl, hb5⟩ := TX.out _ _ _ he; have HB5 := Lib.hid (HB4.out.trans (hb5.mono HB4.out.size)); clear hb5 he))
  obtain ⟨_, q4, q5, q6, q7, q8⟩ := HAL.out w5 HB5.out
  obtain ⟨d0, d1⟩ := two_cells q4
  obtain ⟨d2, d3⟩ := two_cells q5
  have C4 := Lib.hid (r_same Ac nc cc Ac2 mc cc2 r A n c A2 m c2 r w5 q7 q6 (by have := HNC.out.1; omega) (by have := HNC.out.2; omega) (by omega) (by omega))
  rw [same_self] at C4
  clear q4 q5 q6 q7 q8 C3
  go_wp2_with (first
    | (go_at_call 26; go_must (refine C4.out.mono ?_); rintro e w6 ⟨rfl, hb6⟩; have HB6 := Lib.hid (HB5.out.trans (hb6.mono HB5.out.size)); have C5 := Lib.hid (c_awaker w6 (HAL.out w6 HB6.out).2.2.2.2.2); clear hb6)
    | (go_at_call 27; go_must (refine C5.out.mono ?_); rintro e w7 ⟨rfl, hb7⟩; have HB7 := Lib.hid (HB6.out.trans (hb7.mono HB6.out.size)); clear hb7))
  go_ret
  exact ⟨rfl, HW1.out.trans ((HAL.out _ HB7.out).1.mono HW1.out.size)⟩
end Go.Proofs.YtgjningfpkoooaaDoor.Ro
