/- The walker's steps: the first ten bytes, the extra, the name, the comment. -/
import Derived.Test.YtjjcemdoefigkaaDoorGh
namespace Go.Proofs.YtjjcemdoefigkaaDoor.Hf
set_option linter.unusedVariables false
set_option linter.unusedSimpArgs false
open Go.RowKit Go.Proofs.YtjjcemdoefigkaaDoor.W

section
variable {w w' : World} {a : Ad} {st st' : Value} {z z' : Z}
set_option maxHeartbeats 2000000 in
set_option maxRecDepth 100000 in
theorem g_fixed (h : GM w a z) (hzn : Zn z) (h0 : z.why = 0) (hd : z.data = false) (hn : 1 ≤ z.n ∧ z.n ≤ 9) (x : Int) (hx : Bt x) (hG : Gq w) : Calls Tryd.prog 22 #[.pointer (some ⟨a.b, 0, none⟩), .int .u8 x] w (GA w a (z.fixed x)) := by
  have c0 := h.cs (i := 0) rfl
  have c9 := h.cs (i := 9) rfl
  have c12 := h.cs (i := 12) rfl
  have c13 := h.cs (i := 13) rfl
  have c15 := h.cs (i := 15) rfl
  have hlt := h.lt
  have fz := h.fz
  have CS := Lib.hid (c_crc z.head x w hzn.head hx hG)
  obtain ⟨hg1, hk1⟩ := hd_upd h x
  rw [h0] at c9
  have hstopc : ∀ y : Nat, y ≠ 0 → Z.fix1 (z.hd x) x = (z.hd x).stop y → z.fixed x = { (z.hd x).stop y with n := z.n + 1 } := fun y hy he => by
    unfold Z.fixed
    rw [he]
    unfold Z.fix2
    rw [if_neg (fun h9 => hy h9.2)]
  have HX := Lib.hid hx
  by_cases hs1 : z.n = 1 ∧ x ≠ 139
  · obtain ⟨h1, hx1⟩ := hs1
    have i1 : (x != 139) = true := W.neT hx1
    have e := hstopc 40 (by decide) (by unfold Z.fix1; rw [if_pos (show (z.hd x).n = 1 ∧ x ≠ 139 from ⟨h1, hx1⟩)])
    rw [e]
    have hk : Kp [a.b] w (((w.setCell ⟨a.b, 15, none⟩ (.int .u32 (crc1 z.head x.toNat : Nat))).setCell ⟨a.b, 9, none⟩ (.int .i64 (40 : Nat))).setCell ⟨a.b, 13, none⟩ (.int .i64 ((z.n : Int) + 1))) := (hk1.trans (kpb (by simp) _ _)).trans (kpb (by simp) _ _)
    have HU := Lib.hid (show GM _ a { (z.hd x).stop 40 with n := z.n + 1 } from h.upd (setZ (setZ (setZ h.cells 15 (.int .u32 (crc1 z.head x.toNat : Nat))) 9 (.int .i64 (40 : Nat))) 13 (.int .i64 ((z.n : Int) + 1))) hk (.inl rfl) (fun h => ⟨h, rfl, rfl⟩))
    have HK := Lib.hid hk
    generalize crc1 z.head x.toNat = V at *
    rw [h1] at c13 HU HK ⊢
    clear h hg1 hk1 hk e hstopc
    go_enter Tryd.func22, Tryd.ntmps22
    go_wp2_with (first
      | (go_at_call 15; go_must (refine CS.out.mono ?_); rintro en wc ⟨rfl, rfl⟩))
    refine bodyPost_end (results_none rfl _ _ _) rfl ?_
    exact ⟨rfl, HU.out, kpa HK.out ab_all⟩
  by_cases hs2 : z.n = 2 ∧ x ≠ 8
  · obtain ⟨h2, hx1⟩ := hs2
    have i1 : (x != 8) = true := W.neT hx1
    have e := hstopc 41 (by decide) (by unfold Z.fix1; rw [if_neg (show ¬ ((z.hd x).n = 1 ∧ x ≠ 139) from hs1), if_pos (show (z.hd x).n = 2 ∧ x ≠ 8 from ⟨h2, hx1⟩)])
    rw [e]
    have hk : Kp [a.b] w (((w.setCell ⟨a.b, 15, none⟩ (.int .u32 (crc1 z.head x.toNat : Nat))).setCell ⟨a.b, 9, none⟩ (.int .i64 (41 : Nat))).setCell ⟨a.b, 13, none⟩ (.int .i64 ((z.n : Int) + 1))) := (hk1.trans (kpb (by simp) _ _)).trans (kpb (by simp) _ _)
    have HU := Lib.hid (show GM _ a { (z.hd x).stop 41 with n := z.n + 1 } from h.upd (setZ (setZ (setZ h.cells 15 (.int .u32 (crc1 z.head x.toNat : Nat))) 9 (.int .i64 (41 : Nat))) 13 (.int .i64 ((z.n : Int) + 1))) hk (.inl rfl) (fun h => ⟨h, rfl, rfl⟩))
    have HK := Lib.hid hk
    generalize crc1 z.head x.toNat = V at *
    rw [h2] at c13 HU HK ⊢
    clear h hg1 hk1 hk e hstopc
    go_enter Tryd.func22, Tryd.ntmps22
    go_wp2_with (first
      | (go_at_call 15; go_must (refine CS.out.mono ?_); rintro en wc ⟨rfl, rfl⟩))
    refine bodyPost_end (results_none rfl _ _ _) rfl ?_
    exact ⟨rfl, HU.out, kpa HK.out ab_all⟩
  by_cases hs3 : z.n = 3 ∧ x / 32 ≠ 0
  · obtain ⟨h3, hx1⟩ := hs3
    have i1 : (x / 32 != 0) = true := W.neT hx1
    have e := hstopc 42 (by decide) (by unfold Z.fix1; rw [if_neg (show ¬ ((z.hd x).n = 1 ∧ x ≠ 139) from hs1), if_neg (show ¬ ((z.hd x).n = 2 ∧ x ≠ 8) from hs2), if_pos (show (z.hd x).n = 3 ∧ x / 32 ≠ 0 from ⟨h3, hx1⟩)])
    rw [e]
    have hk : Kp [a.b] w (((w.setCell ⟨a.b, 15, none⟩ (.int .u32 (crc1 z.head x.toNat : Nat))).setCell ⟨a.b, 9, none⟩ (.int .i64 (42 : Nat))).setCell ⟨a.b, 13, none⟩ (.int .i64 ((z.n : Int) + 1))) := (hk1.trans (kpb (by simp) _ _)).trans (kpb (by simp) _ _)
    have HU := Lib.hid (show GM _ a { (z.hd x).stop 42 with n := z.n + 1 } from h.upd (setZ (setZ (setZ h.cells 15 (.int .u32 (crc1 z.head x.toNat : Nat))) 9 (.int .i64 (42 : Nat))) 13 (.int .i64 ((z.n : Int) + 1))) hk (.inl rfl) (fun h => ⟨h, rfl, rfl⟩))
    have HK := Lib.hid hk
    generalize crc1 z.head x.toNat = V at *
    rw [h3] at c13 HU HK ⊢
    clear h hg1 hk1 hk e hstopc
    go_enter Tryd.func22, Tryd.ntmps22
    go_wp2_with (first
      | (go_at_call 15; go_must (refine CS.out.mono ?_); rintro en wc ⟨rfl, rfl⟩))
    refine bodyPost_end (results_none rfl _ _ _) rfl ?_
    exact ⟨rfl, HU.out, kpa HK.out ab_all⟩
  by_cases h3 : z.n = 3
  · have hx1 : x / 32 = 0 := Decidable.by_contra fun h => hs3 ⟨h3, h⟩
    have i1 : (x / 32 != 0) = false := W.neF hx1
    have e : z.fixed x = { z.hd x with fl := x.toNat, n := z.n + 1 } := by
      unfold Z.fixed
      have he : Z.fix1 (z.hd x) x = { z.hd x with fl := x.toNat } := by
        unfold Z.fix1
        rw [if_neg (show ¬ ((z.hd x).n = 1 ∧ x ≠ 139) from hs1), if_neg (show ¬ ((z.hd x).n = 2 ∧ x ≠ 8) from hs2), if_neg (show ¬ ((z.hd x).n = 3 ∧ x / 32 ≠ 0) from hs3), if_pos (show (z.hd x).n = 3 from h3)]
      rw [he]
      unfold Z.fix2
      rw [if_neg (fun h9 => absurd (show z.n + 1 = 10 from h9.1) (by omega))]
    rw [e]
    have hxi : ((x.toNat : Nat) : Int) = x := by have := hx.1; omega
    have hk : Kp [a.b] w (((w.setCell ⟨a.b, 15, none⟩ (.int .u32 (crc1 z.head x.toNat : Nat))).setCell ⟨a.b, 12, none⟩ (.int .u8 (x.toNat : Nat))).setCell ⟨a.b, 13, none⟩ (.int .i64 ((z.n : Int) + 1))) := (hk1.trans (kpb (by simp) _ _)).trans (kpb (by simp) _ _)
    have HU := Lib.hid (show GM _ a { z.hd x with fl := x.toNat, n := z.n + 1 } from h.upd (setZ (setZ (setZ h.cells 15 (.int .u32 (crc1 z.head x.toNat : Nat))) 12 (.int .u8 (x.toNat : Nat))) 13 (.int .i64 ((z.n : Int) + 1))) hk (.inl rfl) (fun h => ⟨h, rfl, rfl⟩))
    have HK := Lib.hid hk
    rw [hxi] at HU HK
    generalize crc1 z.head x.toNat = V at *
    rw [h3] at c13 HU HK ⊢
    clear h hg1 hk1 hk e hstopc
    go_enter Tryd.func22, Tryd.ntmps22
    go_wp2_with (first
      | (go_at_call 15; go_must (refine CS.out.mono ?_); rintro en wc ⟨rfl, rfl⟩))
    refine bodyPost_end (results_none rfl _ _ _) rfl ?_
    exact ⟨rfl, HU.out, kpa HK.out ab_all⟩
  have he : Z.fix1 (z.hd x) x = z.hd x := by
    unfold Z.fix1
    rw [if_neg (show ¬ ((z.hd x).n = 1 ∧ x ≠ 139) from hs1), if_neg (show ¬ ((z.hd x).n = 2 ∧ x ≠ 8) from hs2), if_neg (show ¬ ((z.hd x).n = 3 ∧ x / 32 ≠ 0) from hs3), if_neg (show ¬ (z.hd x).n = 3 from h3)]
  have hk : Kp [a.b] w ((w.setCell ⟨a.b, 15, none⟩ (.int .u32 (crc1 z.head x.toNat : Nat))).setCell ⟨a.b, 13, none⟩ (.int .i64 ((z.n : Int) + 1))) := hk1.trans (kpb (by simp) _ _)
  have hU : GM ((w.setCell ⟨a.b, 15, none⟩ (.int .u32 (crc1 z.head x.toNat : Nat))).setCell ⟨a.b, 13, none⟩ (.int .i64 ((z.n : Int) + 1))) a { z.hd x with n := z.n + 1 } := h.upd (setZ (setZ h.cells 15 (.int .u32 (crc1 z.head x.toNat : Nat))) 13 (.int .i64 ((z.n : Int) + 1))) hk (.inl rfl) (fun h => ⟨h, rfl, rfl⟩)
  have n1 : ((z.n : Int) == 1 && x != 139) = false := by
    by_cases h9 : z.n = 1
    · have : x = 139 := Decidable.by_contra fun h => hs1 ⟨h9, h⟩
      rw [this]
      simp
    · rw [W.eqF (show (z.n : Int) ≠ 1 by omega)]
      rfl
  by_cases h10 : z.n = 9
  · have e : z.fixed x = Z.extra { z.hd x with n := z.n + 1 } := by
      unfold Z.fixed
      rw [he]
      unfold Z.fix2
      rw [if_pos ⟨show z.n + 1 = 10 by omega, h0⟩]
    rw [e]
    have CO := Lib.hid (g_extra hU hd hzn.fl)
    have HK := Lib.hid hk
    generalize crc1 z.head x.toNat = V at *
    rw [h10] at c13 HK CO ⊢
    clear h hg1 hk1 hk e hstopc hU n1
    go_enter Tryd.func22, Tryd.ntmps22
    go_wp2_with (first
      | (go_at_call 15; go_must (refine CS.out.mono ?_); rintro en wc ⟨rfl, rfl⟩)
      | (go_at_call 28; go_must (refine CO.out.mono ?_); rintro en w2 hg2; obtain ⟨rfl, hg2⟩ := hg2; have HG2 := Lib.hid hg2; clear hg2))
    refine bodyPost_end (results_none rfl _ _ _) rfl ?_
    exact ⟨rfl, HG2.out.1, (kpa HK.out ab_all).trans HG2.out.2⟩
  · have e : z.fixed x = { z.hd x with n := z.n + 1 } := by
      unfold Z.fixed
      rw [he]
      unfold Z.fix2
      rw [if_neg (fun h9 => absurd (show z.n + 1 = 10 from h9.1) (by omega))]
    rw [e]
    have HU := Lib.hid hU
    have HK := Lib.hid hk
    generalize crc1 z.head x.toNat = V at *
    generalize hnn : z.n = n at *
    have i3 : ((n : Int) == 3) = false := W.eqF (by omega)
    have i10 : ((n : Int) + 1 == 10) = false := W.eqF (by omega)
    clear h hg1 hk1 hk e hstopc hU n1
    by_cases q1 : n = 1
    · have hx1 : x = 139 := Decidable.by_contra fun h => hs1 ⟨q1, h⟩
      subst q1 hx1
      go_enter Tryd.func22, Tryd.ntmps22
      go_wp2_with (first
        | (go_at_call 15; go_must (refine CS.out.mono ?_); rintro en wc ⟨rfl, rfl⟩))
      refine bodyPost_end (results_none rfl _ _ _) rfl ?_
      exact ⟨rfl, HU.out, kpa HK.out ab_all⟩
    · have j1 : ((n : Int) == 1) = false := W.eqF (by omega)
      by_cases q2 : n = 2
      · have hx1 : x = 8 := Decidable.by_contra fun h => hs2 ⟨q2, h⟩
        subst q2 hx1
        go_enter Tryd.func22, Tryd.ntmps22
        go_wp2_with (first
          | (go_at_call 15; go_must (refine CS.out.mono ?_); rintro en wc ⟨rfl, rfl⟩))
        refine bodyPost_end (results_none rfl _ _ _) rfl ?_
        exact ⟨rfl, HU.out, kpa HK.out ab_all⟩
      · have j2 : ((n : Int) == 2) = false := W.eqF (by omega)
        go_enter Tryd.func22, Tryd.ntmps22
        go_wp2_with (first
          | (go_at_call 15; go_must (refine CS.out.mono ?_); rintro en wc ⟨rfl, rfl⟩))
        refine bodyPost_end (results_none rfl _ _ _) rfl ?_
        exact ⟨rfl, HU.out, kpa HK.out ab_all⟩
end
end Go.Proofs.YtjjcemdoefigkaaDoor.Hf
