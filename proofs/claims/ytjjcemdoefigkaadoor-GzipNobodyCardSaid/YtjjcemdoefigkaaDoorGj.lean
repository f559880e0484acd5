/- The walker's steps: the extra, the name, the comment. -/
import Derived.Test.YtjjcemdoefigkaaDoorGi
namespace Go.Proofs.YtjjcemdoefigkaaDoor.Hf
set_option linter.unusedVariables false
set_option linter.unusedSimpArgs false
open Go.RowKit Go.Proofs.YtjjcemdoefigkaaDoor.W

section
variable {w w' : World} {a : Ad} {st st' : Value} {z z' : Z}
set_option maxHeartbeats 2000000 in
set_option maxRecDepth 100000 in
theorem g_exLen (h : GM w a z) (hzn : Zn z) (hd : z.data = false) (hn : z.n ≤ 1 ∧ z.val < 256 ^ z.n) (x : Int) (hx : Bt x) (hG : Gq w) : Calls Tryd.prog 33 #[.pointer (some ⟨a.b, 0, none⟩), .int .u8 x] w (GA w a (z.exLen x)) := by
  have c15 := h.cs (i := 15) rfl
  have hlt := h.lt
  have fz := h.fz
  have CS := Lib.hid (c_crc z.head x w hzn.head hx hG)
  obtain ⟨hg1, hk1⟩ := hd_upd h x
  have HK1 := Lib.hid hk1
  by_cases h2 : z.n + 1 = 2
  have hvl : Z.val (Z.num (z.hd x) x) < 65536 := by
    have h3 := ((hzn.hd hx).num (x := x) hx (show (z.hd x).n ≤ 3 by show z.n ≤ 3; omega) hn.2).2
    rw [show (z.hd x).n + 1 = 2 from h2] at h3
    exact h3
  by_cases hbig : (Z.num (z.hd x) x).val > 1024
  · have e : z.exLen x = Z.stop { Z.num (z.hd x) x with cnt := (Z.num (z.hd x) x).val } 46 := by unfold Z.exLen; rw [if_pos h2]; unfold Z.exl2; rw [if_pos hbig]
    rw [e]
    have i1 : (1024 : Int) < ((Z.num (z.hd x) x).val : Int) := by omega
    have cN := g_number hg1 x 2 hx hd (show z.n ≤ 3 by omega) hn.2 (by omega)
    rw [decide_eq_true (show (z.hd x).n + 1 = 2 from h2)] at cN
    have CN := Lib.hid cN
    have hyd : (Z.num (z.hd x) x).data = false := hd
    have hyp : (Z.num (z.hd x) x).ph = z.ph := rfl
    have hyf : (Z.num (z.hd x) x).fl < 256 := hzn.fl
    generalize crc1 z.head x.toNat = V at *
    generalize hy : Z.num (z.hd x) x = y at *
    clear h hg1 hk1 cN e hG hy
    go_enter Tryd.func33, Tryd.ntmps33
    go_upto_region 2 with (first
      | (go_at_call 15; go_must (refine CS.out.mono ?_); rintro en wc ⟨rfl, rfl⟩)
      | (go_at_call 25; go_must (refine CN.out.mono ?_); rintro en w2 hg2; obtain ⟨rfl, hg2, hk2⟩ := hg2; have HG2 := Lib.hid hg2; have HK2 := Lib.hid hk2; clear hg2 hk2))
    have d0 := HG2.out.cs (i := 0) rfl
    have d9 := HG2.out.cs (i := 9) rfl
    have d14 := HG2.out.cs (i := 14) rfl
    have d18 := HG2.out.cs (i := 18) rfl
    have fz2 := HG2.out.fz
    have hlt2 := HG2.out.lt
    have h3 : GMv (w2.setCell ⟨a.b, 14, none⟩ (.int .i64 (y.val : Nat))) a (gpV a z.ph) { y with cnt := y.val } := HG2.out.upd (setZ HG2.out.cells 14 (.int .i64 (y.val : Nat))) (kpb (by simp) _ _) (.inl rfl) (fun h => ⟨h, rfl, rfl⟩)
    have hk3 := kpb (a := a) (w := w2) (by simp) 14 (.int .i64 (y.val : Nat))
    have HK3 := Lib.hid hk3
    obtain ⟨h4, hk4⟩ := stop_upd h3 46
    have HU := Lib.hid h4
    have HK4 := Lib.hid hk4
    have HYP := Lib.hid hyp
    clear h3 hk3 h4 hk4 hyp
    obtain ⟨vv, hvv⟩ : ∃ v, y.val = v := ⟨_, rfl⟩
    have HV := Lib.hid hvv
    rw [hvv] at d18 hvl i1
    clear hvv
    go_wp2_with (fail)
    refine bodyPost_end (results_none rfl _ _ _) rfl ?_
    have h9 := HU.out
    have k9 := HK4.out
    have k8 := HK3.out
    rw [HV.out] at h9 k9 k8
    refine ⟨rfl, ?_, kpa (((HK1.out.trans HK2.out).trans k8).trans k9) ab_all⟩
    unfold GM
    rw [show (Z.stop { y with cnt := y.val } 46).ph = z.ph from HYP.out, HV.out]
    exact h9
  by_cases hz0 : (Z.num (z.hd x) x).val = 0
  · have e : z.exLen x = Z.named { Z.num (z.hd x) x with cnt := (Z.num (z.hd x) x).val, ph := .exBytes } := by unfold Z.exLen; rw [if_pos h2]; unfold Z.exl2; rw [if_neg hbig, if_pos hz0]
    rw [e]
    have i1 : ¬ (1024 : Int) < ((Z.num (z.hd x) x).val : Int) := by omega
    have cN := g_number hg1 x 2 hx hd (show z.n ≤ 3 by omega) hn.2 (by omega)
    rw [decide_eq_true (show (z.hd x).n + 1 = 2 from h2)] at cN
    have CN := Lib.hid cN
    have hyd : (Z.num (z.hd x) x).data = false := hd
    have hyp : (Z.num (z.hd x) x).ph = z.ph := rfl
    have hyf : (Z.num (z.hd x) x).fl < 256 := hzn.fl
    generalize crc1 z.head x.toNat = V at *
    generalize hy : Z.num (z.hd x) x = y at *
    clear h hg1 hk1 cN e hG hy
    go_enter Tryd.func33, Tryd.ntmps33
    go_upto_region 2 with (first
      | (go_at_call 15; go_must (refine CS.out.mono ?_); rintro en wc ⟨rfl, rfl⟩)
      | (go_at_call 25; go_must (refine CN.out.mono ?_); rintro en w2 hg2; obtain ⟨rfl, hg2, hk2⟩ := hg2; have HG2 := Lib.hid hg2; have HK2 := Lib.hid hk2; clear hg2 hk2))
    have d0 := HG2.out.cs (i := 0) rfl
    have d9 := HG2.out.cs (i := 9) rfl
    have d14 := HG2.out.cs (i := 14) rfl
    have d18 := HG2.out.cs (i := 18) rfl
    have fz2 := HG2.out.fz
    have hlt2 := HG2.out.lt
    have h3 : GMv (w2.setCell ⟨a.b, 14, none⟩ (.int .i64 (y.val : Nat))) a (gpV a z.ph) { y with cnt := y.val } := HG2.out.upd (setZ HG2.out.cells 14 (.int .i64 (y.val : Nat))) (kpb (by simp) _ _) (.inl rfl) (fun h => ⟨h, rfl, rfl⟩)
    have hk3 := kpb (a := a) (w := w2) (by simp) 14 (.int .i64 (y.val : Nat))
    have HK3 := Lib.hid hk3
    have h4 : GMv ((w2.setCell ⟨a.b, 14, none⟩ (.int .i64 (y.val : Nat))).setCell ⟨a.b, 0, none⟩ (gpV a .exBytes)) a (gpV a .exBytes) { y with cnt := y.val, ph := .exBytes } := HG2.out.upd (setZ (setZ HG2.out.cells 14 (.int .i64 (y.val : Nat))) 0 (gpV a .exBytes)) (hk3.trans (kpb (by simp) _ _)) (.inl rfl) (fun h => ⟨h, rfl, rfl⟩)
    have HK4 := Lib.hid (hk3.trans (kpb (a := a) (w := w2.setCell ⟨a.b, 14, none⟩ (.int .i64 (y.val : Nat))) (by simp) 0 (gpV a .exBytes)))
    have hst := store_fn (fn := gpF .exBytes) (v := .pointer (some ⟨a.b, 0, none⟩)) (h3.cs (i := 0) rfl) (h3.fz 0)
    have hgv : gpV a .exBytes = .func (Fn.func 39) #[.pointer (some ⟨a.b, 0, none⟩)] #[] := rfl
    rw [show gpF .exBytes = 39 from rfl] at hst
    rw [hgv] at HK4
    have CO := Lib.hid (g_named h4 hyd hyf)
    rw [hgv] at CO
    clear h3 hk3 h4
    rw [hz0, show ((0 : Nat) : Int) = (0 : Int) from rfl] at d18 HK4 hst
    rw [hz0] at CO
    clear hvl i1 hbig
    go_wp2_with (first
      | (go_at_call 32; go_must (refine CO.out.mono ?_); rintro en w5 hg5; obtain ⟨rfl, hg5⟩ := hg5; have HG5 := Lib.hid hg5; clear hg5))
    refine bodyPost_end (results_none rfl _ _ _) rfl ?_
    have g9 := HG5.out.1
    refine ⟨rfl, ?_, (kpa ((HK1.out.trans HK2.out).trans HK4.out) ab_all).trans HG5.out.2⟩
    rw [hz0]
    exact g9
  · have e : z.exLen x = { Z.num (z.hd x) x with cnt := (Z.num (z.hd x) x).val, ph := .exBytes } := by unfold Z.exLen; rw [if_pos h2]; unfold Z.exl2; rw [if_neg hbig, if_neg hz0]
    rw [e]
    have i1 : ¬ (1024 : Int) < ((Z.num (z.hd x) x).val : Int) := by omega
    have i2 : (((Z.num (z.hd x) x).val : Int) == 0) = false := W.eqF (by omega)
    have cN := g_number hg1 x 2 hx hd (show z.n ≤ 3 by omega) hn.2 (by omega)
    rw [decide_eq_true (show (z.hd x).n + 1 = 2 from h2)] at cN
    have CN := Lib.hid cN
    have hyd : (Z.num (z.hd x) x).data = false := hd
    have hyp : (Z.num (z.hd x) x).ph = z.ph := rfl
    have hyf : (Z.num (z.hd x) x).fl < 256 := hzn.fl
    generalize crc1 z.head x.toNat = V at *
    generalize hy : Z.num (z.hd x) x = y at *
    clear h hg1 hk1 cN e hG hy
    go_enter Tryd.func33, Tryd.ntmps33
    go_upto_region 2 with (first
      | (go_at_call 15; go_must (refine CS.out.mono ?_); rintro en wc ⟨rfl, rfl⟩)
      | (go_at_call 25; go_must (refine CN.out.mono ?_); rintro en w2 hg2; obtain ⟨rfl, hg2, hk2⟩ := hg2; have HG2 := Lib.hid hg2; have HK2 := Lib.hid hk2; clear hg2 hk2))
    have d0 := HG2.out.cs (i := 0) rfl
    have d9 := HG2.out.cs (i := 9) rfl
    have d14 := HG2.out.cs (i := 14) rfl
    have d18 := HG2.out.cs (i := 18) rfl
    have fz2 := HG2.out.fz
    have hlt2 := HG2.out.lt
    have h3 : GMv (w2.setCell ⟨a.b, 14, none⟩ (.int .i64 (y.val : Nat))) a (gpV a z.ph) { y with cnt := y.val } := HG2.out.upd (setZ HG2.out.cells 14 (.int .i64 (y.val : Nat))) (kpb (by simp) _ _) (.inl rfl) (fun h => ⟨h, rfl, rfl⟩)
    have hk3 := kpb (a := a) (w := w2) (by simp) 14 (.int .i64 (y.val : Nat))
    have HK3 := Lib.hid hk3
    have h4 : GMv ((w2.setCell ⟨a.b, 14, none⟩ (.int .i64 (y.val : Nat))).setCell ⟨a.b, 0, none⟩ (gpV a .exBytes)) a (gpV a .exBytes) { y with cnt := y.val, ph := .exBytes } := HG2.out.upd (setZ (setZ HG2.out.cells 14 (.int .i64 (y.val : Nat))) 0 (gpV a .exBytes)) (hk3.trans (kpb (by simp) _ _)) (.inl rfl) (fun h => ⟨h, rfl, rfl⟩)
    have HK4 := Lib.hid (hk3.trans (kpb (a := a) (w := w2.setCell ⟨a.b, 14, none⟩ (.int .i64 (y.val : Nat))) (by simp) 0 (gpV a .exBytes)))
    have hst := store_fn (fn := gpF .exBytes) (v := .pointer (some ⟨a.b, 0, none⟩)) (h3.cs (i := 0) rfl) (h3.fz 0)
    have hgv : gpV a .exBytes = .func (Fn.func 39) #[.pointer (some ⟨a.b, 0, none⟩)] #[] := rfl
    rw [show gpF .exBytes = 39 from rfl] at hst
    rw [hgv] at HK4
    have HU := Lib.hid h4
    clear h3 hk3 h4
    obtain ⟨vv, hvv⟩ : ∃ v, y.val = v := ⟨_, rfl⟩
    have HV := Lib.hid hvv
    rw [hvv] at d18 hvl i1 i2 hst HK4
    clear hvv hz0 hbig
    go_wp2_with (fail)
    refine bodyPost_end (results_none rfl _ _ _) rfl ?_
    have h9 := HU.out
    rw [HV.out] at h9
    refine ⟨rfl, ?_, kpa ((HK1.out.trans HK2.out).trans HK4.out) ab_all⟩
    rw [HV.out]
    exact h9
  · have cN := g_number hg1 x 2 hx hd (show z.n ≤ 3 by omega) hn.2 (by omega)
    rw [decide_eq_false (show ¬ (z.hd x).n + 1 = 2 from h2)] at cN
    have CN := Lib.hid cN
    have e : z.exLen x = Z.num (z.hd x) x := by unfold Z.exLen; rw [if_neg h2]
    rw [e]
    generalize crc1 z.head x.toNat = V at *
    clear h hg1 hk1 cN e hG
    go_enter Tryd.func33, Tryd.ntmps33
    go_wp2_with (first
      | (go_at_call 15; go_must (refine CS.out.mono ?_); rintro en wc ⟨rfl, rfl⟩)
      | (go_at_call 25; go_must (refine CN.out.mono ?_); rintro en w2 hg2; obtain ⟨rfl, hg2, hk2⟩ := hg2; have HG2 := Lib.hid hg2; have HK2 := Lib.hid hk2; clear hg2 hk2))
    refine bodyPost_end (results_none rfl _ _ _) rfl ?_
    exact ⟨rfl, HG2.out, kpa (HK1.out.trans HK2.out) ab_all⟩
set_option maxHeartbeats 2000000 in
set_option maxRecDepth 100000 in
theorem g_exBytes (h : GM w a z) (hzn : Zn z) (hd : z.data = false) (hn : 1 ≤ z.cnt ∧ z.cnt ≤ 1024) (x : Int) (hx : Bt x) (hG : Gq w) : Calls Tryd.prog 39 #[.pointer (some ⟨a.b, 0, none⟩), .int .u8 x] w (GA w a (z.exBytes x)) := by
  have c15 := h.cs (i := 15) rfl
  have c14 := h.cs (i := 14) rfl
  have hlt := h.lt
  have fz := h.fz
  have CS := Lib.hid (c_crc z.head x w hzn.head hx hG)
  obtain ⟨hg1, hk1⟩ := hd_upd h x
  obtain ⟨C, hC⟩ : ∃ C, z.cnt = C + 1 := ⟨z.cnt - 1, by omega⟩
  rw [hC] at c14
  have eC : ((C + 1 : Nat) : Int) - 1 = (C : Int) := by omega
  have hk : Kp [a.b] w ((w.setCell ⟨a.b, 15, none⟩ (.int .u32 (crc1 z.head x.toNat : Nat))).setCell ⟨a.b, 14, none⟩ (.int .i64 (C : Nat))) := hk1.trans (kpb (by simp) _ _)
  have hU : GM ((w.setCell ⟨a.b, 15, none⟩ (.int .u32 (crc1 z.head x.toNat : Nat))).setCell ⟨a.b, 14, none⟩ (.int .i64 (C : Nat))) a { z.hd x with cnt := C } := h.upd (setZ (setZ h.cells 15 (.int .u32 (crc1 z.head x.toNat : Nat))) 14 (.int .i64 (C : Nat))) hk (.inl rfl) (fun h => ⟨h, rfl, rfl⟩)
  have HK := Lib.hid hk
  have hC9 : C < 1024 := by omega
  by_cases h0 : C = 0
  · subst h0
    have e : z.exBytes x = Z.named { z.hd x with cnt := 0 } := by unfold Z.exBytes; rw [if_pos (by omega)]
    rw [e]
    have CO := Lib.hid (g_named hU hd hzn.fl)
    generalize crc1 z.head x.toNat = V at *
    clear h hg1 hk1 hk e hU hC hG
    go_enter Tryd.func39, Tryd.ntmps39
    go_wp2_with (first
      | (go_at_call 15; go_must (refine CS.out.mono ?_); rintro en wc ⟨rfl, rfl⟩)
      | (go_at_call 32; go_must (refine CO.out.mono ?_); rintro en w2 hg2; obtain ⟨rfl, hg2⟩ := hg2; have HG2 := Lib.hid hg2; clear hg2))
    refine bodyPost_end (results_none rfl _ _ _) rfl ?_
    exact ⟨rfl, HG2.out.1, (kpa HK.out ab_all).trans HG2.out.2⟩
  · have e : z.exBytes x = { z.hd x with cnt := C } := by unfold Z.exBytes; rw [if_neg (by omega), hC]; rfl
    rw [e]
    have i1 : ((C : Int) == 0) = false := W.eqF (by omega)
    have HU := Lib.hid hU
    generalize crc1 z.head x.toNat = V at *
    clear h hg1 hk1 hk e hU hC hG
    go_enter Tryd.func39, Tryd.ntmps39
    go_wp2_with (first
      | (go_at_call 15; go_must (refine CS.out.mono ?_); rintro en wc ⟨rfl, rfl⟩))
    refine bodyPost_end (results_none rfl _ _ _) rfl ?_
    exact ⟨rfl, HU.out, kpa HK.out ab_all⟩
set_option maxHeartbeats 2000000 in
set_option maxRecDepth 100000 in
theorem g_comB (h : GM w a z) (hzn : Zn z) (hd : z.data = false) (hn : z.cnt ≤ 256) (x : Int) (hx : Bt x) (hG : Gq w) : Calls Tryd.prog 49 #[.pointer (some ⟨a.b, 0, none⟩), .int .u8 x] w (GA w a (z.comB x)) := by
  have c15 := h.cs (i := 15) rfl
  have c14 := h.cs (i := 14) rfl
  have c9 := h.cs (i := 9) rfl
  have hlt := h.lt
  have fz := h.fz
  have CS := Lib.hid (c_crc z.head x w hzn.head hx hG)
  obtain ⟨hg1, hk1⟩ := hd_upd h x
  have HK1 := Lib.hid hk1
  by_cases h0 : x = 0
  · have e : z.comB x = Z.summed (z.hd x) := by unfold Z.comB; rw [if_pos h0]
    rw [e]
    have CO := Lib.hid (g_summed hg1 hd hzn.fl)
    generalize crc1 z.head x.toNat = V at *
    clear h hg1 hk1 e hG
    subst h0
    go_enter Tryd.func49, Tryd.ntmps49
    go_wp2_with (first
      | (go_at_call 15; go_must (refine CS.out.mono ?_); rintro en wc ⟨rfl, rfl⟩)
      | (go_at_call 48; go_must (refine CO.out.mono ?_); rintro en w2 hg2; obtain ⟨rfl, hg2⟩ := hg2; have HG2 := Lib.hid hg2; clear hg2))
    refine bodyPost_end (results_none rfl _ _ _) rfl ?_
    exact ⟨rfl, HG2.out.1, (kpa HK1.out ab_all).trans HG2.out.2⟩
  · have i0 : (x == 0) = false := W.eqF h0
    by_cases h9 : z.cnt = 256
    · have e : z.comB x = Z.stop (z.hd x) 46 := by unfold Z.comB; rw [if_neg h0, if_pos h9]
      rw [e]
      obtain ⟨h4, hk4⟩ := stop_upd hg1 46
      have HU := Lib.hid h4
      have HK4 := Lib.hid hk4
      have i1 : ((z.cnt : Int) == 256) = true := W.eqT (by omega)
      generalize crc1 z.head x.toNat = V at *
      generalize z.cnt = C at *
      clear h hg1 hk1 e hG h4 hk4
      go_enter Tryd.func49, Tryd.ntmps49
      go_wp2_with (first
        | (go_at_call 15; go_must (refine CS.out.mono ?_); rintro en wc ⟨rfl, rfl⟩))
      refine bodyPost_end (results_none rfl _ _ _) rfl ?_
      exact ⟨rfl, HU.out, kpa (HK1.out.trans HK4.out) ab_all⟩
    · have e : z.comB x = { z.hd x with cnt := z.cnt + 1 } := by unfold Z.comB; rw [if_neg h0, if_neg h9]
      rw [e]
      have hk : Kp [a.b] w ((w.setCell ⟨a.b, 15, none⟩ (.int .u32 (crc1 z.head x.toNat : Nat))).setCell ⟨a.b, 14, none⟩ (.int .i64 ((z.cnt : Int) + 1))) := hk1.trans (kpb (by simp) _ _)
      have hU : GM ((w.setCell ⟨a.b, 15, none⟩ (.int .u32 (crc1 z.head x.toNat : Nat))).setCell ⟨a.b, 14, none⟩ (.int .i64 ((z.cnt : Int) + 1))) a { z.hd x with cnt := z.cnt + 1 } := h.upd (setZ (setZ h.cells 15 (.int .u32 (crc1 z.head x.toNat : Nat))) 14 (.int .i64 ((z.cnt : Int) + 1))) hk (.inl rfl) (fun h => ⟨h, rfl, rfl⟩)
      have HK := Lib.hid hk
      have HU := Lib.hid hU
      have i1 : ((z.cnt : Int) == 256) = false := W.eqF (by omega)
      generalize crc1 z.head x.toNat = V at *
      generalize z.cnt = C at *
      clear h hg1 hk1 e hG hU hk
      go_enter Tryd.func49, Tryd.ntmps49
      go_wp2_with (first
        | (go_at_call 15; go_must (refine CS.out.mono ?_); rintro en wc ⟨rfl, rfl⟩))
      refine bodyPost_end (results_none rfl _ _ _) rfl ?_
      exact ⟨rfl, HU.out, kpa HK.out ab_all⟩
set_option maxHeartbeats 2000000 in
set_option maxRecDepth 100000 in
theorem g_nameB (h : GM w a z) (hzn : Zn z) (hd : z.data = false) (x : Int) (hx : Bt x) (hG : Gq w) : Calls Tryd.prog 38 #[.pointer (some ⟨a.b, 0, none⟩), .int .u8 x] w (GA w a (z.nameB x)) := by
  have c15 := h.cs (i := 15) rfl
  have c19 := h.cs (i := 19) rfl
  have c9 := h.cs (i := 9) rfl
  have hlt := h.lt
  have fz := h.fz
  have hnm := hzn.nm
  have CS := Lib.hid (c_crc z.head x w hzn.head hx hG)
  obtain ⟨hg1, hk1⟩ := hd_upd h x
  have HK1 := Lib.hid hk1
  by_cases h0 : x = 0
  · have e : z.nameB x = Z.commented (z.hd x) := by unfold Z.nameB; rw [if_pos h0]
    rw [e]
    have CO := Lib.hid (g_commented hg1 hd hzn.fl)
    generalize crc1 z.head x.toNat = V at *
    clear h hg1 hk1 e hG
    subst h0
    go_enter Tryd.func38, Tryd.ntmps38
    go_wp2_with (first
      | (go_at_call 15; go_must (refine CS.out.mono ?_); rintro en wc ⟨rfl, rfl⟩)
      | (go_at_call 37; go_must (refine CO.out.mono ?_); rintro en w2 hg2; obtain ⟨rfl, hg2⟩ := hg2; have HG2 := Lib.hid hg2; clear hg2))
    refine bodyPost_end (results_none rfl _ _ _) rfl ?_
    exact ⟨rfl, HG2.out.1, (kpa HK1.out ab_all).trans HG2.out.2⟩
  · have i0 : (x == 0) = false := W.eqF h0
    by_cases h9 : z.nm.length = 256
    · have e : z.nameB x = Z.stop (z.hd x) 46 := by unfold Z.nameB; rw [if_neg h0, if_pos h9]
      rw [e]
      obtain ⟨h4, hk4⟩ := stop_upd hg1 46
      have HU := Lib.hid h4
      have HK4 := Lib.hid hk4
      have i1 : ((z.nm.length : Int) == 256) = true := W.eqT (by omega)
      generalize crc1 z.head x.toNat = V at *
      generalize z.nm.length = C at *
      clear h hg1 hk1 e hG h4 hk4
      go_enter Tryd.func38, Tryd.ntmps38
      go_wp2_with (first
        | (go_at_call 15; go_must (refine CS.out.mono ?_); rintro en wc ⟨rfl, rfl⟩))
      refine bodyPost_end (results_none rfl _ _ _) rfl ?_
      exact ⟨rfl, HU.out, kpa (HK1.out.trans HK4.out) ab_all⟩
    · have e : z.nameB x = { z.hd x with nm := z.nm ++ [x] } := by unfold Z.nameB; rw [if_neg h0, if_neg h9]
      rw [e]
      have i1 : ((z.nm.length : Int) == 256) = false := W.eqF (by omega)
      have H1 := Lib.hid hg1
      have HNE := Lib.hid (Ad.sep h.ne)
      obtain ⟨ti, hti, hts⟩ : ∃ ti, Tryd.prog.info? 5 = some ti ∧ ti.size = 1 := by
        obtain ⟨ti, h2, h3⟩ := Option.map_eq_some_iff.1 (show (Tryd.prog.info? 5).map (fun i => i.size) = some 1 by kernel_rfl)
        exact ⟨ti, h2, h3⟩
      obtain ⟨C, hC⟩ : ∃ C, z.nm.length = C := ⟨_, rfl⟩
      have HC := Lib.hid hC
      rw [hC] at c19 i1 hnm
      have hroom : C + 1 ≤ 256 := by omega
      have HNR := Lib.hid (show World.ownsRow (w.setCell ⟨a.b, 15, none⟩ (.int .u32 (crc1 z.head x.toNat : Nat))) 0 5 1 (.slice (some ⟨a.nb, 0, none⟩) C 256) C (u8s z.nm) from by rw [← hC]; exact hg1.name)
      generalize crc1 z.head x.toNat = V at *
      clear h hg1 hk1 e hG hC
      go_enter Tryd.func38, Tryd.ntmps38
      go_upto_region 1 with (first
        | (go_at_call 15; go_must (refine CS.out.mono ?_); rintro en wc ⟨rfl, rfl⟩))
      generalize hw1 : w.setCell ⟨a.b, 15, none⟩ (.int .u32 (V : Nat)) = w1 at *
      have d19 := H1.out.cs (i := 19) rfl
      rw [show (z.hd x).nm.length = C from HC.out] at d19
      have fz1 := H1.out.fz
      have hlt1 := H1.out.lt
      go_wp2_with (at_builtin; go_must (refine wpList_append_fits _ rfl (.tmp 17) (.tmp 19) 34 rfl 0 5 ti 1 el8.under hti hts a.nb C 256 (u8s z.nm) rfl (HNR.out.alloc _) ⟨w1.heap.size, 0, none⟩ 1 1 [.int .u8 x] rfl rfl (news_at rfl _ _) (by intro u hu; simp at hu; subst hu; rfl) hroom ?_); intro wb hown hgrow; have HOB := Lib.hid hown; have hkb : Kp [a.nb] w1 wb := ((Kp.refl [a.nb] w1).alloc _).grown hgrow (fun k hk => .inl (by simp; exact (Option.some.inj hk).symm)); have HKB := Lib.hid hkb; have hcb := (hkb.block a.b hlt1 (by simp; exact HNE.out.1)).trans H1.out.cells; have HCB := Lib.hid hcb; have b19 : wb.cell? ⟨a.b, 19, none⟩ = some (.slice (some ⟨a.nb, 0, none⟩) C 256) := (World.cell?_of_block (a := ⟨a.b, 19, none⟩) (hkb.block a.b hlt1 (by simp; exact HNE.out.1))).trans d19; have fzb := fun i => frozen_of_row wb a.b i _ _ hcb; have hltb : a.b < wb.heap.size := Nat.lt_of_lt_of_le hlt1 hkb.size; clear hown hgrow hcb hkb)
      refine bodyPost_end (results_none rfl _ _ _) rfl ?_
      have hk5 : Kp [a.b] wb (wb.setCell ⟨a.b, 19, none⟩ (.slice (some ⟨a.nb, 0, none⟩) (C + 1) 256)) := kpb (by simp) _ _
      have hk6 : Kp [a.b, a.nb] w1 (wb.setCell ⟨a.b, 19, none⟩ (.slice (some ⟨a.nb, 0, none⟩) (C + 1) 256)) := (HKB.out.mono (fun k hk => .inl (by rw [List.mem_singleton.1 hk]; simp))).trans (hk5.mono (fun k hk => .inl (by rw [List.mem_singleton.1 hk]; simp)))
      have hi6 : ∀ k ∈ [a.d, a.r, a.p, a.q, a.g], k ∉ [a.b, a.nb] := fun k hm h2 => by
        simp only [List.mem_cons, List.not_mem_nil, or_false] at h2
        rcases h2 with h2 | h2
        · exact (HNE.out.2 k hm).1 h2
        · exact (HNE.out.2 k hm).2 h2
      have hcl : (z.nm ++ [x]).length = C + 1 := by rw [List.length_append, HC.out]; rfl
      refine ⟨rfl, ⟨?_, ?_, fun h => (by rw [show ({ z.hd x with nm := z.nm ++ [x] } : Z).data = z.data from rfl, hd] at h; cases h), ?_, H1.out.ne⟩, (kpa HK1.out ab_all).trans (kpa hk6 (fun k hk => by simp at hk; rcases hk with rfl | rfl <;> simp [Ad.all]))⟩
      · have h9 := setZ HCB.out 19 (.slice (some ⟨a.nb, 0, none⟩) (C + 1) 256)
        rw [← hcl] at h9 ⊢
        exact h9
      · show World.ownsRow _ 0 _ 1 (.slice (some ⟨a.nb, 0, none⟩) (z.nm ++ [x]).length 256) (z.nm ++ [x]).length (u8s (z.nm ++ [x]))
        rw [hcl, u8s_append]
        exact own_kp HOB.out hk5 (fun h2 => HNE.out.1 (List.mem_singleton.1 h2).symm)
      · obtain ⟨m, out, bs, rdy, o, hr, hok⟩ := H1.out.raw
        exact ⟨m, out, bs, rdy, o, hr.row2 hk6 H1.out.tn2 hi6, hok⟩
end
end Go.Proofs.YtjjcemdoefigkaaDoor.Hf
