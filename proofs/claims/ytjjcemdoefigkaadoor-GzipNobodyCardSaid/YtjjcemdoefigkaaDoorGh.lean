/- The walker's steps: each byte of the header, of what is deflated, of the sums. -/
import Derived.Test.YtjjcemdoefigkaaDoorGg
import Derived.OwnWalk
namespace Go.Proofs.YtjjcemdoefigkaaDoor.Hf
set_option linter.unusedVariables false
set_option linter.unusedSimpArgs false
open Go.RowKit Go.Proofs.YtjjcemdoefigkaaDoor.W

section
variable {w w' : World} {a : Ad} {st st' : Value} {z z' : Z}
theorem gp_str {a : Ad} : gpV a .fixed = .func (Fn.func 22) #[.pointer (some ⟨a.b, 0, none⟩)] #[] := rfl
theorem stop_upd (h : GMv w a st z) (y : Nat) : GMv (w.setCell ⟨a.b, 9, none⟩ (.int .i64 (y : Nat))) a st (z.stop y) ∧ Kp [a.b] w (w.setCell ⟨a.b, 9, none⟩ (.int .i64 (y : Nat))) :=
  ⟨h.upd (setZ h.cells 9 (.int .i64 (y : Nat))) (kpb (by simp) _ _) (.inl rfl) (fun h => ⟨h, rfl, rfl⟩), kpb (by simp) _ _⟩
theorem hd_upd (h : GMv w a st z) (x : Int) : GMv (w.setCell ⟨a.b, 15, none⟩ (.int .u32 (crc1 z.head x.toNat : Nat))) a st (z.hd x) ∧ Kp [a.b] w (w.setCell ⟨a.b, 15, none⟩ (.int .u32 (crc1 z.head x.toNat : Nat))) :=
  ⟨h.upd (setZ h.cells 15 (.int .u32 (crc1 z.head x.toNat : Nat))) (kpb (by simp) _ _) (.inl rfl) (fun h => ⟨h, rfl, rfl⟩), kpb (by simp) _ _⟩
set_option maxHeartbeats 2000000 in
set_option maxRecDepth 100000 in
theorem g_first (h : GM w a z) (hp : z.ph = .first) (x : Int) (hx : Bt x) (hG : Gq w) (hqb : 0 ≠ a.b) : Calls Tryd.prog 13 #[.pointer (some ⟨a.b, 0, none⟩), .int .u8 x] w (GA w a (z.first x)) := by
  have c0 := h.cs (i := 0) rfl
  have c9 := h.cs (i := 9) rfl
  have c11 := h.cs (i := 11) rfl
  have c13 := h.cs (i := 13) rfl
  have c15 := h.cs (i := 15) rfl
  have hlt := h.lt
  have fz := h.fz
  have H := Lib.hid h
  by_cases h31 : x = 31
  · subst h31
    have e : z.first 31 = { z with between := false, head := crc1 0 (31 : Int).toNat, ph := .fixed, n := 1 } := by unfold Z.first; rw [if_pos rfl]
    rw [e]
    have hk : Kp [a.b] w ((((w.setCell ⟨a.b, 11, none⟩ (.bool false)).setCell ⟨a.b, 15, none⟩ (.int .u32 (crc1 0 (31 : Int).toNat : Nat))).setCell ⟨a.b, 0, none⟩ (gpV a .fixed)).setCell ⟨a.b, 13, none⟩ (.int .i64 1)) := (((kpb (by simp) _ _).trans (kpb (by simp) _ _)).trans (kpb (by simp) _ _)).trans (kpb (by simp) _ _)
    have HU := Lib.hid (show GM _ a { z with between := false, head := crc1 0 (31 : Int).toNat, ph := .fixed, n := 1 } from h.upd (setZ (setZ (setZ (setZ h.cells 11 (.bool false)) 15 (.int .u32 (crc1 0 (31 : Int).toNat : Nat))) 0 (gpV a .fixed)) 13 (.int .i64 1)) hk (.inl rfl) (fun h => ⟨h, rfl, rfl⟩))
    have HK := Lib.hid hk
    have CS := Lib.hid (c_crc 0 31 (w.setCell ⟨a.b, 11, none⟩ (.bool false)) (by omega) hx (fun i v hv => (World.cell?_setCell_other w ⟨a.b, 11, none⟩ ⟨0, i, none⟩ _ (fun e => hqb (congrArg Addr.block e).symm)).trans (hG i v hv)))
    generalize crc1 0 (31 : Int).toNat = V at *
    have hst := store_fn (w := (w.setCell ⟨a.b, 11, none⟩ (.bool false)).setCell ⟨a.b, 15, none⟩ (.int .u32 (V : Nat))) (d := a.b) (i := 0) (fn := gpF .fixed) (v := .pointer (some ⟨a.b, 0, none⟩)) (v0 := gpV a z.ph) (by
      have h9 := setZ (setZ h.cells 11 (.bool false)) 15 (.int .u32 (V : Nat))
      rw [cell_of_row _ a.b 0 _ _ _ h9]; rfl) (frozen_of_row _ a.b 0 _ _ (setZ (setZ h.cells 11 (.bool false)) 15 (.int .u32 (V : Nat))))
    rw [show gpF .fixed = 22 from rfl] at hst
    clear h hk hG
    go_enter Tryd.func13, Tryd.ntmps13
    go_wp2_with (first
      | (go_at_call 15; go_must (refine CS.out.mono ?_); rintro en wc ⟨rfl, rfl⟩))
    refine bodyPost_end (results_none rfl _ _ _) rfl ?_
    exact ⟨rfl, HU.out, kpa HK.out ab_all⟩
  · have i31 : (x == 31) = false := W.eqF h31
    cases hbt : z.between with
    | false =>
      have e : z.first x = z.stop 40 := by unfold Z.first; rw [if_neg h31, if_pos hbt]
      rw [e]
      rw [hbt] at c11
      have HU := Lib.hid (stop_upd h 40)
      clear h
      go_enter Tryd.func13, Tryd.ntmps13
      go_wp2_with (fail)
      refine bodyPost_end (results_none rfl _ _ _) rfl ?_
      exact ⟨rfl, HU.out.1, kpa HU.out.2 ab_all⟩
    | true =>
      rw [hbt] at c11
      by_cases h0 : x = 0
      · subst h0
        have e : z.first 0 = { z with ph := .nought } := by unfold Z.first; rw [if_neg h31, if_neg (by rw [hbt]; simp), if_pos rfl]
        rw [e]
        have hk2 := kpb (a := a) (w := w) (by simp) 0 (gpV a .nought)
        have HU := Lib.hid (show GM _ a { z with ph := .nought } from h.upd (setZ h.cells 0 (gpV a .nought)) hk2 (.inl rfl) (fun h => ⟨h, rfl, rfl⟩))
        have HK := Lib.hid hk2
        have hst := store_fn (fn := gpF .nought) (v := .pointer (some ⟨a.b, 0, none⟩)) c0 (fz 0)
        rw [show gpF .nought = 23 from rfl] at hst
        clear h hk2
        go_enter Tryd.func13, Tryd.ntmps13
        go_wp2_with (fail)
        refine bodyPost_end (results_none rfl _ _ _) rfl ?_
        exact ⟨rfl, HU.out, kpa HK.out ab_all⟩
      · have i0 : (x == 0) = false := W.eqF h0
        have e : z.first x = z.stop 47 := by unfold Z.first; rw [if_neg h31, if_neg (by rw [hbt]; simp), if_neg h0]
        rw [e]
        have HU := Lib.hid (stop_upd h 47)
        clear h
        go_enter Tryd.func13, Tryd.ntmps13
        go_wp2_with (fail)
        refine bodyPost_end (results_none rfl _ _ _) rfl ?_
        exact ⟨rfl, HU.out.1, kpa HU.out.2 ab_all⟩
set_option maxHeartbeats 2000000 in
set_option maxRecDepth 100000 in
theorem g_nought (h : GM w a z) (x : Int) : Calls Tryd.prog 23 #[.pointer (some ⟨a.b, 0, none⟩), .int .u8 x] w (GA w a (z.nought x)) := by
  have c9 := h.cs (i := 9) rfl
  have hlt := h.lt
  have fz := h.fz
  by_cases h0 : x = 0
  · subst h0
    have e : z.nought 0 = z := by unfold Z.nought; rw [if_pos rfl]
    rw [e]
    have H := Lib.hid h
    clear h
    go_enter Tryd.func23, Tryd.ntmps23
    go_wp2_with (fail)
    refine bodyPost_end (results_none rfl _ _ _) rfl ?_
    exact ⟨rfl, H.out, Kp.refl _ _⟩
  · have i0 : (x == 0) = false := W.eqF h0
    have i1 : (x != 0) = true := W.neT h0
    have e : z.nought x = z.stop 47 := by unfold Z.nought; rw [if_neg h0]
    rw [e]
    have HU := Lib.hid (stop_upd h 47)
    clear h
    go_enter Tryd.func23, Tryd.ntmps23
    go_wp2_with (fail)
    refine bodyPost_end (results_none rfl _ _ _) rfl ?_
    exact ⟨rfl, HU.out.1, kpa HU.out.2 ab_all⟩
end
end Go.Proofs.YtjjcemdoefigkaaDoor.Hf
