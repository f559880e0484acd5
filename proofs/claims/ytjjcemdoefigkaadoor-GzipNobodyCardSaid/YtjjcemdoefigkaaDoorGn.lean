/- The walker's Reset. -/
import Derived.Test.YtjjcemdoefigkaaDoorGm
namespace Go.Proofs.YtjjcemdoefigkaaDoor.Hf
set_option linter.unusedVariables false
set_option linter.unusedSimpArgs false
open Go.RowKit Go.Proofs.YtjjcemdoefigkaaDoor.W

section
variable {w w' : World} {a : Ad} {st st' : Value} {z z' : Z}
def zR (n : List Int) : Z := { z0 with nm := n }
theorem clear_upd (H : Hid (GMv w a st z)) (N : Nat) (hN : z.nm.length = N) : GMv ((((((((((((((((((((w.setCell ⟨a.b, 0, none⟩ .nilFunc).setCell ⟨a.b, 1, none⟩ (.pointer (some ⟨a.d, 0, none⟩))).setCell ⟨a.b, 2, none⟩ (.int .i64 0)).setCell ⟨a.b, 3, none⟩ (.int .u8 0)).setCell ⟨a.b, 4, none⟩ (.int .i64 0)).setCell ⟨a.b, 5, none⟩ (.int .i64 0)).setCell ⟨a.b, 6, none⟩ (.string ⟨#[]⟩)).setCell ⟨a.b, 7, none⟩ (.bool false)).setCell ⟨a.b, 8, none⟩ (.bool false)).setCell ⟨a.b, 9, none⟩ (.int .i64 0)).setCell ⟨a.b, 10, none⟩ (.bool false)).setCell ⟨a.b, 11, none⟩ (.bool false)).setCell ⟨a.b, 12, none⟩ (.int .u8 0)).setCell ⟨a.b, 13, none⟩ (.int .i64 0)).setCell ⟨a.b, 14, none⟩ (.int .i64 0)).setCell ⟨a.b, 15, none⟩ (.int .u32 0)).setCell ⟨a.b, 16, none⟩ (.int .u32 0)).setCell ⟨a.b, 17, none⟩ (.int .u32 0)).setCell ⟨a.b, 18, none⟩ (.int .u32 0)).setCell ⟨a.b, 19, none⟩ (.slice (some ⟨a.nb, 0, none⟩) N 256)) a .nilFunc (zR z.nm) ∧ Kp [a.b] w ((((((((((((((((((((w.setCell ⟨a.b, 0, none⟩ .nilFunc).setCell ⟨a.b, 1, none⟩ (.pointer (some ⟨a.d, 0, none⟩))).setCell ⟨a.b, 2, none⟩ (.int .i64 0)).setCell ⟨a.b, 3, none⟩ (.int .u8 0)).setCell ⟨a.b, 4, none⟩ (.int .i64 0)).setCell ⟨a.b, 5, none⟩ (.int .i64 0)).setCell ⟨a.b, 6, none⟩ (.string ⟨#[]⟩)).setCell ⟨a.b, 7, none⟩ (.bool false)).setCell ⟨a.b, 8, none⟩ (.bool false)).setCell ⟨a.b, 9, none⟩ (.int .i64 0)).setCell ⟨a.b, 10, none⟩ (.bool false)).setCell ⟨a.b, 11, none⟩ (.bool false)).setCell ⟨a.b, 12, none⟩ (.int .u8 0)).setCell ⟨a.b, 13, none⟩ (.int .i64 0)).setCell ⟨a.b, 14, none⟩ (.int .i64 0)).setCell ⟨a.b, 15, none⟩ (.int .u32 0)).setCell ⟨a.b, 16, none⟩ (.int .u32 0)).setCell ⟨a.b, 17, none⟩ (.int .u32 0)).setCell ⟨a.b, 18, none⟩ (.int .u32 0)).setCell ⟨a.b, 19, none⟩ (.slice (some ⟨a.nb, 0, none⟩) N 256)) := by
  subst hN
  have hk : Kp [a.b] w ((((((((((((((((((((w.setCell ⟨a.b, 0, none⟩ .nilFunc).setCell ⟨a.b, 1, none⟩ (.pointer (some ⟨a.d, 0, none⟩))).setCell ⟨a.b, 2, none⟩ (.int .i64 0)).setCell ⟨a.b, 3, none⟩ (.int .u8 0)).setCell ⟨a.b, 4, none⟩ (.int .i64 0)).setCell ⟨a.b, 5, none⟩ (.int .i64 0)).setCell ⟨a.b, 6, none⟩ (.string ⟨#[]⟩)).setCell ⟨a.b, 7, none⟩ (.bool false)).setCell ⟨a.b, 8, none⟩ (.bool false)).setCell ⟨a.b, 9, none⟩ (.int .i64 0)).setCell ⟨a.b, 10, none⟩ (.bool false)).setCell ⟨a.b, 11, none⟩ (.bool false)).setCell ⟨a.b, 12, none⟩ (.int .u8 0)).setCell ⟨a.b, 13, none⟩ (.int .i64 0)).setCell ⟨a.b, 14, none⟩ (.int .i64 0)).setCell ⟨a.b, 15, none⟩ (.int .u32 0)).setCell ⟨a.b, 16, none⟩ (.int .u32 0)).setCell ⟨a.b, 17, none⟩ (.int .u32 0)).setCell ⟨a.b, 18, none⟩ (.int .u32 0)).setCell ⟨a.b, 19, none⟩ (.slice (some ⟨a.nb, 0, none⟩) z.nm.length 256)) := ((((((((((((((((((((kpb (by simp) _ _).trans (kpb (by simp) _ _)).trans (kpb (by simp) _ _)).trans (kpb (by simp) _ _)).trans (kpb (by simp) _ _)).trans (kpb (by simp) _ _)).trans (kpb (by simp) _ _)).trans (kpb (by simp) _ _)).trans (kpb (by simp) _ _)).trans (kpb (by simp) _ _)).trans (kpb (by simp) _ _)).trans (kpb (by simp) _ _)).trans (kpb (by simp) _ _)).trans (kpb (by simp) _ _)).trans (kpb (by simp) _ _)).trans (kpb (by simp) _ _)).trans (kpb (by simp) _ _)).trans (kpb (by simp) _ _)).trans (kpb (by simp) _ _)).trans (kpb (by simp) _ _))
  have e : (((((((((((((((((((((z.cells a st).set 0 .nilFunc).set 1 (.pointer (some ⟨a.d, 0, none⟩))).set 2 (.int .i64 0)).set 3 (.int .u8 0)).set 4 (.int .i64 0)).set 5 (.int .i64 0)).set 6 (.string ⟨#[]⟩)).set 7 (.bool false)).set 8 (.bool false)).set 9 (.int .i64 0)).set 10 (.bool false)).set 11 (.bool false)).set 12 (.int .u8 0)).set 13 (.int .i64 0)).set 14 (.int .i64 0)).set 15 (.int .u32 0)).set 16 (.int .u32 0)).set 17 (.int .u32 0)).set 18 (.int .u32 0)).set 19 (.slice (some ⟨a.nb, 0, none⟩) z.nm.length 256)) = (zR z.nm).cells a .nilFunc := by
    simp only [Z.cells, List.set_cons_zero, List.set_cons_succ]
    rfl
  have hc := (setZ (setZ (setZ (setZ (setZ (setZ (setZ (setZ (setZ (setZ (setZ (setZ (setZ (setZ (setZ (setZ (setZ (setZ (setZ (setZ H.out.cells 0 .nilFunc) 1 (.pointer (some ⟨a.d, 0, none⟩))) 2 (.int .i64 0)) 3 (.int .u8 0)) 4 (.int .i64 0)) 5 (.int .i64 0)) 6 (.string ⟨#[]⟩)) 7 (.bool false)) 8 (.bool false)) 9 (.int .i64 0)) 10 (.bool false)) 11 (.bool false)) 12 (.int .u8 0)) 13 (.int .i64 0)) 14 (.int .i64 0)) 15 (.int .u32 0)) 16 (.int .u32 0)) 17 (.int .u32 0)) 18 (.int .u32 0)) 19 (.slice (some ⟨a.nb, 0, none⟩) z.nm.length 256))
  rw [e] at hc
  exact ⟨H.out.upd hc hk (.inl rfl) (fun h => by cases h), hk⟩
set_option maxHeartbeats 2000000 in
set_option maxRecDepth 100000 in
theorem g_reset (h : GMv w a st z) : Calls Tryd.prog 5 #[.pointer (some ⟨a.b, 0, none⟩)] w (GA w a z0) := by
  have hq : ∀ n, GMv (w.drewN n) a st z := fun n => h.keep ((Kp.refl _ _).drewN _)
  have H := Lib.hid h
  have hlt := h.lt
  have h256 := u256 h
  obtain ⟨N, hN⟩ : ∃ N, z.nm.length = N := ⟨_, rfl⟩
  have c1 := h.cs (i := 1) rfl
  have c19 := h.cs (i := 19) rfl
  rw [hN] at c19 h256
  have HN := Lib.hid hN
  have HQ := Lib.hid hq
  clear h hq hN
  go_enter Tryd.func5, Tryd.ntmps5
  go_upto_region 1 with (fail)
  go_quiet (fail)
  have HW := Lib.hid (HQ.out nq)
  have HKD := Lib.hid (show Kp a.all w (w.drewN nq) from (Kp.refl _ _).drewN _)
  generalize w.drewN nq = w1 at *
  have fz := HW.out.fz
  have hlt1 := HW.out.lt
  obtain ⟨hU, hk⟩ := clear_upd HW N HN.out
  have HB := Lib.hid (g_begin hU)
  have HK := Lib.hid hk
  have HTH := Lib.hid (show w1.there a.b 0 20 from fun j hj => ⟨by
    obtain ⟨v, hv⟩ : ∃ v, (z.cells a st)[j]? = some v := ⟨_, List.getElem?_eq_getElem hj⟩
    rw [Nat.zero_add, HW.out.cs hv]
    rfl, fz _⟩)
  have HI := Lib.hid (show (Tryd.prog.info? 36).map (·.size) = some 20 by kernel_rfl)
  clear hU hk c1 c19
  go_upto_region 2 with (fail)
  iterate 16 go_step
  refine wpList_store_mid rfl 36 (.tmp 18) (.tmp 17) rfl a.b 0 #[.nilFunc, .pointer (some ⟨a.d, 0, none⟩), .int .i64 0, .int .u8 0, .int .i64 0, .int .i64 0, .string ⟨#[]⟩, .bool false, .bool false, .int .i64 0, .bool false, .bool false, .int .u8 0, .int .i64 0, .int .i64 0, .int .u32 0, .int .u32 0, .int .u32 0, .int .u32 0, .slice (some ⟨a.nb, 0, none⟩) N 256] rfl rfl HTH.out HI.out (by simp [Value.oneCell']) ?_
  change wpList _ _ _ _ _ ((((((((((((((((((((w1.setCell ⟨a.b, 0, none⟩ .nilFunc).setCell ⟨a.b, 1, none⟩ (.pointer (some ⟨a.d, 0, none⟩))).setCell ⟨a.b, 2, none⟩ (.int .i64 0)).setCell ⟨a.b, 3, none⟩ (.int .u8 0)).setCell ⟨a.b, 4, none⟩ (.int .i64 0)).setCell ⟨a.b, 5, none⟩ (.int .i64 0)).setCell ⟨a.b, 6, none⟩ (.string ⟨#[]⟩)).setCell ⟨a.b, 7, none⟩ (.bool false)).setCell ⟨a.b, 8, none⟩ (.bool false)).setCell ⟨a.b, 9, none⟩ (.int .i64 0)).setCell ⟨a.b, 10, none⟩ (.bool false)).setCell ⟨a.b, 11, none⟩ (.bool false)).setCell ⟨a.b, 12, none⟩ (.int .u8 0)).setCell ⟨a.b, 13, none⟩ (.int .i64 0)).setCell ⟨a.b, 14, none⟩ (.int .i64 0)).setCell ⟨a.b, 15, none⟩ (.int .u32 0)).setCell ⟨a.b, 16, none⟩ (.int .u32 0)).setCell ⟨a.b, 17, none⟩ (.int .u32 0)).setCell ⟨a.b, 18, none⟩ (.int .u32 0)).setCell ⟨a.b, 19, none⟩ (.slice (some ⟨a.nb, 0, none⟩) N 256))
  generalize ((((((((((((((((((((w1.setCell ⟨a.b, 0, none⟩ .nilFunc).setCell ⟨a.b, 1, none⟩ (.pointer (some ⟨a.d, 0, none⟩))).setCell ⟨a.b, 2, none⟩ (.int .i64 0)).setCell ⟨a.b, 3, none⟩ (.int .u8 0)).setCell ⟨a.b, 4, none⟩ (.int .i64 0)).setCell ⟨a.b, 5, none⟩ (.int .i64 0)).setCell ⟨a.b, 6, none⟩ (.string ⟨#[]⟩)).setCell ⟨a.b, 7, none⟩ (.bool false)).setCell ⟨a.b, 8, none⟩ (.bool false)).setCell ⟨a.b, 9, none⟩ (.int .i64 0)).setCell ⟨a.b, 10, none⟩ (.bool false)).setCell ⟨a.b, 11, none⟩ (.bool false)).setCell ⟨a.b, 12, none⟩ (.int .u8 0)).setCell ⟨a.b, 13, none⟩ (.int .i64 0)).setCell ⟨a.b, 14, none⟩ (.int .i64 0)).setCell ⟨a.b, 15, none⟩ (.int .u32 0)).setCell ⟨a.b, 16, none⟩ (.int .u32 0)).setCell ⟨a.b, 17, none⟩ (.int .u32 0)).setCell ⟨a.b, 18, none⟩ (.int .u32 0)).setCell ⟨a.b, 19, none⟩ (.slice (some ⟨a.nb, 0, none⟩) N 256)) = w3 at *
  go_wp2_with (first
    | (go_at_call 10; go_must (refine HB.out.mono ?_); rintro en w2 hg2; obtain ⟨rfl, hg2, hk2⟩ := hg2; have HG2 := Lib.hid hg2; have HK2 := Lib.hid hk2; have e11 := hg2.cs (i := 11) rfl; have fz2 := hg2.fz; have hlt2 := hg2.lt; clear hg2 hk2))
  refine bodyPost_end (results_none rfl _ _ _) rfl ?_
  have hk3 : Kp [a.b] w2 (w2.setCell ⟨a.b, 11, none⟩ (.bool false)) := kpb (by simp) _ _
  refine ⟨rfl, ?_, HKD.out.trans (kpa ((HK.out.trans HK2.out).trans hk3) ab_all)⟩
  exact HG2.out.upd (z' := z0) (st' := gpV a .first) (setZ HG2.out.cells 11 (.bool false)) hk3 (.inr rfl) (fun h => by cases h)
end
end Go.Proofs.YtjjcemdoefigkaaDoor.Hf
