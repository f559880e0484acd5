/- The walker's methods: Next, Reset; New. -/
import Derived.Test.YtjjcemdoefigkaaDoorGl
namespace Go.Proofs.YtjjcemdoefigkaaDoor.Hf
set_option linter.unusedVariables false
set_option linter.unusedSimpArgs false
open Go.RowKit Go.Proofs.YtjjcemdoefigkaaDoor.W

theorem Zok.e0' {z : Z} (h : Zok z) : Zok { z with ev := ev0, has := false } := ⟨⟨h.zn.head, h.zn.fl, h.zn.nm, h.zn.nmb, h.zn.n, h.zn.cnt, h.zn.val, h.zn.olb⟩, h.ph, h.dt, h.pre, fun _ => rfl⟩
section
variable {w w' : World} {a : Ad} {st st' : Value} {z z' : Z}
set_option maxHeartbeats 2000000 in
set_option maxRecDepth 100000 in
theorem g_next_no (h : GM w a z) (hh : z.has = false) : Calls Tryd.prog 6 #[.pointer (some ⟨a.b, 0, none⟩)] w fun e w' => e = .returned (.tuple #[.agg #[.int .i64 0, .int .u8 0, .int .i64 0, .int .i64 0, .string ⟨#[]⟩], .bool false]) ∧ Kp [] w w' := by
  have c7 := h.cs (i := 7) rfl
  rw [hh] at c7
  have hlt := h.lt
  clear h hh
  go_enter Tryd.func6, Tryd.ntmps6
  go_wp2_with (fail)
  refine bodyPost_ret (v := .tuple #[.agg #[.int .i64 0, .int .u8 0, .int .i64 0, .int .i64 0, .string ⟨#[]⟩], .bool false]) (by simp [results, Tryd.results6, go_sem]) rfl ?_
  exact ⟨rfl, by repeat (first | exact Kp.refl _ _ | refine Kp.drewN ?_ _ | refine Kp.setCell ?_ (.inr (Nat.le_refl _)) _ | refine Kp.alloc ?_ _)⟩
set_option maxHeartbeats 2000000 in
set_option maxRecDepth 100000 in
theorem g_next (h : GM w a z) (hok : Zok z) (hG : Gg w a) (hh : z.has = true) : Calls Tryd.prog 6 #[.pointer (some ⟨a.b, 0, none⟩)] w fun e w' => e = .returned (.tuple #[evV z.ev, .bool true]) ∧ GM w' a z.next ∧ Kp a.all w w' := by
  have c2 := h.cs (i := 2) rfl
  have c3 := h.cs (i := 3) rfl
  have c4 := h.cs (i := 4) rfl
  have c5 := h.cs (i := 5) rfl
  have c6 := h.cs (i := 6) rfl
  have c7 := h.cs (i := 7) rfl
  rw [hh] at c7
  have hlt := h.lt
  have fz := h.fz
  have H := Lib.hid h
  have HOK := Lib.hid hok
  have HG := Lib.hid hG
  unfold evV
  generalize strOfNums z.ev.tx = tx at *
  generalize z.ev.by_ = eb at *
  generalize z.ev.kd = ek at *
  generalize z.ev.nd = en at *
  clear h hok hG hh
  go_enter Tryd.func6, Tryd.ntmps6
  go_upto_region 5 with (fail)
  have hk1 : Kp [a.b] w ((((((w.setCell ⟨a.b, 2, none⟩ (.int .i64 0)).setCell ⟨a.b, 3, none⟩ (.int .u8 0)).setCell ⟨a.b, 4, none⟩ (.int .i64 0)).setCell ⟨a.b, 5, none⟩ (.int .i64 0)).setCell ⟨a.b, 6, none⟩ (.string ⟨#[]⟩)).setCell ⟨a.b, 7, none⟩ (.bool false)) :=
    (((((kpb (by simp) _ _).trans (kpb (by simp) _ _)).trans (kpb (by simp) _ _)).trans (kpb (by simp) _ _)).trans (kpb (by simp) _ _)).trans (kpb (by simp) _ _)
  have hg1 : GM ((((((w.setCell ⟨a.b, 2, none⟩ (.int .i64 0)).setCell ⟨a.b, 3, none⟩ (.int .u8 0)).setCell ⟨a.b, 4, none⟩ (.int .i64 0)).setCell ⟨a.b, 5, none⟩ (.int .i64 0)).setCell ⟨a.b, 6, none⟩ (.string ⟨#[]⟩)).setCell ⟨a.b, 7, none⟩ (.bool false)) a { z with ev := ev0, has := false } :=
    H.out.upd (setZ (setZ (setZ (setZ (setZ (setZ H.out.cells 2 (.int .i64 0)) 3 (.int .u8 0)) 4 (.int .i64 0)) 5 (.int .i64 0)) 6 (.string ⟨#[]⟩)) 7 (.bool false)) hk1 (.inl rfl) (fun h => ⟨h, rfl, rfl⟩)
  generalize hw1 : (((((w.setCell ⟨a.b, 2, none⟩ (.int .i64 0)).setCell ⟨a.b, 3, none⟩ (.int .u8 0)).setCell ⟨a.b, 4, none⟩ (.int .i64 0)).setCell ⟨a.b, 5, none⟩ (.int .i64 0)).setCell ⟨a.b, 6, none⟩ (.string ⟨#[]⟩)).setCell ⟨a.b, 7, none⟩ (.bool false) = w1 at *
  have hsz : w1.heap.size = w.heap.size := by rw [← hw1]; simp [World.setCell]
  generalize hoo : Obj.cells #[.int .i64 0, .int .u8 0, .int .i64 0, .int .i64 0, .string ⟨#[]⟩] 24 (0, 0) = o1 at *
  generalize hoe : Obj.cells #[.int .i64 (ek : Nat), .int .u8 eb, .int .i64 (en : Nat), .int .i64 0, .string tx] 24 (0, 0) = o2 at *
  have hka : Kp [] w1 ((w1.alloc o1).alloc o2) := ((Kp.refl _ _).alloc _).alloc _
  have hk5 : Kp a.all w ((w1.alloc o1).alloc o2) := (kpa hk1 ab_all).trans (hka.mono (by simp))
  have CS := Lib.hid (g_settle (hg1.keep hka) (Zok.e0' HOK.out) (HG.out.kept hk5))
  have hN5 : ((w1.alloc o1).alloc o2).heap[w.heap.size]? = some o1 := by
    rw [← hsz]
    exact (Below.heap_alloc _ o2 w1.heap.size (by simp)).trans (heap_alloc_new w1 o1)
  have hM5 : ((w1.alloc o1).alloc o2).heap[w.heap.size + 1]? = some o2 := by
    have h9 := heap_alloc_new (w1.alloc o1) o2
    rw [show (w1.alloc o1).heap.size = w.heap.size + 1 by rw [← hsz]; simp] at h9
    exact h9
  have hs5 : ((w1.alloc o1).alloc o2).heap.size = w.heap.size + 2 := by rw [← hsz]; simp
  have hlts := H.out.lts
  have HK5 := Lib.hid hk5
  clear hk1 hg1 hw1 hka hk5 hsz
  generalize (w1.alloc o1).alloc o2 = w5 at *
  go_upto_region 6 with (first
    | (go_at_call 11; go_must (refine CS.out.mono ?_); rintro en w6 hg6; obtain ⟨rfl, hg6⟩ := hg6; have HG6 := Lib.hid hg6; clear hg6))
  have hN6 := (HG6.out.2.block w.heap.size (by omega) (fun hm => by have := hlts _ hm; omega)).trans hN5
  have hM6 := (HG6.out.2.block (w.heap.size + 1) (by omega) (fun hm => by have := hlts _ hm; omega)).trans hM5
  rw [← hoo] at hN6
  rw [← hoe] at hM6
  have n0 := cell_of_row w6 w.heap.size 0 _ _ _ hN6
  have n1 := cell_of_row w6 w.heap.size 1 _ _ _ hN6
  have n2 := cell_of_row w6 w.heap.size 2 _ _ _ hN6
  have n3 := cell_of_row w6 w.heap.size 3 _ _ _ hN6
  have n4 := cell_of_row w6 w.heap.size 4 _ _ _ hN6
  have nz : ∀ i, w6.frozen? ⟨w.heap.size, i, none⟩ = false := fun i => frozen_of_row w6 w.heap.size i _ _ hN6
  have m0 := cell_of_row w6 (w.heap.size + 1) 0 _ _ _ hM6
  have m1 := cell_of_row w6 (w.heap.size + 1) 1 _ _ _ hM6
  have m2 := cell_of_row w6 (w.heap.size + 1) 2 _ _ _ hM6
  have m3 := cell_of_row w6 (w.heap.size + 1) 3 _ _ _ hM6
  have m4 := cell_of_row w6 (w.heap.size + 1) 4 _ _ _ hM6
  simp only [List.getElem?_toArray, List.getElem?_cons_succ, List.getElem?_cons_zero] at n0 n1 n2 n3 n4 m0 m1 m2 m3 m4
  clear hN5 hM5 hoo hoe hM6
  go_wp2_with (fail)
  refine bodyPost_ret (v := .tuple #[.agg #[.int .i64 (ek : Nat), .int .u8 eb, .int .i64 (en : Nat), .int .i64 0, .string tx], .bool true]) (by simp [results, Tryd.results6, go_sem, n0, n1, n2, n3, n4]) rfl ?_
  have hkf : ∀ wz, Kp [w.heap.size] w6 wz → GM wz a z.next ∧ Kp a.all w wz := fun wz hk => by
    refine ⟨HG6.out.1.kept hk (fun k hm => by rw [List.mem_singleton.1 hm]; exact ⟨_, _, _, hN6, by decide⟩) (fun k hm h2 => by have := hlts _ hm; rw [List.mem_singleton.1 h2] at this; omega), ?_⟩
    have h9 : Kp (w.heap.size :: a.all) w wz := ((HK5.out.trans HG6.out.2).mono (fun k hk => .inl (List.mem_cons_of_mem _ hk))).trans (hk.mono (fun k hk => .inl (by rw [List.mem_singleton.1 hk]; exact List.mem_cons_self ..)))
    exact h9.mono (fun k hk => by
      rcases List.mem_cons.1 hk with h8 | h8
      · exact .inr (by omega)
      · exact .inl h8)
  exact ⟨rfl, hkf _ (by repeat (first | exact Kp.refl _ _ | refine Kp.drew ?_ | refine Kp.drewN ?_ _ | refine Kp.setCell ?_ (.inl (by simp)) _))⟩
/-- The walker is cleared. -/
theorem g_next_ev (h : GM w a z) (hok : Zok z) (hG : Gg w a) (hh : z.has = true) : Calls Tryd.prog 6 #[.pointer (some ⟨a.b, 0, none⟩)] w fun e w' => e = .returned (.tuple #[.agg #[.int .i64 (z.ev.kd : Nat), .int .u8 z.ev.by_, .int .i64 (z.ev.nd : Nat), .int .i64 0, .string (strOfNums z.ev.tx)], .bool true]) ∧ GM w' a z.next ∧ Kp a.all w w' := g_next h hok hG hh
end
end Go.Proofs.YtjjcemdoefigkaaDoor.Hf
