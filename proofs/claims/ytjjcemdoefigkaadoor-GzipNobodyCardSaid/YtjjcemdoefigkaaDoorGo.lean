/- The walker's making. -/
import Derived.Test.YtjjcemdoefigkaaDoorGn
namespace Go.Proofs.YtjjcemdoefigkaaDoor.Hf
set_option linter.unusedVariables false
set_option linter.unusedSimpArgs false
open Go.RowKit Go.Proofs.YtjjcemdoefigkaaDoor.W

def GNew (w : World) (e : Ending) (w' : World) : Prop := ∃ a : Ad, e = .returned (.pointer (some ⟨a.b, 0, none⟩)) ∧ GM w' a z0 ∧ Kp [] w w' ∧ ∀ k ∈ a.all, w.heap.size ≤ k
theorem name_made {w : World} {Y : Array Value} (hY : Y.size = 256) : (w.alloc (.cells Y 5)).ownsRow 0 5 1 (.slice (some ⟨w.heap.size, 0, none⟩) 0 256) 0 [] := World.ownsRow_made w Y 256 (Nat.zero_le _) (by unfold maxLen; omega) (by rw [hY])
theorem al_size (w : World) (o : Obj) : (w.alloc o).heap.size = w.heap.size + 1 := by simp
theorem new_gm {w w3 wA : World} {d r p q g nb : Nat} (hi : Inf w3 d r p q g m0 [] [] false 0) (hk : Kp [] w3 wA) (hn : wA.ownsRow 0 5 1 (.slice (some ⟨nb, 0, none⟩) 0 256) 0 []) (hnb : nb ∉ [d, r, p, q, g]) (hw : Kp [] w wA) (hge : ∀ k ∈ [d, r, p, q, g], w.heap.size ≤ k) (hgn : w.heap.size ≤ nb) :
    GMv (wA.alloc (.cells #[.nilFunc, .pointer (some ⟨d, 0, none⟩), .int .i64 0, .int .u8 0, .int .i64 0, .int .i64 0, .string ⟨#[]⟩, .bool false, .bool false, .int .i64 0, .bool false, .bool false, .int .u8 0, .int .i64 0, .int .i64 0, .int .u32 0, .int .u32 0, .int .u32 0, .int .u32 0, .slice (some ⟨nb, 0, none⟩) 0 256] 36)) ⟨wA.heap.size, nb, d, r, p, q, g⟩ .nilFunc z0 ∧ Kp [] w (wA.alloc (.cells #[.nilFunc, .pointer (some ⟨d, 0, none⟩), .int .i64 0, .int .u8 0, .int .i64 0, .int .i64 0, .string ⟨#[]⟩, .bool false, .bool false, .int .i64 0, .bool false, .bool false, .int .u8 0, .int .i64 0, .int .i64 0, .int .u32 0, .int .u32 0, .int .u32 0, .int .u32 0, .slice (some ⟨nb, 0, none⟩) 0 256] 36)) ∧ ∀ k ∈ (⟨wA.heap.size, nb, d, r, p, q, g⟩ : Ad).all, w.heap.size ≤ k := by
  have hka : Kp [] wA (wA.alloc (.cells #[.nilFunc, .pointer (some ⟨d, 0, none⟩), .int .i64 0, .int .u8 0, .int .i64 0, .int .i64 0, .string ⟨#[]⟩, .bool false, .bool false, .int .i64 0, .bool false, .bool false, .int .u8 0, .int .i64 0, .int .i64 0, .int .u32 0, .int .u32 0, .int .u32 0, .int .u32 0, .slice (some ⟨nb, 0, none⟩) 0 256] 36)) := (Kp.refl _ _).alloc _
  have hi2 := (hi.row' hk (fun k hk => by cases hk) (fun k _ hk => by cases hk)).row' hka (fun k hk => by cases hk) (fun k _ hk => by cases hk)
  have hlt := (hi.row' hk (fun k hk => by cases hk) (fun k _ hk => by cases hk)).lts
  have hnl := own_lt hn
  refine ⟨⟨heap_alloc_new wA _, own_kp hn hka (by simp), fun h => (by cases h), ⟨_, _, _, _, _, hi2, Ok.m0⟩, ?_⟩, hw.trans hka, ?_⟩
  · unfold Ad.all
    refine List.nodup_cons.2 ⟨fun hm => ?_, List.nodup_cons.2 ⟨hnb, hi.ne⟩⟩
    rcases List.mem_cons.1 hm with h | h
    · have h' : wA.heap.size = nb := h
      omega
    · have := hlt _ h
      have h' : wA.heap.size < wA.heap.size := this
      omega
  · intro k hk
    unfold Ad.all at hk
    rcases List.mem_cons.1 hk with h | h
    · rw [h]; exact hw.size
    · rcases List.mem_cons.1 h with h | h
      · rw [h]; exact hgn
      · exact hge k h
set_option maxHeartbeats 4000000 in
set_option maxRecDepth 100000 in
theorem g_new (w : World) : Calls Tryd.prog 21 #[] w (GNew w) := by
  have CI := Lib.hid (fun w1 => show Calls Tryd.prog 27 #[] w1 (fun e w' => ∃ d r p q g, e = .returned (.pointer (some ⟨d, 0, none⟩)) ∧ Inf w' d r p q g m0 [] [] false 0 ∧ Kp [] w1 w' ∧ ∀ k ∈ [d, r, p, q, g], w1.heap.size ≤ k) from c_inew w1)
  have hmk : ∀ wq : World, Sem.run Tryd.prog (Instr.makeSlice 34 (.int .i64 0) (.int .i64 256)) wq = .ok (.slice (some ⟨wq.heap.size, 0, none⟩) 0 256) (wq.alloc (.cells (madeCells (Value.int .u8 0).cells 256) 5)) := fun wq => run_mk el8 .i64 .i64 (n := 0) (c := 256) (by omega) (by omega) (by omega) wq
  have HZ := Lib.hid (show (madeCells (Value.int .u8 0).cells 256).size = 256 by rw [size_madeCells])
  generalize madeCells (Value.int .u8 0).cells 256 = Y at *
  go_enter Tryd.func21, Tryd.ntmps21
  go_upto_region 1 with (fail)
  go_cut [1] (fun s1 wz => ∃ a : Ad, s1 = .pointer (some ⟨a.b, 0, none⟩) ∧ GMv wz a .nilFunc z0 ∧ Kp [] w wz ∧ ∀ k ∈ a.all, w.heap.size ≤ k)
  case first =>
    go_region_with (first
      | (go_at_call 27; refine (CI.out _).mono ?_; rintro en w3 ⟨d, r, p, q, g, rfl, hi3, hk3, hge3⟩))
    · have hsz3 := hk3.size
      obtain ⟨hg, hkk, hge⟩ := new_gm hi3 ((Kp.refl [] w3).alloc (.cells Y 5)) (name_made HZ.out) (fun hm => by have := hi3.lts _ hm; omega) (w := w) ((((Kp.refl [] w).drew).trans hk3).trans ((Kp.refl [] w3).alloc (.cells Y 5))) hge3 hsz3
      rw [al_size] at hg hge
      have HG := Lib.hid hg
      have HKK := Lib.hid hkk
      have HGE := Lib.hid hge
      clear hg hkk hge hi3 hk3 hge3
      go_wp2
      go_meet
      exact ⟨⟨w3.heap.size + 1, w3.heap.size, d, r, p, q, g⟩, rfl, HG.out, HKK.out, HGE.out⟩
    · have hs0 : (w.alloc (.cells Y 5)).drew.heap.size = w.heap.size + 1 := al_size _ _
      have hk0 : Kp [] w (w.alloc (.cells Y 5)).drew := ((Kp.refl [] w).alloc _).drew
      rw [hs0] at hge3
      obtain ⟨hg, hkk, hge⟩ := new_gm hi3 (Kp.refl [] w3) (own_kp (name_made (w := w) HZ.out).drew hk3 (fun h => by cases h)) (fun hm => by have := hge3 _ hm; omega) (w := w) (hk0.trans hk3) (fun k hk => by have := hge3 k hk; omega) (Nat.le_refl _)
      have HG := Lib.hid hg
      have HKK := Lib.hid hkk
      have HGE := Lib.hid hge
      clear hg hkk hge hi3 hk3 hge3 hk0
      go_wp2
      go_meet
      exact ⟨⟨w3.heap.size, w.heap.size, d, r, p, q, g⟩, rfl, HG.out, HKK.out, HGE.out⟩
  case rest =>
    obtain ⟨a, rfl, hg, hk, hge⟩ := hcut
    have CR := Lib.hid (g_reset hg)
    have HK := Lib.hid hk
    have HGE := Lib.hid hge
    clear hg hk hge hmk
    go_wp2_with (first
      | (go_at_call 5; go_must (refine CR.out.mono ?_); rintro en w5 hg5; obtain ⟨rfl, hg5⟩ := hg5; have HG5 := Lib.hid hg5; clear hg5))
    go_ret
    exact ⟨a, rfl, HG5.out.1, ((HK.out.mono (T := a.all) (by simp)).trans HG5.out.2).mono (fun k hk => .inr (HGE.out k hk)), HGE.out⟩
end Go.Proofs.YtjjcemdoefigkaaDoor.Hf
