/- parts.New. -/
import Derived.Test.YtmalacamfjdimaaPi
namespace Go.Proofs.Ytmalacamfjdimaa.Pt
open Go.RowKit Go.Proofs.Ytmalacamfjdimaa.W

theorem ev_make (w : World) : (Instr.makeSlice 57 (.int .i64 0) (.int .i64 96)).run Try.prog w = .ok (.slice (some ⟨w.heap.size, 0, none⟩) 0 96) (w.alloc (.cells (madeCells #[.int .i64 0, .int .u8 0, .int .i64 0, .int .i64 0, .string ⟨#[]⟩] 480) 46)) := by
  have hi : (Try.prog.info? 46).map (fun i => (i.zero, i.size, i.bytes)) = some (some (.agg #[.int .i64 0, .int .u8 0, .int .i64 0, .int .i64 0, .string ⟨#[]⟩]), 5, 48) := by kernel_rfl
  obtain ⟨i, hi, hz, hs, hb⟩ := info_parts hi
  have hr := run_make (P := Try.prog) w 57 46 i _ Try.underlying57 hi hz .i64 .i64 0 96 (by omega) (by omega) (by rw [hb]; omega) (by omega)
  rw [hs] at hr
  exact hr
theorem u8_make (w : World) : (Instr.makeSlice 22 (.int .i64 0) (.int .i64 94)).run Try.prog w = .ok (.slice (some ⟨w.heap.size, 0, none⟩) 0 94) (w.alloc (.cells (madeCells #[.int .u8 0] 94) 5)) := by
  obtain ⟨i, hi, hz, hs, hb⟩ := info_parts u8_info
  have hr := run_make (P := Try.prog) w 22 5 i _ Try.underlying22 hi hz .i64 .i64 0 94 (by omega) (by omega) (by rw [hb]; omega) (by omega)
  rw [hs] at hr
  exact hr

def St.new0 (want : ByteArray) : St := { St.new want with step := .none }
def holdO : Obj := .cells (madeCells #[.int .u8 0] 94) 5
def outO : Obj := .cells (madeCells #[.int .i64 0, .int .u8 0, .int .i64 0, .int .i64 0, .string ⟨#[]⟩] 480) 46
theorem own_hold (w : World) : (w.alloc holdO).ownsRow 0 5 1 (.slice (some ⟨w.heap.size, 0, none⟩) 0 94) 0 [] := World.ownsRow_made w _ 94 (Nat.zero_le _) (by unfold maxLen; omega) (by rw [size_madeCells])
theorem own_out (w : World) : (w.alloc outO).ownsRow 0 46 5 (.slice (some ⟨w.heap.size, 0, none⟩) 0 96) 0 [] := World.ownsRow_made w _ 96 (Nat.zero_le _) (by unfold maxLen; omega) (by rw [size_madeCells])
theorem size_alloc' (w : World) (o : Obj) : (w.alloc o).heap.size = w.heap.size + 1 := by simp
theorem new_a (w : World) (W : ByteArray) : Spl (((w.alloc holdO).alloc outO).alloc (.cells ((St.new0 W).cells w.heap.size (w.heap.size + 1)) 60)) (w.heap.size + 1 + 1) w.heap.size (w.heap.size + 1) (St.new0 W) := by
  refine ⟨?_, ?_, ?_, by omega, by omega, by omega⟩
  · have := heap_alloc_new ((w.alloc holdO).alloc outO) (.cells ((St.new0 W).cells w.heap.size (w.heap.size + 1)) 60)
    rwa [size_alloc', size_alloc'] at this
  · exact ((own_hold w).alloc _).alloc _
  · have := own_out (w.alloc holdO)
    rw [size_alloc'] at this
    exact this.alloc _
theorem new_b (w : World) (W : ByteArray) : Spl (((w.alloc outO).alloc holdO).alloc (.cells ((St.new0 W).cells (w.heap.size + 1) w.heap.size) 60)) (w.heap.size + 1 + 1) (w.heap.size + 1) w.heap.size (St.new0 W) := by
  refine ⟨?_, ?_, ?_, by omega, by omega, by omega⟩
  · have := heap_alloc_new ((w.alloc outO).alloc holdO) (.cells ((St.new0 W).cells (w.heap.size + 1) w.heap.size) 60)
    rwa [size_alloc', size_alloc'] at this
  · have := own_hold (w.alloc outO)
    rw [size_alloc'] at this
    exact this.alloc _
  · exact ((own_out w).alloc _).alloc _
theorem Spl.drew {w : World} {p hb ob : Nat} {s : St} (h : Spl w p hb ob s) : Spl w.drew p hb ob s := ⟨h.cells, h.hold, h.out, h.ph, h.po, h.ho⟩

def NewPost (w : World) (W : ByteArray) (e : Ending) (w' : World) : Prop :=
  ∃ p hb ob, e = .returned (.tuple #[.pointer (some ⟨p, 0, none⟩), .int .i64 0]) ∧ Spl w' p hb ob (St.new W) ∧ w.heap.size ≤ p ∧ w.heap.size ≤ hb ∧ w.heap.size ≤ ob ∧ Below w.heap.size w w'

set_option maxHeartbeats 2000000 in
set_option maxRecDepth 100000 in
theorem c_new (b : ByteArray) (w : World) (hv : validB b.data.toList = true) :
    Calls Try.prog 12 #[.string b] w (NewPost w (⟨#[45, 45]⟩ ++ b)) := by
  have hlen : b.size ≤ 70 := by
    unfold validB at hv
    simp at hv
    omega
  have cV := c_valid b w (by omega)
  rw [hv] at cV
  have CV := Lib.hid cV
  have he := ev_make
  have hu := u8_make
  have hA := new_a w (⟨#[45, 45]⟩ ++ b)
  have hB := new_b w (⟨#[45, 45]⟩ ++ b)
  have HA := Lib.hid hA
  have HB := Lib.hid hB
  clear cV hv hA hB
  go_enter Try.func12, Try.ntmps12
  go_wp2_with (go_at_call 13; go_must (refine CV.out.mono ?_); rintro e w3 ⟨rfl, rfl⟩)
  go_region
  · go_wp2_with (go_at_call 27; go_must (refine (c_fresh _ _ _ _ _ HA.out.drew).mono ?_); rintro e w4 ⟨rfl, hS, hK⟩)
    go_ret2
    exact ⟨_, _, _, rfl, hS, by omega, by omega, by omega, (Kp.below (((((Kp.refl _ w).alloc _).alloc _).alloc _).drew.trans hK) (Nat.le_refl _) (by simp; omega))⟩
  · go_wp2_with (go_at_call 27; go_must (refine (c_fresh _ _ _ _ _ HB.out.drew).mono ?_); rintro e w4 ⟨rfl, hS, hK⟩)
    go_ret2
    exact ⟨_, _, _, rfl, hS, by omega, by omega, by omega, (Kp.below (((((Kp.refl _ w).alloc _).alloc _).alloc _).drew.trans hK) (Nat.le_refl _) (by simp; omega))⟩

set_option maxHeartbeats 2000000 in
set_option maxRecDepth 100000 in
theorem c_new_no (b : ByteArray) (w : World) (hs : b.size ≤ 9223372036854775807) (hv : validB b.data.toList = false) :
    Calls Try.prog 12 #[.string b] w fun e w' => e = .returned (.tuple #[.pointer none, .int .i64 2]) ∧ w = w' := by
  have cV := c_valid b w hs
  rw [hv] at cV
  have CV := Lib.hid cV
  clear cV hv
  go_enter Try.func12, Try.ntmps12
  go_wp2_with (go_at_call 13; go_must (refine CV.out.mono ?_); rintro e w3 ⟨rfl, rfl⟩)
  go_ret2
  exact ⟨rfl, rfl⟩
end Go.Proofs.Ytmalacamfjdimaa.Pt
