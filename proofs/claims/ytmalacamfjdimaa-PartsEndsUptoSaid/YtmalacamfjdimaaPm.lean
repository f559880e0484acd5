/- Package winklelaw14: awake, and a splitter that is not there. -/
import Derived.Test.YtmalacamfjdimaaPn
import Derived.Lib.SlBytesConst
namespace Go.Proofs.Ytmalacamfjdimaa.Pt
open Go.RowKit Go.Proofs.Ytmalacamfjdimaa.W

def awakeB : List Int := [120, 13, 10, 45, 45, 98, 13, 10, 111, 110, 101, 13, 10, 45, 45, 98, 32, 10, 10, 116, 119, 111, 10, 45, 45, 98, 45, 45]
theorem awake_rows : (whole (⟨#[45, 45]⟩ ++ ⟨#[98]⟩) awakeB).2 = [[111, 110, 101], [10, 116, 119, 111]] := by decide +kernel
theorem awake_why : (whole (⟨#[45, 45]⟩ ++ ⟨#[98]⟩) awakeB).1.reason = 0 := by decide +kernel

theorem RV.new_fz {w : World} (cs : Array Value) (t : TypeId) (fr : Nat × Nat) : RV (w.alloc (.cells cs t fr)) (some ⟨w.heap.size, 0, none⟩) cs.toList := fun i v hv => by
  refine ⟨w.heap.size, 0, rfl, by simp, ?_⟩
  rw [cell_of_row _ w.heap.size (0 + i) cs t fr (heap_alloc_new w _), Nat.zero_add]
  simpa using hv
def awakeC : Array Value := #[.int .u8 120, .int .u8 13, .int .u8 10, .int .u8 45, .int .u8 45, .int .u8 98, .int .u8 13, .int .u8 10, .int .u8 111, .int .u8 110, .int .u8 101, .int .u8 13, .int .u8 10, .int .u8 45, .int .u8 45, .int .u8 98, .int .u8 32, .int .u8 10, .int .u8 10, .int .u8 116, .int .u8 119, .int .u8 111, .int .u8 10, .int .u8 45, .int .u8 45, .int .u8 98, .int .u8 45, .int .u8 45]
def WA (w : World) (e : Ending) (w' : World) : Prop :=
  ∃ (g c : Nat) (A1 : Option Addr) (c1 : Nat) (A2 : Option Addr) (c2 : Nat), e = .returned (.tuple #[.slice (some ⟨g, 0, none⟩) 2 c, .int .i64 0, .int .i64 0]) ∧ Below w.heap.size w w' ∧ w'.cell? ⟨g, 0, none⟩ = some (.slice A1 3 c1) ∧ w'.cell? ⟨g, 1, none⟩ = some (.slice A2 4 c2) ∧ RB w' A1 [111, 110, 101] ∧ RB w' A2 [10, 116, 119, 111]
theorem whole_awake (w : World) : Calls Try.prog 10 #[.slice (some ⟨w.heap.size, 0, none⟩) 28 28, .string ⟨#[98]⟩] (w.alloc (.cells awakeC 5 (28, 29))) (WA w) := by
  have hr : RB (w.alloc (.cells awakeC 5 (28, 29))) (some ⟨w.heap.size, 0, none⟩) awakeB := RV.new_fz awakeC 5 (28, 29)
  refine (c_whole _ 28 28 awakeB ⟨#[98]⟩ _ rfl (by decide) (by show ∀ x ∈ awakeB, 0 ≤ x ∧ x < 256; decide) hr (by decide)).mono ?_
  rintro e w' ⟨A, c, vs, he, hP, hB⟩
  rw [awake_why] at he
  rw [awake_rows] at he hP
  have hvl := hP.vlen
  obtain ⟨v1, h1, o1, _⟩ := hP.row 0 [111, 110, 101] rfl
  obtain ⟨v2, h2, o2, _⟩ := hP.row 1 [10, 116, 119, 111] rfl
  obtain ⟨A1, c1, rfl, _⟩ := slice_form o1
  obtain ⟨A2, c2, rfl, _⟩ := slice_form o2
  rcases hP.own.2 with ⟨h, _⟩ | ⟨g, cap, cur, h, _⟩
  · injection h with _ h2; cases h2
  · injection h with h3 _ h4
    subst h3 h4
    have hB0 : Below w.heap.size w (w.alloc (.cells awakeC 5 (28, 29))) := (Below.refl _ _).alloc (Nat.le_refl _) _
    exact ⟨g, c, A1, c1, A2, c2, he, hB0.trans (hB.mono (by simp)), own_elem hP.own h1, own_elem hP.own h2, RV.own o1, RV.own o2⟩

set_option maxHeartbeats 2000000 in
set_option maxRecDepth 100000 in
theorem c_awake (w : World) : Calls Try.prog 14 #[] w fun e w' => e = .returned (.bool true) ∧ Below w.heap.size w w' := by
  have hcv := Lib.run_convert_bytes_const (P := Try.prog) w 22 5 awakeC 28 28 Try.underlying22 Try.underlying5
  rw [show (awakeC.size, awakeC.size + 1) = (28, 29) from rfl] at hcv
  unfold awakeC at hcv
  have tk1 : True := trivial
  go_enter Try.func14, Try.ntmps14
  go_wp2_with (first
    | (go_at_call 10; have _t := tk1; go_must (refine (whole_awake w).mono ?_); rintro e w1 ⟨g, c, A1, c1, A2, c2, rfl, hb1, k0, k1, r1, r2⟩; clear hcv; have hs1 := run_string (P := Try.prog) (w := w1) _ _ _ Try.underlying22 Try.underlying5 Try.underlying9 (c := c1) (n := 3) r1 rfl; have hs2 := run_string (P := Try.prog) (w := w1) _ _ _ Try.underlying22 Try.underlying5 Try.underlying9 (c := c2) (n := 4) r2 rfl; rw [show strOfNums [111, 110, 101] = ⟨#[111, 110, 101]⟩ by rfl] at hs1; rw [show strOfNums [10, 116, 119, 111] = ⟨#[10, 116, 119, 111]⟩ by rfl] at hs2; clear tk1 _t)
    | (go_at_call 13; go_must (refine (c_valid _ _ (by decide)).mono ?_); rintro e w2 ⟨rfl, rfl⟩))
  go_ret
  exact ⟨rfl, hb1⟩

set_option maxHeartbeats 1000000 in
set_option maxRecDepth 100000 in
theorem n_end (w : World) : Calls Try.prog 22 #[.pointer none] w fun e w' => e = .returned (.tuple #[]) ∧ ∃ n, w' = w.drewN n := by
  go_enter Try.func22, Try.ntmps22
  go_wp2
  go_quiet (fail)
  go_wp2
  refine bodyPost_ret (results_none rfl _ _ _) rfl ?_
  exact ⟨rfl, _, rfl⟩
set_option maxHeartbeats 1000000 in
set_option maxRecDepth 100000 in
theorem n_put (b : Int) (w : World) : Calls Try.prog 19 #[.pointer none, .int .u8 b] w fun e w' => e = .returned (.bool false) ∧ ∃ n, w' = w.drewN n := by
  go_enter Try.func19, Try.ntmps19
  go_wp2
  go_quiet (fail)
  go_wp2
  go_ret
  exact ⟨rfl, _, rfl⟩
set_option maxHeartbeats 1000000 in
set_option maxRecDepth 100000 in
theorem n_reason (w : World) : Calls Try.prog 21 #[.pointer none] w fun e w' => e = .returned (.int .i64 0) ∧ ∃ n, w' = w.drewN n := by
  go_enter Try.func21, Try.ntmps21
  go_wp2
  go_quiet (fail)
  go_wp2
  go_ret
  exact ⟨rfl, _, rfl⟩
set_option maxHeartbeats 1000000 in
set_option maxRecDepth 100000 in
theorem n_next (w : World) : Calls Try.prog 23 #[.pointer none] w fun e w' => e = .returned (.tuple #[.agg #[.int .i64 0, .int .u8 0, .int .i64 0, .int .i64 0, .string ByteArray.empty], .bool false]) ∧ Below w.heap.size w w' := by
  go_enter Try.func23, Try.ntmps23
  go_wp2
  go_quiet (fail)
  go_wp2
  refine bodyPost_ret (v := .tuple #[.agg #[.int .i64 0, .int .u8 0, .int .i64 0, .int .i64 0, .string ByteArray.empty], .bool false]) (by simp [results, Try.results23, go_sem]; rfl) rfl ?_
  refine ⟨rfl, ?_⟩
  exact (Kp.below (S := []) (by repeat (first | exact Kp.refl _ _ | refine Kp.drewN ?_ _ | refine Kp.setCell ?_ (.inr (Nat.le_refl _)) _ | refine Kp.alloc ?_ _)) (Nat.le_refl _) (by simp))

set_option maxHeartbeats 1000000 in
set_option maxRecDepth 100000 in
theorem nobody (b : Int) (w : World) (_ : (Lit.int .u8 b).wf = true) : Calls Try.prog 5 #[.int .u8 b] w fun e w' => e = .returned (.bool true) ∧ Below w.heap.size w w' := by
  go_enter Try.func5, Try.ntmps5
  go_wp2_with (first
    | (go_at_call 22; go_must (refine (n_end _).mono ?_); rintro e w1 ⟨rfl, d1, rfl⟩)
    | (go_at_call 23; go_must (refine (n_next _).mono ?_); rintro e w2 ⟨rfl, hb2⟩)
    | (go_at_call 19; go_must (refine (n_put _ _).mono ?_); rintro e w3 ⟨rfl, d3, rfl⟩)
    | (go_at_call 21; go_must (refine (n_reason _).mono ?_); rintro e w4 ⟨rfl, d4, rfl⟩)
    | (go_at_call 14; go_must (refine (c_awake _).mono ?_); rintro e w5 ⟨rfl, hb5⟩))
  go_ret
  refine ⟨rfl, ?_⟩
  have g1 : Below w.heap.size w w2 := ⟨hb2.os, hb2.tape, hb2.output, hb2.size, hb2.block⟩
  have g2 := (g1.alloc g1.size (.cells #[.int .i64 0, .int .u8 0, .int .i64 0, .int .i64 0, .string ByteArray.empty] 46))
  refine Below.trans (b := ((w2.alloc (.cells #[.int .i64 0, .int .u8 0, .int .i64 0, .int .i64 0, .string ByteArray.empty] 46)).drewN (d3 + d4))) ⟨g2.os, g2.tape, g2.output, g2.size, g2.block⟩ ?_
  exact hb5.mono g2.size
end Go.Proofs.Ytmalacamfjdimaa.Pt
