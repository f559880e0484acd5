/- What every right program gives back; InflateNobody's walk. -/
import Derived.Test.YtdpnlmofkkdioaaDoorIz
namespace Go.Proofs.YtdpnlmofkkdioaaDoor.Hf
set_option linter.unusedVariables false
set_option linter.unusedSimpArgs false
open Go.RowKit Go.Proofs.YtdpnlmofkkdioaaDoor.W

def lAw : List Int := [75, 76, 74, 6, 0, 9]
def bAw : List Bool := bits8 lAw
def mAw : M := { m0 with last := true, lt := fixL, ds := fixD, ph := .lit }
theorem dec_is {lens : List Nat} {bs : List Bool} {k s : Nat} (ht : Tab lens) (hk : 0 < k) (hl : k ≤ bs.length) (hs : lens[s]? = some k) (hc : code lens s = bs.take k) (hmin : ∀ k', 0 < k' → k' < k → ¬ hit lens bs k') : dec lens bs = .got s k :=
  decG_hit ht hk hl hs hc hmin k 0 _ (by omega) (by omega)
theorem next_lit {bs : List Bool} {t : St} {s k : Nat} (hl : Live t.m) (hph : t.m.ph = .lit) (hd : dec t.m.lt (bs.drop t.pos) = .got s k) : next bs t = some (t.add (litM t.m s k)) :=
  next_of hl (by unfold step; rw [hph]; dsimp only; rw [hd])
theorem aw_dec (p s k : Nat) (hk : 0 < k) (hl : k ≤ (bAw.drop p).length) (hs : fixL[s]? = some k) (hc : code fixL s = (bAw.drop p).take k) (hmin : ∀ i : _root_.Fin k, 0 < i.val → ¬ hit fixL (bAw.drop p) i.val) : dec fixL (bAw.drop p) = .got s k :=
  dec_is Tab.fixL hk hl hs hc fun k' h1 h2 => hmin ⟨k', h2⟩ h1
theorem aw1 : next bAw st0 = some ⟨mAw, [], [], 3⟩ := by kernel_rfl
theorem aw_a : dec fixL (bAw.drop 3) = .got 97 8 := aw_dec 3 97 8 (by omega) (by decide +kernel) (by decide +kernel) (by decide +kernel) (by decide +kernel)
theorem aw_b : dec fixL (bAw.drop 11) = .got 98 8 := aw_dec 11 98 8 (by omega) (by decide +kernel) (by decide +kernel) (by decide +kernel) (by decide +kernel)
theorem aw_c : dec fixL (bAw.drop 19) = .got 99 8 := aw_dec 19 99 8 (by omega) (by decide +kernel) (by decide +kernel) (by decide +kernel) (by decide +kernel)
theorem aw_e : dec fixL (bAw.drop 27) = .got 256 7 := aw_dec 27 256 7 (by omega) (by decide +kernel) (by decide +kernel) (by decide +kernel) (by decide +kernel)
set_option maxRecDepth 100000 in
theorem aw2 : next bAw ⟨mAw, [], [], 3⟩ = some ⟨mAw, [97], [1], 11⟩ := (next_lit ⟨rfl, rfl⟩ rfl aw_a).trans (by kernel_rfl)
set_option maxRecDepth 100000 in
theorem aw3 : next bAw ⟨mAw, [97], [1], 11⟩ = some ⟨mAw, [97, 98], [1, 2], 19⟩ := (next_lit ⟨rfl, rfl⟩ rfl aw_b).trans (by kernel_rfl)
set_option maxRecDepth 100000 in
theorem aw4 : next bAw ⟨mAw, [97, 98], [1, 2], 19⟩ = some ⟨mAw, [97, 98, 99], [1, 2, 3], 27⟩ := (next_lit ⟨rfl, rfl⟩ rfl aw_c).trans (by kernel_rfl)
set_option maxRecDepth 100000 in
theorem aw5 : next bAw ⟨mAw, [97, 98, 99], [1, 2, 3], 27⟩ = some ⟨overM mAw, [97, 98, 99], [1, 2, 3], 34⟩ := (next_lit ⟨rfl, rfl⟩ rfl aw_e).trans (by kernel_rfl)
theorem aw_res : Res st0 (bits8 lAw) 99 [97, 98, 99] [1, 2, 3] 4 0 true :=
  Res.dead (t := ⟨overM mAw, [97, 98, 99], [1, 2, 3], 34⟩) (.cons aw1 (.cons aw2 (.cons aw3 (.cons aw4 (.cons aw5 (.refl _)))))) (fun h => (by cases h.2)) (by show 3 ≤ 99; omega)
theorem whole_awake (w : World) (hG : Gt w []) : Calls Tryd.prog 10 #[.slice (some ⟨w.heap.size, 0, none⟩) 6 6, .int .i64 99] (w.alloc (.cells #[.int .u8 75, .int .u8 76, .int .u8 74, .int .u8 6, .int .u8 0, .int .u8 9] 5)) fun e w' =>
    ∃ A c, e = .returned (.tuple #[.slice A 3 c, .int .i64 5, .int .i64 0]) ∧ RB w' A [97, 98, 99] ∧ Kp [] w w' := by
  have hk : Kp [] w (w.alloc (.cells #[.int .u8 75, .int .u8 76, .int .u8 74, .int .u8 6, .int .u8 0, .int .u8 9] 5)) := (Kp.refl _ _).alloc _
  refine (c_whole (some ⟨w.heap.size, 0, none⟩) 6 6 lAw 99 _ rfl (by omega) (by intro x hx; unfold lAw at hx; simp at hx; omega) (RV.new _ _) (by omega) (by omega) (hG.kept hk (fun k hk => hk))).mono ?_
  rintro e w' ⟨A, m, c, ol, ts, a, why, en, rfl, hres, hown, hk2⟩
  obtain ⟨rfl, rfl, rfl, rfl, rfl⟩ := hres.uniq aw_res
  have hm : m = 3 := by have h9 := hown.1; rw [u8s_length] at h9; simp at h9; omega
  subst hm
  exact ⟨A, c, rfl, RV.own hown, hk.trans hk2⟩
set_option maxHeartbeats 1000000 in
set_option maxRecDepth 100000 in
theorem c_awake (w : World) (hG : Gt w []) : Calls Tryd.prog 14 #[] w fun e w' => e = .returned (.bool true) ∧ Kp [] w w' := by
  have HG := Lib.hid hG
  clear hG
  go_enter Tryd.func14, Tryd.ntmps14
  go_wp2_with (first
    | (go_at_call 10; go_must (refine (whole_awake w HG.out).mono ?_); rintro e w1 ⟨A1, c1, rfl, hr1, hk1⟩; have HK1 := Lib.hid hk1; have hs1 := run_string (P := Tryd.prog) (w := w1) _ _ _ Tryd.underlying22 Tryd.underlying5 Tryd.underlying9 (c := c1) (n := 3) hr1 rfl; rw [show strOfNums [97, 98, 99] = ⟨#[97, 98, 99]⟩ by rfl] at hs1; clear hr1 hk1))
  go_ret
  exact ⟨rfl, HK1.out⟩
set_option maxHeartbeats 1000000 in
theorem n_end (w : World) : Calls Tryd.prog 20 #[.pointer none] w fun e w' => e = .returned (.tuple #[]) ∧ w = w' := by
  go_enter Tryd.func20, Tryd.ntmps20
  go_wp2
  refine bodyPost_end (results_none rfl _ _ _) rfl ?_
  exact ⟨rfl, rfl⟩
set_option maxHeartbeats 1000000 in
theorem n_reset (w : World) : Calls Tryd.prog 21 #[.pointer none] w fun e w' => e = .returned (.tuple #[]) ∧ w = w' := by
  go_enter Tryd.func21, Tryd.ntmps21
  go_wp2
  refine bodyPost_ret (results_none rfl _ _ _) rfl ?_
  exact ⟨rfl, rfl⟩
set_option maxHeartbeats 1000000 in
theorem n_next (w : World) : Calls Tryd.prog 19 #[.pointer none] w fun e w' => e = .returned (.tuple #[.int .u8 0, .bool false]) ∧ w = w' := by
  go_enter Tryd.func19, Tryd.ntmps19
  go_wp2
  go_ret2
  exact ⟨rfl, rfl⟩
set_option maxHeartbeats 1000000 in
theorem n_put (b : Int) (w : World) : Calls Tryd.prog 18 #[.pointer none, .int .u8 b] w fun e w' => e = .returned (.bool false) ∧ w = w' := by
  go_enter Tryd.func18, Tryd.ntmps18
  go_wp2
  go_ret
  exact ⟨rfl, rfl⟩
set_option maxHeartbeats 1000000 in
theorem n_done (w : World) : Calls Tryd.prog 16 #[.pointer none] w fun e w' => e = .returned (.bool false) ∧ w = w' := by
  go_enter Tryd.func16, Tryd.ntmps16
  go_wp2
  go_ret
  exact ⟨rfl, rfl⟩
set_option maxHeartbeats 1000000 in
theorem n_reason (w : World) : Calls Tryd.prog 17 #[.pointer none] w fun e w' => e = .returned (.int .i64 0) ∧ w = w' := by
  go_enter Tryd.func17, Tryd.ntmps17
  go_wp2
  go_ret
  exact ⟨rfl, rfl⟩
set_option maxHeartbeats 1000000 in
set_option maxRecDepth 100000 in
theorem c_nobody (b : Int) (w : World) (hG : Gt w []) : Calls Tryd.prog 6 #[.int .u8 b] w fun e w' => e = .returned (.bool true) ∧ Below w.heap.size w w' := by
  have HG := Lib.hid hG
  clear hG
  go_enter Tryd.func6, Tryd.ntmps6
  go_wp2_with (first
    | (go_at_call 20; go_must (refine (n_end _).mono ?_); rintro e w1 ⟨rfl, rfl⟩)
    | (go_at_call 21; go_must (refine (n_reset _).mono ?_); rintro e w1 ⟨rfl, rfl⟩)
    | (go_at_call 19; go_must (refine (n_next _).mono ?_); rintro e w1 ⟨rfl, rfl⟩)
    | (go_at_call 18; go_must (refine (n_put _ _).mono ?_); rintro e w1 ⟨rfl, rfl⟩)
    | (go_at_call 16; go_must (refine (n_done _).mono ?_); rintro e w1 ⟨rfl, rfl⟩)
    | (go_at_call 17; go_must (refine (n_reason _).mono ?_); rintro e w1 ⟨rfl, rfl⟩)
    | (go_at_call 14; go_must (refine (c_awake _ HG.out).mono ?_); rintro e w1 ⟨rfl, hk1⟩))
  go_ret
  exact ⟨rfl, hk1.below (Nat.le_refl _) (fun k hk => (by cases hk))⟩
end Go.Proofs.YtdpnlmofkkdioaaDoor.Hf
