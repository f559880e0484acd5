/- awake, walked; GzipNobody. -/
import Derived.Test.YtjjcemdoefigkaaDoorGs
import Derived.Test.YtjjcemdoefigkaaDoorGt
namespace Go.Proofs.YtjjcemdoefigkaaDoor.Hf
set_option linter.unusedVariables false
set_option linter.unusedSimpArgs false
open Go.RowKit Go.Proofs.YtjjcemdoefigkaaDoor.W

theorem Gq.kept {w w' : World} (h : Gq w) (hG : Gt w []) (hk : Kp [] w w') : Gq w' := fun i v hv => (World.cell?_of_block (a := ⟨0, i, none⟩) (hk.block 0 (Nat.lt_of_lt_of_le (show 0 < gtop by decide) hG.sz) (fun h => by cases h))).trans (h i v hv)
def AwP (w : World) (e : Ending) (w' : World) : Prop := ∃ A A' c c' , e = .returned (.tuple #[.slice A 1 c, .int .i64 0]) ∧ (∃ b o, A = some ⟨b, o, none⟩ ∧ w'.cell? ⟨b, o, none⟩ = some (.slice A' 3 c')) ∧ RB w' A' [97, 98, 99] ∧ Kp [] w w'
theorem gz_awake (w : World) (hG : Gt w []) (hq : Gq w) : Calls Tryd.prog 12 #[.slice (some ⟨w.heap.size, 0, none⟩) 23 23, .int .i64 9] (w.alloc (.cells #[.int .u8 31, .int .u8 139, .int .u8 8, .int .u8 0, .int .u8 0, .int .u8 0, .int .u8 0, .int .u8 0, .int .u8 0, .int .u8 3, .int .u8 75, .int .u8 76, .int .u8 74, .int .u8 6, .int .u8 0, .int .u8 194, .int .u8 65, .int .u8 36, .int .u8 53, .int .u8 3, .int .u8 0, .int .u8 0, .int .u8 0] 5)) (AwP w) := by
  have hk := fun o => ((Kp.refl [] w).alloc o)
  refine (c_gwhole (some ⟨w.heap.size, 0, none⟩) 23 23 lGz 9 _ rfl (by omega) gz_bytes (RV.new _ _) (by omega) (by omega) (hG.kept (hk _) (fun k hk => hk)) (hq.kept hG (hk _))).mono ?_
  rintro e w' ⟨A, m, c, E, y, vs, rfl, hres, hprt, hk2⟩
  obtain ⟨rfl, rfl⟩ := hres.uniq gz_all
  rw [gz_parts] at hprt
  have hm : m = 1 := hprt.len.symm
  subst hm
  obtain ⟨v, hv, hvo, _⟩ := hprt.row 0 [97, 98, 99] rfl
  obtain ⟨A', c', rfl, _⟩ := slice_form hvo
  obtain ⟨b, o, hA, _, hc⟩ := RV.own hprt.own 0 _ hv
  exact ⟨A, A', c, c', rfl, ⟨b, o, hA, hc⟩, RV.own hvo, (hk _).trans hk2⟩
set_option maxHeartbeats 2000000 in
set_option maxRecDepth 100000 in
theorem c_awake (w : World) (hG : Gt w []) (hq : Gq w) : Calls Tryd.prog 9 #[] w fun e w' => e = .returned (.bool true) ∧ Kp [] w w' := by
  have CW := Lib.hid (gz_awake w hG hq)
  clear hG hq
  go_enter Tryd.func9, Tryd.ntmps9
  go_wp2_with (first
    | (go_at_call 12; go_must (refine CW.out.mono ?_); rintro e w1 ⟨A1, A2, c1, c2, rfl, ⟨b1, o1, rfl, hc1⟩, hr1, hk1⟩; have HK1 := Lib.hid hk1; have hs1 := run_string (P := Tryd.prog) (w := w1) _ _ _ Tryd.underlying34 Tryd.underlying5 Tryd.underlying9 (c := c2) (n := 3) hr1 rfl; rw [show strOfNums [97, 98, 99] = ⟨#[97, 98, 99]⟩ by rfl] at hs1; clear hr1 hk1))
  go_ret
  exact ⟨rfl, HK1.out⟩
end Go.Proofs.YtjjcemdoefigkaaDoor.Hf
