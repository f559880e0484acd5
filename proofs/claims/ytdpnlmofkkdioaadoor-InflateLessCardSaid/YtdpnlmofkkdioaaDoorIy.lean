/- The inflater's making. -/
import Derived.Test.YtdpnlmofkkdioaaDoorIx
namespace Go.Proofs.YtdpnlmofkkdioaaDoor.Hf
set_option linter.unusedVariables false
set_option linter.unusedSimpArgs false
open Go.RowKit Go.Proofs.YtdpnlmofkkdioaaDoor.W

def m0 : M := ⟨.head, false, false, 0, [], [], [], [], List.replicate 19 0, 0, 0, 0, 0, 0, 0⟩
theorem Ok.m0 : Ok m0 [] := ⟨rfl, fun x hx => by rw [(List.mem_replicate.1 hx).2]; omega, fun x hx => (by cases hx), Nat.zero_le _, fun x hx => (by cases hx), fun _ => trivial⟩
def INew (w : World) (e : Ending) (w' : World) : Prop :=
  ∃ d r p q g, e = .returned (.pointer (some ⟨d, 0, none⟩)) ∧ Inf w' d r p q g m0 [] [] false 0 ∧ Kp [] w w' ∧ ∀ k ∈ [d, r, p, q, g], w.heap.size ≤ k
set_option maxHeartbeats 4000000 in
set_option maxRecDepth 100000 in
theorem c_inew (w : World) : Calls Tryd.prog 15 #[] w (INew w) := by
  have cN := c_rnew 32768 w (by omega) (by omega)
  unfold RNew at cN
  have CN := Lib.hid cN
  clear cN
  go_enter Tryd.func15, Tryd.ntmps15
  go_upto_region 2 with (first
    | (go_at_call 31; go_must (refine CN.out.mono ?_); rintro en w2 ⟨p, q, rfl, hg, hp, hq, hk⟩; have HG2 := Lib.hid hg; have HP := Lib.hid hp; have HQ := Lib.hid hq; have HK2 := Lib.hid hk; clear hg hp hq hk))
  have hmk : ∀ wq : World, Sem.run Tryd.prog (Instr.makeSlice 29 (.int .i64 0) (.int .i64 320)) wq = .ok (.slice (some ⟨wq.heap.size, 0, none⟩) 0 320) (wq.alloc (.cells (madeCells (Value.int .i64 0).cells 320) 3)) := fun wq => run_mk int8 .i64 .i64 (n := 0) (c := 320) (by omega) (by omega) (by omega) wq
  have HZ := Lib.hid (show (madeCells (Value.int .i64 0).cells 320).size = 320 by rw [size_madeCells])
  generalize madeCells (Value.int .i64 0).cells 320 = Z at *
  go_cut [3] (fun s3 wz => ∃ d r g, s3 = .pointer (some ⟨d, 0, none⟩) ∧ DR wz d [.pointer (some ⟨r, 0, none⟩), .pointer (some ⟨p, 0, none⟩), .nilFunc, .bool false, .bool false, .int .i64 0, .bool false, .int .u8 0, .pointer none, .pointer none, .pointer none, .slice (some ⟨g, 0, none⟩) 0 320] (ints m0.fl) (inB m0) ∧ Rd wz r [] ∧ wz.heap[g]? = some (.cells Z 3 (0, 0)) ∧ Kp [] w2 wz ∧ (w2.heap.size ≤ d ∧ w2.heap.size ≤ r ∧ w2.heap.size ≤ g) ∧ d ≠ r ∧ d ≠ g ∧ r ≠ g)
  case first =>
    go_region_with (first
      | (go_at_call 32; refine (c_newR _).mono ?_; rintro en w3 ⟨rfl, hr3, hk3⟩))
    · have hs3 : w2.heap.size < w3.heap.size := hr3.lt
      have k1 : Kp [] w3 (w3.alloc (.cells Z 3)) := (Kp.refl _ _).alloc _
      have k2 : Kp [] (w3.alloc (.cells Z 3)) ((w3.alloc (.cells Z 3)).alloc (.cells #[.pointer (some ⟨w2.heap.size, 0, none⟩), .pointer (some ⟨p, 0, none⟩), .nilFunc, .bool false, .bool false, .int .i64 0, .bool false, .int .u8 0, .pointer none, .pointer none, .pointer none, .slice (some ⟨w3.heap.size, 0, none⟩) 0 320, .int .i64 0, .int .i64 0, .int .i64 0, .int .i64 0, .int .i64 0, .int .i64 0, .int .i64 0, .int .i64 0, .int .i64 0, .int .i64 0, .int .i64 0, .int .i64 0, .int .i64 0, .int .i64 0, .int .i64 0, .int .i64 0, .int .i64 0, .int .i64 0, .int .i64 0, .int .i64 0, .int .i64 0, .int .i64 0, .int .i64 0, .int .i64 0, .int .i64 0] 69)) := (Kp.refl _ _).alloc _
      have hd5 := heap_alloc_new (w3.alloc (.cells Z 3)) (.cells #[.pointer (some ⟨w2.heap.size, 0, none⟩), .pointer (some ⟨p, 0, none⟩), .nilFunc, .bool false, .bool false, .int .i64 0, .bool false, .int .u8 0, .pointer none, .pointer none, .pointer none, .slice (some ⟨w3.heap.size, 0, none⟩) 0 320, .int .i64 0, .int .i64 0, .int .i64 0, .int .i64 0, .int .i64 0, .int .i64 0, .int .i64 0, .int .i64 0, .int .i64 0, .int .i64 0, .int .i64 0, .int .i64 0, .int .i64 0, .int .i64 0, .int .i64 0, .int .i64 0, .int .i64 0, .int .i64 0, .int .i64 0, .int .i64 0, .int .i64 0, .int .i64 0, .int .i64 0, .int .i64 0, .int .i64 0] 69)
      rw [show (w3.alloc (.cells Z 3)).heap.size = w3.heap.size + 1 by simp] at hd5
      have HD5 := Lib.hid hd5
      have HK5 := Lib.hid (k1.trans k2)
      have HG5 := Lib.hid ((k2.block _ (by simp) (by simp)).trans (heap_alloc_new w3 (.cells Z 3)))
      have HR3 := Lib.hid hr3
      have HK3 := Lib.hid hk3
      clear hd5 k1 k2 hr3 hk3 hmk
      go_wp2
      go_meet
      exact ⟨w3.heap.size + 1, w2.heap.size, w3.heap.size, rfl, ⟨HD5.out, rfl⟩, HR3.out.kept HK5.out (by simp), HG5.out, (((Kp.refl [] w2).drew).trans HK3.out).trans HK5.out, ⟨by omega, Nat.le_refl _, by omega⟩, by omega, by omega, by omega⟩
    · have hs3 : (w2.alloc (.cells Z 3)).drew.heap.size < w3.heap.size := hr3.lt
      have es : (w2.alloc (.cells Z 3)).drew.heap.size = w2.heap.size + 1 := by show (w2.alloc (.cells Z 3)).heap.size = _; simp
      rw [es] at hs3 hr3
      have k1 : Kp [] w2 (w2.alloc (.cells Z 3)).drew := ((Kp.refl _ _).alloc _).drew
      have k2 : Kp [] w3 (w3.alloc (.cells #[.pointer (some ⟨w2.heap.size + 1, 0, none⟩), .pointer (some ⟨p, 0, none⟩), .nilFunc, .bool false, .bool false, .int .i64 0, .bool false, .int .u8 0, .pointer none, .pointer none, .pointer none, .slice (some ⟨w2.heap.size, 0, none⟩) 0 320, .int .i64 0, .int .i64 0, .int .i64 0, .int .i64 0, .int .i64 0, .int .i64 0, .int .i64 0, .int .i64 0, .int .i64 0, .int .i64 0, .int .i64 0, .int .i64 0, .int .i64 0, .int .i64 0, .int .i64 0, .int .i64 0, .int .i64 0, .int .i64 0, .int .i64 0, .int .i64 0, .int .i64 0, .int .i64 0, .int .i64 0, .int .i64 0, .int .i64 0] 69)) := (Kp.refl _ _).alloc _
      have hd5 := heap_alloc_new w3 (.cells #[.pointer (some ⟨w2.heap.size + 1, 0, none⟩), .pointer (some ⟨p, 0, none⟩), .nilFunc, .bool false, .bool false, .int .i64 0, .bool false, .int .u8 0, .pointer none, .pointer none, .pointer none, .slice (some ⟨w2.heap.size, 0, none⟩) 0 320, .int .i64 0, .int .i64 0, .int .i64 0, .int .i64 0, .int .i64 0, .int .i64 0, .int .i64 0, .int .i64 0, .int .i64 0, .int .i64 0, .int .i64 0, .int .i64 0, .int .i64 0, .int .i64 0, .int .i64 0, .int .i64 0, .int .i64 0, .int .i64 0, .int .i64 0, .int .i64 0, .int .i64 0, .int .i64 0, .int .i64 0, .int .i64 0, .int .i64 0] 69)
      have hg5 : (w2.alloc (.cells Z 3)).drew.heap[w2.heap.size]? = some (.cells Z 3 (0, 0)) := heap_alloc_new w2 (.cells Z 3)
      have HD5 := Lib.hid hd5
      have HK1 := Lib.hid k1
      have HK5 := Lib.hid k2
      have HG5 := Lib.hid ((k2.block _ (by omega) (by simp)).trans ((hk3.block _ (by rw [es]; omega) (by simp)).trans hg5))
      have HR3 := Lib.hid hr3
      have HK3 := Lib.hid hk3
      clear hd5 k1 k2 hr3 hk3 hmk hg5 es
      go_wp2
      go_meet
      exact ⟨w3.heap.size, w2.heap.size + 1, w2.heap.size, rfl, ⟨HD5.out, rfl⟩, HR3.out.kept HK5.out (by simp), HG5.out, (HK1.out.trans HK3.out).trans HK5.out, ⟨by omega, by omega, Nat.le_refl _⟩, by omega, by omega, by omega⟩
  case rest =>
    obtain ⟨d, r, g, rfl, hd, hr, hg, hk, ⟨l1, l2, l3⟩, n1, n2, n3⟩ := hcut
    have hp2 := HG2.out.lt
    have hq2 := HG2.out.ltq
    have hs2 := HK2.out.size
    have hpq := HG2.out.ne
    have HP2 := HP.out
    have HQ2 := HQ.out
    have HNE := Lib.hid (show d ≠ p ∧ d ≠ q ∧ r ≠ p ∧ r ≠ q ∧ p ≠ q ∧ p ≠ g ∧ q ≠ g from ⟨by omega, by omega, by omega, by omega, hpq, by omega, by omega⟩)
    have HLO := Lib.hid (show ∀ k ∈ [d, r, p, q, g], w.heap.size ≤ k from fun k hk => by
      simp only [List.mem_cons, List.not_mem_nil, or_false] at hk
      rcases hk with rfl | rfl | rfl | rfl | rfl <;> omega)
    have CR := Lib.hid (c_reset0 _ _ _ _ _ _ _ _ _ _ hd hr (HG2.out.kept hk (by simp) (by simp)) n1 HNE.out.1 HNE.out.2.1 HNE.out.2.2.1 HNE.out.2.2.2.1)
    have HK := Lib.hid (HK2.out.trans hk)
    have HGG := Lib.hid hg
    have HN := Lib.hid (show d ≠ r ∧ d ≠ g ∧ r ≠ g from ⟨n1, n2, n3⟩)
    clear hd hr hg hk n1 n2 n3 l1 l2 l3 hp2 hq2 hs2 hpq HP2 HQ2 hmk
    go_wp2_with (first
      | (go_at_call 21; go_must (refine CR.out.mono ?_); rintro en w5 ⟨rfl, hd5, hr5, hg5, hk5⟩; have HD5 := Lib.hid hd5; have HR5 := Lib.hid hr5; have HG5 := Lib.hid hg5; have HK5 := Lib.hid hk5; clear hd5 hr5 hg5 hk5))
    go_ret
    obtain ⟨m1, m2, m3, m4, m5, m6, m7⟩ := HNE.out
    obtain ⟨n1, n2, n3⟩ := HN.out
    have hge := HLO.out
    refine ⟨d, r, p, q, g, rfl, ⟨⟨none, none, none, ⟨HD5.out.cells, rfl⟩, Tbs.none rfl rfl⟩, ⟨[], HR5.out, fun _ => rfl⟩, HG5.out, ?_, by simp; exact ⟨⟨n1, m1, m2, n2⟩, ⟨m3, m4, n3⟩, ⟨m5, m6⟩, m7⟩⟩, ((HK.out.mono (T := [d, r, p]) (by simp)).trans HK5.out).mono (fun k hk => .inr (hge k (by simp only [List.mem_cons, List.not_mem_nil, or_false] at hk ⊢; rcases hk with rfl | rfl | rfl <;> simp))), HLO.out⟩
    refine ⟨rfl, .inr ⟨g, 320, Z, rfl, Nat.zero_le _, (HK5.out.block g (Array.getElem?_eq_some_iff.1 HGG.out).1 (by simp; exact ⟨fun h => n2 h.symm, fun h => n3 h.symm, fun h => m6 h.symm⟩)).trans HGG.out, Nat.zero_le _, by decide, by rw [HZ.out], rfl⟩⟩
end Go.Proofs.YtdpnlmofkkdioaaDoor.Hf
