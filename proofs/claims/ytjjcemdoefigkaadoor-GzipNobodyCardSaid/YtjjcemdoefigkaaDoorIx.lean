/- The inflater: Done, Reason, Put, Next, Reset. -/
import Derived.Test.YtjjcemdoefigkaaDoorIu
namespace Go.Proofs.YtjjcemdoefigkaaDoor.Hf
set_option linter.unusedVariables false
set_option linter.unusedSimpArgs false
open Go.RowKit Go.Proofs.YtjjcemdoefigkaaDoor.W

theorem AdvPost.from {w0 w w' : World} {d r p q g : Nat} {m : M} {out : List Int} {bs : List Bool} {en : Ending} (h : AdvPost w d r p q g m out bs en w') (hk : Kp [d, r, p, q, g] w0 w) : AdvPost w0 d r p q g m out bs en w' := by
  obtain ⟨h1, m', out', bs', rdy, o, h2, h3, h4, h5, h6, h7⟩ := h
  exact ⟨h1, m', out', bs', rdy, o, h2, h3, h4, h5, hk.trans h6, h7⟩
section
variable {w : World} {d r p q g : Nat} {m : M} {out : List Int} {bs : List Bool} {rdy : Bool} {o : Int}
set_option maxHeartbeats 1000000 in
theorem c_done (h : Inf w d r p q g m out bs rdy o) :
    Calls Tryd.prog 18 #[.pointer (some ⟨d, 0, none⟩)] w fun e w' => e = .returned (.bool (m.fin && !rdy)) ∧ w = w' := by
  obtain ⟨l, e, c, hd, hT⟩ := h.db
  have c6 := hd.a (i := 6) rfl
  have c4 := hd.a (i := 4) rfl
  have hlt := hd.lt
  clear h hd hT
  cases hf : m.fin <;> rw [hf] at c4 <;> cases rdy <;> (clear hf; go_enter Tryd.func18, Tryd.ntmps18; go_wp2; go_ret; exact ⟨rfl, rfl⟩)
set_option maxHeartbeats 1000000 in
theorem c_reason (h : Inf w d r p q g m out bs rdy o) :
    Calls Tryd.prog 17 #[.pointer (some ⟨d, 0, none⟩)] w fun e w' => e = .returned (.int .i64 ((if rdy then 0 else m.why : Nat) : Int)) ∧ w = w' := by
  obtain ⟨l, e, c, hd, hT⟩ := h.db
  have c6 := hd.a (i := 6) rfl
  have c5 := hd.a (i := 5) rfl
  have hlt := hd.lt
  clear h hd hT
  cases rdy <;> (go_enter Tryd.func17, Tryd.ntmps17; go_wp2; go_ret; exact ⟨rfl, rfl⟩)
/-- Nothing more is taken. -/
def Shut (m : M) (rdy : Bool) : Prop := rdy = true ∨ ¬ Live m
set_option maxHeartbeats 1000000 in
theorem c_put_no (b : Int) (h : Inf w d r p q g m out bs rdy o) (hs : Shut m rdy) :
    Calls Tryd.prog 72 #[.pointer (some ⟨d, 0, none⟩), .int .u8 b] w fun e w' => e = .returned (.bool false) ∧ w = w' := by
  obtain ⟨l, e, c, hd, hT⟩ := h.db
  have c6 := hd.a (i := 6) rfl
  have c4 := hd.a (i := 4) rfl
  have c5 := hd.a (i := 5) rfl
  have hlt := hd.lt
  clear h hd hT
  by_cases hr : rdy = true
  · subst hr
    go_enter Tryd.func72, Tryd.ntmps72
    go_wp2
    go_ret
    exact ⟨rfl, rfl⟩
  · have hr2 : rdy = false := by cases rdy <;> simp_all
    subst hr2
    have hl : ¬ Live m := hs.resolve_left hr
    by_cases hf : m.fin = true
    · rw [hf] at c4
      clear hf hl hs
      go_enter Tryd.func72, Tryd.ntmps72
      go_wp2
      go_ret
      exact ⟨rfl, rfl⟩
    · have hf2 : m.fin = false := by cases h9 : m.fin with
        | false => rfl
        | true => exact absurd h9 hf
      have hw : ¬ m.why = 0 := fun h9 => hl ⟨h9, hf2⟩
      have hw2 : ((m.why : Int) == 0) = false := W.eqF (by omega)
      have hw3 : ((m.why : Int) != 0) = true := W.neT (by omega)
      rw [hf2] at c4
      clear hf hf2 hl hs hw
      go_enter Tryd.func72, Tryd.ntmps72
      go_wp2
      go_ret
      exact ⟨rfl, rfl⟩
set_option maxHeartbeats 1000000 in
theorem c_put_yes (b : Int) (h : Inf w d r p q g m out bs false 0) (hs : Live m) (hl : bs.length < 56) (hok : Ok m out) (hG : Gt w [d, r, p, q, g]) (hb0 : 0 ≤ b) (hb1 : b < 256) :
    Calls Tryd.prog 72 #[.pointer (some ⟨d, 0, none⟩), .int .u8 b] w fun e w' => e = .returned (.bool true) ∧ AdvPost w d r p q g m out (bs ++ byteB b) (.returned (.tuple #[])) w' := by
  obtain ⟨l, e, c, hd, hT⟩ := h.db
  obtain ⟨b0, hr, hb⟩ := h.rd
  obtain rfl := hb hs.1
  have c6 := hd.a (i := 6) rfl
  have c4 := hd.a (i := 4) rfl
  have c5 := hd.a (i := 5) rfl
  have c0 := hd.a (i := 0) rfl
  rw [hs.2] at c4
  rw [hs.1] at c5
  have hlt := hd.lt
  have cP := c_put r b0 b w hr (by omega) hb0 hb1
  unfold PutPost at cP
  have CP := Lib.hid cP
  have H := Lib.hid h
  have HD := Lib.hid hd
  have HT := Lib.hid hT
  have HOK := Lib.hid hok
  have HG := Lib.hid hG
  have hne := h.ne
  simp only [List.nodup_cons, List.mem_cons, List.not_mem_nil, or_false, not_or] at hne
  clear h hd hT hr hok hG cP
  go_enter Tryd.func72, Tryd.ntmps72
  go_wp2_with (first
    | (go_at_call 75; go_must (refine CP.out.mono ?_); rintro en w2 ⟨⟨z, rfl⟩, hr2, hk2⟩; have HK2 := Lib.hid hk2; have HI2 := Lib.hid (show Inf w2 d r p q g m out (b0 ++ byteB b) false 0 from H.out.turn (hk2.mono (by simp)) (HD.out.kept hk2 (by simp; exact hne.1.1)) (HT.out.kept hk2 (by simp)) ⟨_, hr2, fun _ => rfl⟩ rfl); clear hr2 hk2)
    | (go_at_call 24; go_must (refine (c_advance HI2.out (by rw [List.length_append, byteB_length]; omega) HOK.out (HG.out.kept HK2.out (by simp))).mono ?_); rintro en w3 hadv; obtain ⟨rfl, hadv2⟩ := hadv; have HA := Lib.hid hadv2; clear hadv2))
  go_ret
  exact ⟨rfl, AdvPost.from ⟨rfl, HA.out⟩ (HK2.out.mono (by simp))⟩
set_option maxHeartbeats 1000000 in
theorem c_next_no (h : Inf w d r p q g m out bs false o) :
    Calls Tryd.prog 14 #[.pointer (some ⟨d, 0, none⟩)] w fun e w' => e = .returned (.tuple #[.int .u8 0, .bool false]) ∧ w = w' := by
  obtain ⟨l, e, c, hd, hT⟩ := h.db
  have c6 := hd.a (i := 6) rfl
  have hlt := hd.lt
  clear h hd hT
  go_enter Tryd.func14, Tryd.ntmps14
  go_wp2
  go_ret2
  exact ⟨rfl, rfl⟩
set_option maxHeartbeats 1000000 in
theorem c_next_yes (h : Inf w d r p q g m out bs true o) (hl : bs.length < 64) (hok : Ok m out) (hG : Gt w [d, r, p, q, g]) :
    Calls Tryd.prog 14 #[.pointer (some ⟨d, 0, none⟩)] w fun e w' => e = .returned (.tuple #[.int .u8 o, .bool true]) ∧ AdvPost w d r p q g m out bs (.returned (.tuple #[])) w' := by
  obtain ⟨l, e, c, hd, hT⟩ := h.db
  have c6 := hd.a (i := 6) rfl
  have c7 := hd.a (i := 7) rfl
  have hlt := hd.lt
  have hf := hd.fz
  have HOK := Lib.hid hok
  have HK2 := Lib.hid (show Kp [d] w ((w.setCell ⟨d, 6, none⟩ (.bool false)).setCell ⟨d, 7, none⟩ (.int .u8 0)) from (kp_set (by simp) _ _).trans (kp_set (by simp) _ _))
  have HI2 := Lib.hid (show Inf ((w.setCell ⟨d, 6, none⟩ (.bool false)).setCell ⟨d, 7, none⟩ (.int .u8 0)) d r p q g m out bs false 0 from by
    obtain ⟨b0, hr, hb⟩ := h.rd
    have hne := h.ne
    simp only [List.nodup_cons, List.mem_cons, List.not_mem_nil, or_false, not_or] at hne
    exact h.turn (HK2.out.mono (by simp)) ((hd.setRdy false).setO 0) (hT.kept HK2.out (by simp)) ⟨b0, hr.kept HK2.out (by simp; exact fun h => hne.1.1 h.symm), hb⟩ rfl)
  have HG := Lib.hid (hG.kept HK2.out (by simp))
  clear h hd hT hok hG
  go_enter Tryd.func14, Tryd.ntmps14
  go_wp2_with (first
    | (go_at_call 24; go_must (refine (c_advance HI2.out hl HOK.out HG.out).mono ?_); rintro en w3 hadv; obtain ⟨rfl, hadv2⟩ := hadv; have HA := Lib.hid hadv2; clear hadv2))
  go_ret2
  exact ⟨rfl, AdvPost.from ⟨rfl, HA.out⟩ (HK2.out.mono (by simp))⟩
end
/-- A block that is known by its first cells. -/
structure DR (w : World) (d : Nat) (A F B : List Value) : Prop where
  cells : w.heap[d]? = some (.cells (A ++ (F ++ B)).toArray 52 (0, 0))
  len : A.length = 12
section
variable {w : World} {d r p q N : Nat} {A F B : List Value}
theorem DR.lt (h : DR w d A F B) : d < w.heap.size := (Array.getElem?_eq_some_iff.1 h.cells).1
theorem DR.fz (h : DR w d A F B) : ∀ i, w.frozen? ⟨d, i, none⟩ = false := fun i => frozen_of_row w d i _ _ h.cells
theorem DR.a (h : DR w d A F B) {i : Nat} {v : Value} (hi : A[i]? = some v) : w.cell? ⟨d, i, none⟩ = some v := by
  rw [cell_of_row w d i _ _ _ h.cells, List.getElem?_toArray, List.getElem?_append_left (List.getElem?_eq_some_iff.1 hi).1]
  exact hi
theorem DR.set (h : DR w d A F B) {i : Nat} (hi : i < 12) (v : Value) : DR (w.setCell ⟨d, i, none⟩ v) d (A.set i v) F B :=
  ⟨(heap_set h.cells _ _).trans (by rw [set_A (by rw [h.len]; exact hi)]), by rw [List.length_set]; exact h.len⟩
theorem DR.kept {S : List Nat} {w' : World} (h : DR w d A F B) (hk : Kp S w w') (h1 : d ∉ S) : DR w' d A F B := ⟨(hk.block d h.lt h1).trans h.cells, h.len⟩
set_option maxHeartbeats 2000000 in
theorem c_reset0 (v2 v3 v4 v5 v6 v7 v8 v9 v10 v11 : Value) {b0 : List Bool} {out : List Int} (h : DR w d [.pointer (some ⟨r, 0, none⟩), .pointer (some ⟨p, 0, none⟩), v2, v3, v4, v5, v6, v7, v8, v9, v10, v11] F B) (hr : Rd w r b0) (hg : Rg w p q N out) (n1 : d ≠ r) (n2 : d ≠ p) (n3 : d ≠ q) (n4 : r ≠ p) (n5 : r ≠ q) :
    Calls Tryd.prog 31 #[.pointer (some ⟨d, 0, none⟩)] w fun e w' => e = .returned (.tuple #[]) ∧ DR w' d [.pointer (some ⟨r, 0, none⟩), .pointer (some ⟨p, 0, none⟩), .func (Fn.func (phF .head)) #[.pointer (some ⟨d, 0, none⟩)] #[], .bool false, .bool false, .int .i64 0, .bool false, .int .u8 0, v8, v9, v10, v11] F B ∧ Rd w' r [] ∧ Rg w' p q N [] ∧ Kp [d, r, p] w w' := by
  have c0 := h.a (i := 0) rfl
  have hlt := h.lt
  have H := Lib.hid h
  have cR := c_clear r b0 w hr
  unfold ClearPost at cR
  have CR := Lib.hid cR
  have HG := Lib.hid hg
  clear h hr hg cR
  go_enter Tryd.func31, Tryd.ntmps31
  go_upto_region 3 with (first
    | (go_at_call 34; go_must (refine CR.out.mono ?_); rintro en w2 ⟨rfl, hr2, hk2⟩; have HR2 := Lib.hid hr2; have HK2 := Lib.hid hk2; have H2 := Lib.hid (H.out.kept hk2 (by simp; exact n1)); have HG2 := Lib.hid (HG.out.kept hk2 (by simp; exact n4.symm) (by simp; exact n5.symm)); have d1 := H2.out.a (i := 1) rfl; have dl := H2.out.lt; clear hr2 hk2)
    | (go_at_call 35; go_must (have cC := c_rclear p q N out w2 HG2.out); go_must (unfold RClear at cC); go_must (refine cC.mono ?_); rintro en w3 ⟨rfl, hg3, hk3⟩; have HG3 := Lib.hid hg3; have HK3 := Lib.hid hk3; have H3 := Lib.hid (H2.out.kept hk3 (by simp; exact n2)); have HR3 := Lib.hid (HR2.out.kept hk3 (by simp; exact n4)); clear hg3 hk3 cC))
  have e3 := H3.out.a (i := 3) rfl
  have e4 := H3.out.a (i := 4) rfl
  have e5 := H3.out.a (i := 5) rfl
  have e6 := H3.out.a (i := 6) rfl
  have e7 := H3.out.a (i := 7) rfl
  have ef := H3.out.fz
  have el := H3.out.lt
  have H4 := Lib.hid (((((H3.out.set (i := 3) (by omega) (.bool false)).set (i := 4) (by omega) (.bool false)).set (i := 5) (by omega) (.int .i64 0)).set (i := 6) (by omega) (.bool false)).set (i := 7) (by omega) (.int .u8 0))
  have hst := store_fn (fn := phF .head) (v := .pointer (some ⟨d, 0, none⟩)) (H4.out.a (i := 2) rfl) (H4.out.fz 2)
  rw [show phF .head = 36 from rfl] at hst
  have H5 := Lib.hid (H4.out.set (i := 2) (by omega) (.func (Fn.func (phF .head)) #[.pointer (some ⟨d, 0, none⟩)] #[]))
  have HK5 := Lib.hid (show Kp [d] w3 ((((((w3.setCell ⟨d, 3, none⟩ (.bool false)).setCell ⟨d, 4, none⟩ (.bool false)).setCell ⟨d, 5, none⟩ (.int .i64 0)).setCell ⟨d, 6, none⟩ (.bool false)).setCell ⟨d, 7, none⟩ (.int .u8 0)).setCell ⟨d, 2, none⟩ (.func (Fn.func (phF .head)) #[.pointer (some ⟨d, 0, none⟩)] #[])) from (((((kp_set (by simp) _ _).trans (kp_set (by simp) _ _)).trans (kp_set (by simp) _ _)).trans (kp_set (by simp) _ _)).trans (kp_set (by simp) _ _)).trans (kp_set (by simp) _ _))
  go_wp2
  refine bodyPost_end (results_none rfl _ _ _) rfl ?_
  exact ⟨rfl, H5.out, HR3.out.kept HK5.out (by simp; exact n1.symm), HG3.out.kept HK5.out (by simp; exact n2.symm) (by simp; exact n3.symm), ((HK2.out.mono (by simp)).trans (HK3.out.mono (by simp))).trans (HK5.out.mono (by simp))⟩
end
/-- The machine anew; what it does not look at stays. -/
def resetM (m : M) : M := { m with ph := .head, last := false, fin := false, why := 0 }
theorem c_reset {w : World} {d r p q g : Nat} {m : M} {out : List Int} {bs : List Bool} {rdy : Bool} {o : Int} (h : Inf w d r p q g m out bs rdy o) :
    Calls Tryd.prog 31 #[.pointer (some ⟨d, 0, none⟩)] w fun e w' => e = .returned (.tuple #[]) ∧ Inf w' d r p q g (resetM m) [] [] false 0 ∧ Kp [d, r, p, q, g] w w' := by
  obtain ⟨l, e, c, hd, hT⟩ := h.db
  obtain ⟨b0, hr, _⟩ := h.rd
  have hne := h.ne
  simp only [List.nodup_cons, List.mem_cons, List.not_mem_nil, or_false, not_or] at hne
  obtain ⟨⟨n1, n2, n3, n4⟩, ⟨n5, n6, n7⟩, ⟨n8, n9⟩, n10, _⟩ := hne
  refine (c_reset0 _ _ _ _ _ _ _ _ _ _ (F := ints m.fl) (B := inB m) ⟨hd.cells, rfl⟩ hr h.rg n1 n2 n3 n5 n6).mono ?_
  rintro en w2 ⟨rfl, hd2, hr2, hg2, hk2⟩
  refine ⟨rfl, ⟨⟨l, e, c, ⟨hd2.cells, hd.fl⟩, Tbs.none rfl rfl⟩, ⟨[], hr2, fun _ => rfl⟩, hg2, own_kp h.row hk2 ?_, h.ne⟩, hk2.mono (by simp)⟩
  simp
  exact ⟨fun h => n4 h.symm, fun h => n7 h.symm, fun h => n9 h.symm⟩
end Go.Proofs.YtjjcemdoefigkaaDoor.Hf
/- The inflater's making. -/
namespace Go.Proofs.YtjjcemdoefigkaaDoor.Hf
set_option linter.unusedVariables false
set_option linter.unusedSimpArgs false
open Go.RowKit Go.Proofs.YtjjcemdoefigkaaDoor.W

def m0 : M := ⟨.head, false, false, 0, [], [], [], [], List.replicate 19 0, 0, 0, 0, 0, 0, 0⟩
theorem Ok.m0 : Ok m0 [] := ⟨rfl, fun x hx => by rw [(List.mem_replicate.1 hx).2]; omega, fun x hx => (by cases hx), Nat.zero_le _, fun x hx => (by cases hx), fun _ => trivial⟩
def INew (w : World) (e : Ending) (w' : World) : Prop :=
  ∃ d r p q g, e = .returned (.pointer (some ⟨d, 0, none⟩)) ∧ Inf w' d r p q g m0 [] [] false 0 ∧ Kp [] w w' ∧ ∀ k ∈ [d, r, p, q, g], w.heap.size ≤ k
set_option maxHeartbeats 4000000 in
set_option maxRecDepth 100000 in
theorem c_inew (w : World) : Calls Tryd.prog 27 #[] w (INew w) := by
  have cN := c_rnew 32768 w (by omega) (by omega)
  unfold RNew at cN
  have CN := Lib.hid cN
  clear cN
  go_enter Tryd.func27, Tryd.ntmps27
  go_upto_region 2 with (first
    | (go_at_call 29; go_must (refine CN.out.mono ?_); rintro en w2 ⟨p, q, rfl, hg, hp, hq, hk⟩; have HG2 := Lib.hid hg; have HP := Lib.hid hp; have HQ := Lib.hid hq; have HK2 := Lib.hid hk; clear hg hp hq hk))
  have hmk : ∀ wq : World, Sem.run Tryd.prog (Instr.makeSlice 49 (.int .i64 0) (.int .i64 320)) wq = .ok (.slice (some ⟨wq.heap.size, 0, none⟩) 0 320) (wq.alloc (.cells (madeCells (Value.int .i64 0).cells 320) 3)) := fun wq => run_mk int8 .i64 .i64 (n := 0) (c := 320) (by omega) (by omega) (by omega) wq
  have HZ := Lib.hid (show (madeCells (Value.int .i64 0).cells 320).size = 320 by rw [size_madeCells])
  generalize madeCells (Value.int .i64 0).cells 320 = Z at *
  go_cut [3] (fun s3 wz => ∃ d r g, s3 = .pointer (some ⟨d, 0, none⟩) ∧ DR wz d [.pointer (some ⟨r, 0, none⟩), .pointer (some ⟨p, 0, none⟩), .nilFunc, .bool false, .bool false, .int .i64 0, .bool false, .int .u8 0, .pointer none, .pointer none, .pointer none, .slice (some ⟨g, 0, none⟩) 0 320] (ints m0.fl) (inB m0) ∧ Rd wz r [] ∧ wz.heap[g]? = some (.cells Z 3 (0, 0)) ∧ Kp [] w2 wz ∧ (w2.heap.size ≤ d ∧ w2.heap.size ≤ r ∧ w2.heap.size ≤ g) ∧ d ≠ r ∧ d ≠ g ∧ r ≠ g)
  case first =>
    go_region_with (first
      | (go_at_call 30; refine (c_newR _).mono ?_; rintro en w3 ⟨rfl, hr3, hk3⟩))
    · have hs3 : w2.heap.size < w3.heap.size := hr3.lt
      have k1 : Kp [] w3 (w3.alloc (.cells Z 3)) := (Kp.refl _ _).alloc _
      have k2 : Kp [] (w3.alloc (.cells Z 3)) ((w3.alloc (.cells Z 3)).alloc (.cells #[.pointer (some ⟨w2.heap.size, 0, none⟩), .pointer (some ⟨p, 0, none⟩), .nilFunc, .bool false, .bool false, .int .i64 0, .bool false, .int .u8 0, .pointer none, .pointer none, .pointer none, .slice (some ⟨w3.heap.size, 0, none⟩) 0 320, .int .i64 0, .int .i64 0, .int .i64 0, .int .i64 0, .int .i64 0, .int .i64 0, .int .i64 0, .int .i64 0, .int .i64 0, .int .i64 0, .int .i64 0, .int .i64 0, .int .i64 0, .int .i64 0, .int .i64 0, .int .i64 0, .int .i64 0, .int .i64 0, .int .i64 0, .int .i64 0, .int .i64 0, .int .i64 0, .int .i64 0, .int .i64 0, .int .i64 0] 52)) := (Kp.refl _ _).alloc _
      have hd5 := heap_alloc_new (w3.alloc (.cells Z 3)) (.cells #[.pointer (some ⟨w2.heap.size, 0, none⟩), .pointer (some ⟨p, 0, none⟩), .nilFunc, .bool false, .bool false, .int .i64 0, .bool false, .int .u8 0, .pointer none, .pointer none, .pointer none, .slice (some ⟨w3.heap.size, 0, none⟩) 0 320, .int .i64 0, .int .i64 0, .int .i64 0, .int .i64 0, .int .i64 0, .int .i64 0, .int .i64 0, .int .i64 0, .int .i64 0, .int .i64 0, .int .i64 0, .int .i64 0, .int .i64 0, .int .i64 0, .int .i64 0, .int .i64 0, .int .i64 0, .int .i64 0, .int .i64 0, .int .i64 0, .int .i64 0, .int .i64 0, .int .i64 0, .int .i64 0, .int .i64 0] 52)
      rw [show (w3.alloc (.cells Z 3)).heap.size = w3.heap.size + 1 by simp] at hd5
      have HD5 := Lib.hid hd5
      have HK5 := Lib.hid (k1.trans k2)
      have HG5 := Lib.hid ((k2.block _ (by simp) (by simp)).trans (heap_alloc_new w3 (.cells Z 3)))
      have HR3 := Lib.hid hr3
      have HK3 := Lib.hid hk3
      clear hd5 k1 k2 hr3 hk3 hmk
      go_wp2
      go_meet
      exact ⟨w3.heap.size + 1, w2.heap.size, w3.heap.size, rfl, ⟨HD5.out, rfl⟩, HR3.out.kept HK5.out (by simp), HG5.out, (((Kp.refl [] w2).drew).trans HK3.out).trans HK5.out, ⟨by omega, Nat.le_refl _, by omega⟩, by omega, by omega, by omega⟩
    · have hs3 : (w2.alloc (.cells Z 3)).drew.heap.size < w3.heap.size := hr3.lt
      have es : (w2.alloc (.cells Z 3)).drew.heap.size = w2.heap.size + 1 := by show (w2.alloc (.cells Z 3)).heap.size = _; simp
      rw [es] at hs3 hr3
      have k1 : Kp [] w2 (w2.alloc (.cells Z 3)).drew := ((Kp.refl _ _).alloc _).drew
      have k2 : Kp [] w3 (w3.alloc (.cells #[.pointer (some ⟨w2.heap.size + 1, 0, none⟩), .pointer (some ⟨p, 0, none⟩), .nilFunc, .bool false, .bool false, .int .i64 0, .bool false, .int .u8 0, .pointer none, .pointer none, .pointer none, .slice (some ⟨w2.heap.size, 0, none⟩) 0 320, .int .i64 0, .int .i64 0, .int .i64 0, .int .i64 0, .int .i64 0, .int .i64 0, .int .i64 0, .int .i64 0, .int .i64 0, .int .i64 0, .int .i64 0, .int .i64 0, .int .i64 0, .int .i64 0, .int .i64 0, .int .i64 0, .int .i64 0, .int .i64 0, .int .i64 0, .int .i64 0, .int .i64 0, .int .i64 0, .int .i64 0, .int .i64 0, .int .i64 0] 52)) := (Kp.refl _ _).alloc _
      have hd5 := heap_alloc_new w3 (.cells #[.pointer (some ⟨w2.heap.size + 1, 0, none⟩), .pointer (some ⟨p, 0, none⟩), .nilFunc, .bool false, .bool false, .int .i64 0, .bool false, .int .u8 0, .pointer none, .pointer none, .pointer none, .slice (some ⟨w2.heap.size, 0, none⟩) 0 320, .int .i64 0, .int .i64 0, .int .i64 0, .int .i64 0, .int .i64 0, .int .i64 0, .int .i64 0, .int .i64 0, .int .i64 0, .int .i64 0, .int .i64 0, .int .i64 0, .int .i64 0, .int .i64 0, .int .i64 0, .int .i64 0, .int .i64 0, .int .i64 0, .int .i64 0, .int .i64 0, .int .i64 0, .int .i64 0, .int .i64 0, .int .i64 0, .int .i64 0] 52)
      have hg5 : (w2.alloc (.cells Z 3)).drew.heap[w2.heap.size]? = some (.cells Z 3 (0, 0)) := heap_alloc_new w2 (.cells Z 3)
      have HD5 := Lib.hid hd5
      have HK1 := Lib.hid k1
      have HK5 := Lib.hid k2
      have HG5 := Lib.hid ((k2.block _ (by omega) (by simp)).trans ((hk3.block _ (by rw [es]; omega) (by simp)).trans hg5))
      have HR3 := Lib.hid hr3
      have HK3 := Lib.hid hk3
      clear hd5 k1 k2 hr3 hk3 hmk hg5 es
      go_wp2
      go_meet
      exact ⟨w3.heap.size, w2.heap.size + 1, w2.heap.size, rfl, ⟨HD5.out, rfl⟩, HR3.out.kept HK5.out (by simp), HG5.out, (HK1.out.trans HK3.out).trans HK5.out, ⟨by omega, by omega, Nat.le_refl _⟩, by omega, by omega, by omega⟩
  case rest =>
    obtain ⟨d, r, g, rfl, hd, hr, hg, hk, ⟨l1, l2, l3⟩, n1, n2, n3⟩ := hcut
    have hp2 := HG2.out.lt
    have hq2 := HG2.out.ltq
    have hs2 := HK2.out.size
    have hpq := HG2.out.ne
    have HP2 := HP.out
    have HQ2 := HQ.out
    have HNE := Lib.hid (show d ≠ p ∧ d ≠ q ∧ r ≠ p ∧ r ≠ q ∧ p ≠ q ∧ p ≠ g ∧ q ≠ g from ⟨by omega, by omega, by omega, by omega, hpq, by omega, by omega⟩)
    have HLO := Lib.hid (show ∀ k ∈ [d, r, p, q, g], w.heap.size ≤ k from fun k hk => by
      simp only [List.mem_cons, List.not_mem_nil, or_false] at hk
      rcases hk with rfl | rfl | rfl | rfl | rfl <;> omega)
    have CR := Lib.hid (c_reset0 _ _ _ _ _ _ _ _ _ _ hd hr (HG2.out.kept hk (by simp) (by simp)) n1 HNE.out.1 HNE.out.2.1 HNE.out.2.2.1 HNE.out.2.2.2.1)
    have HK := Lib.hid (HK2.out.trans hk)
    have HGG := Lib.hid hg
    have HN := Lib.hid (show d ≠ r ∧ d ≠ g ∧ r ≠ g from ⟨n1, n2, n3⟩)
    clear hd hr hg hk n1 n2 n3 l1 l2 l3 hp2 hq2 hs2 hpq HP2 HQ2 hmk
    go_wp2_with (first
      | (go_at_call 31; go_must (refine CR.out.mono ?_); rintro en w5 ⟨rfl, hd5, hr5, hg5, hk5⟩; have HD5 := Lib.hid hd5; have HR5 := Lib.hid hr5; have HG5 := Lib.hid hg5; have HK5 := Lib.hid hk5; clear hd5 hr5 hg5 hk5))
    go_ret
    obtain ⟨m1, m2, m3, m4, m5, m6, m7⟩ := HNE.out
    obtain ⟨n1, n2, n3⟩ := HN.out
    have hge := HLO.out
    refine ⟨d, r, p, q, g, rfl, ⟨⟨none, none, none, ⟨HD5.out.cells, rfl⟩, Tbs.none rfl rfl⟩, ⟨[], HR5.out, fun _ => rfl⟩, HG5.out, ?_, by simp; exact ⟨⟨n1, m1, m2, n2⟩, ⟨m3, m4, n3⟩, ⟨m5, m6⟩, m7⟩⟩, ((HK.out.mono (T := [d, r, p]) (by simp)).trans HK5.out).mono (fun k hk => .inr (hge k (by simp only [List.mem_cons, List.not_mem_nil, or_false] at hk ⊢; rcases hk with rfl | rfl | rfl <;> simp))), HLO.out⟩
    refine ⟨rfl, .inr ⟨g, 320, Z, rfl, Nat.zero_le _, (HK5.out.block g (Array.getElem?_eq_some_iff.1 HGG.out).1 (by simp; exact ⟨fun h => n2 h.symm, fun h => n3 h.symm, fun h => m6 h.symm⟩)).trans HGG.out, Nat.zero_le _, by decide, by rw [HZ.out], rfl⟩⟩
end Go.Proofs.YtjjcemdoefigkaaDoor.Hf
