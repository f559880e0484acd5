/- The inflater in memory; then, stop, over, give. -/
import Derived.Test.YtdpnlmofkkdioaaDoorIl
import Derived.Test.YtdpnlmofkkdioaaDoorMc
namespace Go.Proofs.YtdpnlmofkkdioaaDoor.Hf
set_option linter.unusedVariables false
set_option linter.unusedSimpArgs false
open Go.RowKit Go.Proofs.YtdpnlmofkkdioaaDoor.W

/-- Which function comes next. -/
def phF : Ph → Nat
  | .head => 37
  | .sth => 52
  | .sto => 68
  | .cts => 55
  | .lol => 74
  | .len => 82
  | .rep => 85
  | .lit => 54
  | .lbits => 73
  | .dst => 81
  | .dbits => 83
  | .cpy => 87
/-- The cells ahead of the lengths' lengths, and behind them. -/
def inA (d r p g : Nat) (l e c : Option Addr) (m : M) (rdy : Bool) (o : Int) : List Value :=
  [.pointer (some ⟨r, 0, none⟩), .pointer (some ⟨p, 0, none⟩), .func (Fn.func (phF m.ph)) #[.pointer (some ⟨d, 0, none⟩)] #[], .bool m.last, .bool m.fin, .int .i64 (m.why : Nat), .bool rdy, .int .u8 o,
    .pointer l, .pointer e, .pointer c, .slice (some ⟨g, 0, none⟩) m.row.length 320]
def inB (m : M) : List Value := [.int .i64 (m.lits : Nat), .int .i64 (m.wanted : Nat), .int .i64 (m.order : Nat), .int .i64 (m.sym : Nat), .int .i64 (m.left : Nat), .int .i64 (m.back : Nat)]
def inC (d r p g : Nat) (l e c : Option Addr) (m : M) (rdy : Bool) (o : Int) : List Value := inA d r p g l e c m rdy o ++ (ints m.fl ++ inB m)
/-- The inflater's block. -/
structure DB (w : World) (d r p g : Nat) (l e c : Option Addr) (m : M) (rdy : Bool) (o : Int) : Prop where
  cells : w.heap[d]? = some (.cells (inC d r p g l e c m rdy o).toArray 69 (0, 0))
  fl : m.fl.length = 19
theorem set_A {A B : List Value} {i : Nat} (h : i < A.length) (v : Value) : (A ++ B).toArray.setIfInBounds i v = (A.set i v ++ B).toArray := by
  rw [List.setIfInBounds_toArray, List.set_append_left _ _ h]
theorem set_B {A F B : List Value} (hA : A.length = 12) (hF : F.length = 19) (j : Nat) (v : Value) : (A ++ (F ++ B)).toArray.setIfInBounds (31 + j) v = (A ++ (F ++ B.set j v)).toArray := by
  rw [List.setIfInBounds_toArray, List.set_append_right _ _ (by omega), hA, show 31 + j - 12 = 19 + j by omega, List.set_append_right _ _ (by omega), hF, Nat.add_sub_cancel_left]
theorem set_F {A F B : List Value} (hA : A.length = 12) {j : Nat} (hF : j < F.length) (v : Value) : (A ++ (F ++ B)).toArray.setIfInBounds (12 + j) v = (A ++ (F.set j v ++ B)).toArray := by
  rw [List.setIfInBounds_toArray, List.set_append_right _ _ (by omega), hA, Nat.add_sub_cancel_left, List.set_append_left _ _ hF]
section
variable {w : World} {d r p g : Nat} {l e c : Option Addr} {m : M} {rdy : Bool} {o : Int}
theorem inA_length : (inA d r p g l e c m rdy o).length = 12 := rfl
theorem DB.lt (h : DB w d r p g l e c m rdy o) : d < w.heap.size := (Array.getElem?_eq_some_iff.1 h.cells).1
theorem DB.fz (h : DB w d r p g l e c m rdy o) : ∀ i, w.frozen? ⟨d, i, none⟩ = false := fun i => frozen_of_row w d i _ _ h.cells
theorem DB.a (h : DB w d r p g l e c m rdy o) {i : Nat} {v : Value} (hi : (inA d r p g l e c m rdy o)[i]? = some v) : w.cell? ⟨d, i, none⟩ = some v := by
  rw [cell_of_row w d i _ _ _ h.cells, List.getElem?_toArray]
  unfold inC
  rw [List.getElem?_append_left (List.getElem?_eq_some_iff.1 hi).1]
  exact hi
theorem DB.b (h : DB w d r p g l e c m rdy o) {j : Nat} {v : Value} (hi : (inB m)[j]? = some v) : w.cell? ⟨d, 31 + j, none⟩ = some v := by
  rw [cell_of_row w d (31 + j) _ _ _ h.cells, List.getElem?_toArray]
  unfold inC
  rw [List.getElem?_append_right (by rw [inA_length]; omega), inA_length, show 31 + j - 12 = 19 + j by omega, List.getElem?_append_right (by rw [ints_length, h.fl]; omega), ints_length, h.fl, Nat.add_sub_cancel_left]
  exact hi
theorem DB.f (h : DB w d r p g l e c m rdy o) {i n : Nat} (hi : m.fl[i]? = some n) : w.cell? ⟨d, 12 + i, none⟩ = some (.int .i64 (n : Nat)) := by
  rw [cell_of_row w d (12 + i) _ _ _ h.cells, List.getElem?_toArray]
  unfold inC
  rw [List.getElem?_append_right (by rw [inA_length]; omega), inA_length, Nat.add_sub_cancel_left, List.getElem?_append_left (by rw [ints_length]; exact (List.getElem?_eq_some_iff.1 hi).1)]
  exact ints_get hi
theorem DB.kept {S : List Nat} {w' : World} (h : DB w d r p g l e c m rdy o) (hk : Kp S w w') (h1 : d ∉ S) : DB w' d r p g l e c m rdy o := ⟨(hk.block d h.lt h1).trans h.cells, h.fl⟩
theorem DB.drew (h : DB w d r p g l e c m rdy o) : DB w.drew d r p g l e c m rdy o := ⟨h.cells, h.fl⟩
theorem DB.ph (h : DB w d r p g l e c m rdy o) (x : Ph) : DB (w.setCell ⟨d, 2, none⟩ (.func (Fn.func (phF x)) #[.pointer (some ⟨d, 0, none⟩)] #[])) d r p g l e c { m with ph := x } rdy o :=
  ⟨(heap_set h.cells _ _).trans (by unfold inC; rw [set_A (by rw [inA_length]; omega)]; rfl), h.fl⟩
theorem DB.last (h : DB w d r p g l e c m rdy o) (x : Bool) : DB (w.setCell ⟨d, 3, none⟩ (.bool x)) d r p g l e c { m with last := x } rdy o :=
  ⟨(heap_set h.cells _ _).trans (by unfold inC; rw [set_A (by rw [inA_length]; omega)]; rfl), h.fl⟩
theorem DB.fin (h : DB w d r p g l e c m rdy o) (x : Bool) : DB (w.setCell ⟨d, 4, none⟩ (.bool x)) d r p g l e c { m with fin := x } rdy o :=
  ⟨(heap_set h.cells _ _).trans (by unfold inC; rw [set_A (by rw [inA_length]; omega)]; rfl), h.fl⟩
theorem DB.why (h : DB w d r p g l e c m rdy o) (x : Nat) : DB (w.setCell ⟨d, 5, none⟩ (.int .i64 (x : Nat))) d r p g l e c { m with why := x } rdy o :=
  ⟨(heap_set h.cells _ _).trans (by unfold inC; rw [set_A (by rw [inA_length]; omega)]; rfl), h.fl⟩
theorem DB.setRdy (h : DB w d r p g l e c m rdy o) (x : Bool) : DB (w.setCell ⟨d, 6, none⟩ (.bool x)) d r p g l e c m x o :=
  ⟨(heap_set h.cells _ _).trans (by unfold inC; rw [set_A (by rw [inA_length]; omega)]; rfl), h.fl⟩
theorem DB.setO (h : DB w d r p g l e c m rdy o) (x : Int) : DB (w.setCell ⟨d, 7, none⟩ (.int .u8 x)) d r p g l e c m rdy x :=
  ⟨(heap_set h.cells _ _).trans (by unfold inC; rw [set_A (by rw [inA_length]; omega)]; rfl), h.fl⟩
theorem DB.setL (h : DB w d r p g l e c m rdy o) (x : Option Addr) : DB (w.setCell ⟨d, 8, none⟩ (.pointer x)) d r p g x e c m rdy o :=
  ⟨(heap_set h.cells _ _).trans (by unfold inC; rw [set_A (by rw [inA_length]; omega)]; rfl), h.fl⟩
theorem DB.setE (h : DB w d r p g l e c m rdy o) (x : Option Addr) : DB (w.setCell ⟨d, 9, none⟩ (.pointer x)) d r p g l x c m rdy o :=
  ⟨(heap_set h.cells _ _).trans (by unfold inC; rw [set_A (by rw [inA_length]; omega)]; rfl), h.fl⟩
theorem DB.setCd (h : DB w d r p g l e c m rdy o) (x : Option Addr) : DB (w.setCell ⟨d, 10, none⟩ (.pointer x)) d r p g l e x m rdy o :=
  ⟨(heap_set h.cells _ _).trans (by unfold inC; rw [set_A (by rw [inA_length]; omega)]; rfl), h.fl⟩
theorem DB.row (h : DB w d r p g l e c m rdy o) (x : List Nat) : DB (w.setCell ⟨d, 11, none⟩ (.slice (some ⟨g, 0, none⟩) x.length 320)) d r p g l e c { m with row := x } rdy o :=
  ⟨(heap_set h.cells _ _).trans (by unfold inC; rw [set_A (by rw [inA_length]; omega)]; rfl), h.fl⟩
theorem DB.setF (h : DB w d r p g l e c m rdy o) {i : Nat} (hi : i < 19) (x : Nat) : DB (w.setCell ⟨d, 12 + i, none⟩ (.int .i64 (x : Nat))) d r p g l e c { m with fl := m.fl.set i x } rdy o :=
  ⟨(heap_set h.cells _ _).trans (by unfold inC; rw [set_F inA_length (by rw [ints_length, h.fl]; exact hi), ints_set]; rfl), by dsimp only; rw [List.length_set]; exact h.fl⟩
theorem DB.lits (h : DB w d r p g l e c m rdy o) (x : Nat) : DB (w.setCell ⟨d, 31, none⟩ (.int .i64 (x : Nat))) d r p g l e c { m with lits := x } rdy o :=
  ⟨(heap_set h.cells _ _).trans (by unfold inC; rw [set_B inA_length (by rw [ints_length, h.fl]) 0]; rfl), h.fl⟩
theorem DB.wanted (h : DB w d r p g l e c m rdy o) (x : Nat) : DB (w.setCell ⟨d, 32, none⟩ (.int .i64 (x : Nat))) d r p g l e c { m with wanted := x } rdy o :=
  ⟨(heap_set h.cells _ _).trans (by unfold inC; rw [set_B inA_length (by rw [ints_length, h.fl]) 1]; rfl), h.fl⟩
theorem DB.order (h : DB w d r p g l e c m rdy o) (x : Nat) : DB (w.setCell ⟨d, 33, none⟩ (.int .i64 (x : Nat))) d r p g l e c { m with order := x } rdy o :=
  ⟨(heap_set h.cells _ _).trans (by unfold inC; rw [set_B inA_length (by rw [ints_length, h.fl]) 2]; rfl), h.fl⟩
theorem DB.sym (h : DB w d r p g l e c m rdy o) (x : Nat) : DB (w.setCell ⟨d, 34, none⟩ (.int .i64 (x : Nat))) d r p g l e c { m with sym := x } rdy o :=
  ⟨(heap_set h.cells _ _).trans (by unfold inC; rw [set_B inA_length (by rw [ints_length, h.fl]) 3]; rfl), h.fl⟩
theorem DB.left (h : DB w d r p g l e c m rdy o) (x : Nat) : DB (w.setCell ⟨d, 35, none⟩ (.int .i64 (x : Nat))) d r p g l e c { m with left := x } rdy o :=
  ⟨(heap_set h.cells _ _).trans (by unfold inC; rw [set_B inA_length (by rw [ints_length, h.fl]) 4]; rfl), h.fl⟩
theorem DB.back (h : DB w d r p g l e c m rdy o) (x : Nat) : DB (w.setCell ⟨d, 36, none⟩ (.int .i64 (x : Nat))) d r p g l e c { m with back := x } rdy o :=
  ⟨(heap_set h.cells _ _).trans (by unfold inC; rw [set_B inA_length (by rw [ints_length, h.fl]) 5]; rfl), h.fl⟩
theorem kp_set {S : List Nat} (h : d ∈ S) (i : Nat) (v : Value) : Kp S w (w.setCell ⟨d, i, none⟩ v) := (Kp.refl S w).setCell (.inl h) v

theorem store_fn {fn : Nat} {v v0 : Value} {i : Nat} (h : w.cell? ⟨d, i, none⟩ = some v0) (hf : w.frozen? ⟨d, i, none⟩ = false) : Sem.run Tryd.prog (store ⟨d, i, none⟩ (.func (Fn.func fn) #[v] #[])) w = .ok () (w.setCell ⟨d, i, none⟩ (.func (Fn.func fn) #[v] #[])) := by
  rw [run_store _ _ _ _ _ rfl, h]
  simp [hf]
set_option maxHeartbeats 1000000 in
theorem c_then (x : Ph) (h : DB w d r p g l e c m rdy o) :
    Calls Tryd.prog 51 #[.pointer (some ⟨d, 0, none⟩), .func (Fn.func (phF x)) #[.pointer (some ⟨d, 0, none⟩)] #[]] w fun en w' => en = .returned (.bool true) ∧ DB w' d r p g l e c { m with ph := x } rdy o ∧ Kp [d] w w' := by
  have h2 := h.a (i := 2) rfl
  have hf := h.fz
  have hlt := h.lt
  have H := Lib.hid (h.ph x)
  clear h
  generalize phF x = f at *
  generalize phF m.ph = f0 at *
  have hst := store_fn (fn := f) (v := .pointer (some ⟨d, 0, none⟩)) h2 (hf 2)
  go_enter Tryd.func51, Tryd.ntmps51
  go_wp2
  go_ret
  exact ⟨rfl, H.out, kp_set (by simp) _ _⟩
set_option maxHeartbeats 1000000 in
theorem c_stop (x : Nat) (h : DB w d r p g l e c m rdy o) :
    Calls Tryd.prog 56 #[.pointer (some ⟨d, 0, none⟩), .int .i64 (x : Nat)] w fun en w' => en = .returned (.bool true) ∧ DB w' d r p g l e c (stopM m x) rdy o ∧ Kp [d] w w' := by
  have h5 := h.a (i := 5) rfl
  have hf := h.fz
  have hlt := h.lt
  have H := Lib.hid (h.why x)
  clear h
  go_enter Tryd.func56, Tryd.ntmps56
  go_wp2
  go_ret
  exact ⟨rfl, H.out, kp_set (by simp) _ _⟩
set_option maxHeartbeats 1000000 in
theorem c_over (h : DB w d r p g l e c m rdy o) :
    Calls Tryd.prog 72 #[.pointer (some ⟨d, 0, none⟩)] w fun en w' => en = .returned (.bool true) ∧ DB w' d r p g l e c (overM m) rdy o ∧ Kp [d] w w' := by
  have h3 := h.a (i := 3) rfl
  have h4 := h.a (i := 4) rfl
  have hf := h.fz
  have hlt := h.lt
  have CT := Lib.hid (c_then .head (h.fin m.last))
  clear h
  go_enter Tryd.func72, Tryd.ntmps72
  go_wp2_with (first
    | (go_at_call 51; go_must (refine CT.out.mono ?_); rintro en w2 ⟨rfl, hd, hk⟩))
  go_ret
  exact ⟨rfl, hd, (kp_set (by simp) _ _).trans hk⟩
end
set_option maxHeartbeats 1000000 in
theorem c_give {w : World} {d r p g q N : Nat} {l e c : Option Addr} {m : M} {rdy : Bool} {o : Int} {out : List Int} (b : Int) (h : DB w d r p g l e c m rdy o) (hr : Rg w p q N out) (hN : N ≤ 32768) (hb0 : 0 ≤ b) (hb1 : b < 256) (hdp : d ≠ p) (hdq : d ≠ q) :
    Calls Tryd.prog 71 #[.pointer (some ⟨d, 0, none⟩), .int .u8 b] w fun en w' => en = .returned (.bool true) ∧ DB w' d r p g l e c m true b ∧ Rg w' p q N (out ++ [b]) ∧ Kp [d, p, q] w w' := by
  have h1 := h.a (i := 1) rfl
  have hlt := h.lt
  have HH := Lib.hid h
  have cP := c_rput p q N out b w hr hN hb0 hb1
  unfold RPut at cP
  have CP := Lib.hid cP
  have HK := Lib.hid (show ∀ w2, Kp [p, q] w w2 → DB w2 d r p g l e c m rdy o from fun w2 hk => HH.out.kept hk (by simp [hdp, hdq]))
  clear h cP
  go_enter Tryd.func71, Tryd.ntmps71
  go_wp2_with (first
    | (go_at_call 80; go_must (refine CP.out.mono ?_); rintro en w2 ⟨rfl, hg, hk⟩
       have HD := Lib.hid (HK.out w2 hk); have HG := Lib.hid hg; have HK2 := Lib.hid hk; have g6 := HD.out.a (i := 6) rfl; have g7 := HD.out.a (i := 7) rfl; have gf := HD.out.fz; have gl := HD.out.lt; clear hg hk))
  go_ret
  have k2 : Kp [d] w2 ((w2.setCell ⟨d, 6, none⟩ (.bool true)).setCell ⟨d, 7, none⟩ (.int .u8 b)) := (kp_set (by simp) _ _).trans (kp_set (by simp) _ _)
  exact ⟨rfl, (HD.out.setRdy true).setO b, HG.out.kept k2 (by simpa using hdp.symm) (by simpa using hdq.symm), (HK2.out.mono (by simp)).trans (k2.mono (by simp))⟩
end Go.Proofs.YtdpnlmofkkdioaaDoor.Hf
