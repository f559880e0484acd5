/- The inflater in memory; then, stop, over, give. -/
import Derived.Test.YtjjcemdoefigkaaDoorIl
import Derived.Test.YtjjcemdoefigkaaDoorMa
import Derived.Deep.MidRow
import Derived.Deep.RegionHeld3
namespace Go.Proofs.YtjjcemdoefigkaaDoor.Hf
set_option linter.unusedVariables false
set_option linter.unusedSimpArgs false
open Go.RowKit Go.Proofs.YtjjcemdoefigkaaDoor.W

/-- Which function comes next. -/
def phF : Ph → Nat
  | .head => 36
  | .sth => 43
  | .sto => 52
  | .cts => 46
  | .lol => 58
  | .len => 67
  | .rep => 71
  | .lit => 45
  | .lbits => 57
  | .dst => 66
  | .dbits => 69
  | .cpy => 74
/-- The cells ahead of the lengths' lengths, and behind them. -/
def inA (d r p g : Nat) (l e c : Option Addr) (m : M) (rdy : Bool) (o : Int) : List Value :=
  [.pointer (some ⟨r, 0, none⟩), .pointer (some ⟨p, 0, none⟩), .func (Fn.func (phF m.ph)) #[.pointer (some ⟨d, 0, none⟩)] #[], .bool m.last, .bool m.fin, .int .i64 (m.why : Nat), .bool rdy, .int .u8 o,
    .pointer l, .pointer e, .pointer c, .slice (some ⟨g, 0, none⟩) m.row.length 320]
def inB (m : M) : List Value := [.int .i64 (m.lits : Nat), .int .i64 (m.wanted : Nat), .int .i64 (m.order : Nat), .int .i64 (m.sym : Nat), .int .i64 (m.left : Nat), .int .i64 (m.back : Nat)]
def inC (d r p g : Nat) (l e c : Option Addr) (m : M) (rdy : Bool) (o : Int) : List Value := inA d r p g l e c m rdy o ++ (ints m.fl ++ inB m)
/-- The inflater's block. -/
structure DB (w : World) (d r p g : Nat) (l e c : Option Addr) (m : M) (rdy : Bool) (o : Int) : Prop where
  cells : w.heap[d]? = some (.cells (inC d r p g l e c m rdy o).toArray 52 (0, 0))
  fl : m.fl.length = 19
theorem set_A {A B : List Value} {i : Nat} (h : i < A.length) (v : Value) : (A ++ B).toArray.setIfInBounds i v = (A.set i v ++ B).toArray := by
  rw [List.setIfInBounds_toArray, List.set_append_left _ _ h]
theorem set_B {A F B : List Value} (hA : A.length = 12) (hF : F.length = 19) (j : Nat) (v : Value) : (A ++ (F ++ B)).toArray.setIfInBounds (31 + j) v = (A ++ (F ++ B.set j v)).toArray := by
  rw [List.setIfInBounds_toArray, List.set_append_right _ _ (by omega), hA, show 31 + j - 12 = 19 + j by omega, List.set_append_right _ _ (by omega), hF, Nat.add_sub_cancel_left]
theorem set_F {A F B : List Value} (hA : A.length = 12) {j : Nat} (hF : j < F.length) (v : Value) : (A ++ (F ++ B)).toArray.setIfInBounds (12 + j) v = (A ++ (F.set j v ++ B)).toArray := by
  rw [List.setIfInBounds_toArray, List.set_append_right _ _ (by omega), hA, Nat.add_sub_cancel_left, List.set_append_left _ _ hF]
section
variable {w : World} {d r p g : Nat} {l e c : Option Addr} {m : M} {rdy : Bool} {o : Int}
theorem inA_length : (inA d r p g l e c m rdy o).length = 12 := rfl
theorem DB.lt (h : DB w d r p g l e c m rdy o) : d < w.heap.size := (Array.getElem?_eq_some_iff.1 h.cells).1
theorem DB.fz (h : DB w d r p g l e c m rdy o) : ∀ i, w.frozen? ⟨d, i, none⟩ = false := fun i => frozen_of_row w d i _ _ h.cells
theorem DB.a (h : DB w d r p g l e c m rdy o) {i : Nat} {v : Value} (hi : (inA d r p g l e c m rdy o)[i]? = some v) : w.cell? ⟨d, i, none⟩ = some v := by
  rw [cell_of_row w d i _ _ _ h.cells, List.getElem?_toArray]
  unfold inC
  rw [List.getElem?_append_left (List.getElem?_eq_some_iff.1 hi).1]
  exact hi
theorem DB.b (h : DB w d r p g l e c m rdy o) {j : Nat} {v : Value} (hi : (inB m)[j]? = some v) : w.cell? ⟨d, 31 + j, none⟩ = some v := by
  rw [cell_of_row w d (31 + j) _ _ _ h.cells, List.getElem?_toArray]
  unfold inC
  rw [List.getElem?_append_right (by rw [inA_length]; omega), inA_length, show 31 + j - 12 = 19 + j by omega, List.getElem?_append_right (by rw [ints_length, h.fl]; omega), ints_length, h.fl, Nat.add_sub_cancel_left]
  exact hi
theorem DB.f (h : DB w d r p g l e c m rdy o) {i n : Nat} (hi : m.fl[i]? = some n) : w.cell? ⟨d, 12 + i, none⟩ = some (.int .i64 (n : Nat)) := by
  rw [cell_of_row w d (12 + i) _ _ _ h.cells, List.getElem?_toArray]
  unfold inC
  rw [List.getElem?_append_right (by rw [inA_length]; omega), inA_length, Nat.add_sub_cancel_left, List.getElem?_append_left (by rw [ints_length]; exact (List.getElem?_eq_some_iff.1 hi).1)]
  exact ints_get hi
theorem DB.kept {S : List Nat} {w' : World} (h : DB w d r p g l e c m rdy o) (hk : Kp S w w') (h1 : d ∉ S) : DB w' d r p g l e c m rdy o := ⟨(hk.block d h.lt h1).trans h.cells, h.fl⟩
theorem DB.drew (h : DB w d r p g l e c m rdy o) : DB w.drew d r p g l e c m rdy o := ⟨h.cells, h.fl⟩
theorem DB.ph (h : DB w d r p g l e c m rdy o) (x : Ph) : DB (w.setCell ⟨d, 2, none⟩ (.func (Fn.func (phF x)) #[.pointer (some ⟨d, 0, none⟩)] #[])) d r p g l e c { m with ph := x } rdy o :=
  ⟨(heap_set h.cells _ _).trans (by unfold inC; rw [set_A (by rw [inA_length]; omega)]; rfl), h.fl⟩
theorem DB.last (h : DB w d r p g l e c m rdy o) (x : Bool) : DB (w.setCell ⟨d, 3, none⟩ (.bool x)) d r p g l e c { m with last := x } rdy o :=
  ⟨(heap_set h.cells _ _).trans (by unfold inC; rw [set_A (by rw [inA_length]; omega)]; rfl), h.fl⟩
theorem DB.fin (h : DB w d r p g l e c m rdy o) (x : Bool) : DB (w.setCell ⟨d, 4, none⟩ (.bool x)) d r p g l e c { m with fin := x } rdy o :=
  ⟨(heap_set h.cells _ _).trans (by unfold inC; rw [set_A (by rw [inA_length]; omega)]; rfl), h.fl⟩
theorem DB.why (h : DB w d r p g l e c m rdy o) (x : Nat) : DB (w.setCell ⟨d, 5, none⟩ (.int .i64 (x : Nat))) d r p g l e c { m with why := x } rdy o :=
  ⟨(heap_set h.cells _ _).trans (by unfold inC; rw [set_A (by rw [inA_length]; omega)]; rfl), h.fl⟩
theorem DB.setRdy (h : DB w d r p g l e c m rdy o) (x : Bool) : DB (w.setCell ⟨d, 6, none⟩ (.bool x)) d r p g l e c m x o :=
  ⟨(heap_set h.cells _ _).trans (by unfold inC; rw [set_A (by rw [inA_length]; omega)]; rfl), h.fl⟩
theorem DB.setO (h : DB w d r p g l e c m rdy o) (x : Int) : DB (w.setCell ⟨d, 7, none⟩ (.int .u8 x)) d r p g l e c m rdy x :=
  ⟨(heap_set h.cells _ _).trans (by unfold inC; rw [set_A (by rw [inA_length]; omega)]; rfl), h.fl⟩
theorem DB.setL (h : DB w d r p g l e c m rdy o) (x : Option Addr) : DB (w.setCell ⟨d, 8, none⟩ (.pointer x)) d r p g x e c m rdy o :=
  ⟨(heap_set h.cells _ _).trans (by unfold inC; rw [set_A (by rw [inA_length]; omega)]; rfl), h.fl⟩
theorem DB.setE (h : DB w d r p g l e c m rdy o) (x : Option Addr) : DB (w.setCell ⟨d, 9, none⟩ (.pointer x)) d r p g l x c m rdy o :=
  ⟨(heap_set h.cells _ _).trans (by unfold inC; rw [set_A (by rw [inA_length]; omega)]; rfl), h.fl⟩
theorem DB.setCd (h : DB w d r p g l e c m rdy o) (x : Option Addr) : DB (w.setCell ⟨d, 10, none⟩ (.pointer x)) d r p g l e x m rdy o :=
  ⟨(heap_set h.cells _ _).trans (by unfold inC; rw [set_A (by rw [inA_length]; omega)]; rfl), h.fl⟩
theorem DB.row (h : DB w d r p g l e c m rdy o) (x : List Nat) : DB (w.setCell ⟨d, 11, none⟩ (.slice (some ⟨g, 0, none⟩) x.length 320)) d r p g l e c { m with row := x } rdy o :=
  ⟨(heap_set h.cells _ _).trans (by unfold inC; rw [set_A (by rw [inA_length]; omega)]; rfl), h.fl⟩
theorem DB.setF (h : DB w d r p g l e c m rdy o) {i : Nat} (hi : i < 19) (x : Nat) : DB (w.setCell ⟨d, 12 + i, none⟩ (.int .i64 (x : Nat))) d r p g l e c { m with fl := m.fl.set i x } rdy o :=
  ⟨(heap_set h.cells _ _).trans (by unfold inC; rw [set_F inA_length (by rw [ints_length, h.fl]; exact hi), ints_set]; rfl), by dsimp only; rw [List.length_set]; exact h.fl⟩
theorem DB.lits (h : DB w d r p g l e c m rdy o) (x : Nat) : DB (w.setCell ⟨d, 31, none⟩ (.int .i64 (x : Nat))) d r p g l e c { m with lits := x } rdy o :=
  ⟨(heap_set h.cells _ _).trans (by unfold inC; rw [set_B inA_length (by rw [ints_length, h.fl]) 0]; rfl), h.fl⟩
theorem DB.wanted (h : DB w d r p g l e c m rdy o) (x : Nat) : DB (w.setCell ⟨d, 32, none⟩ (.int .i64 (x : Nat))) d r p g l e c { m with wanted := x } rdy o :=
  ⟨(heap_set h.cells _ _).trans (by unfold inC; rw [set_B inA_length (by rw [ints_length, h.fl]) 1]; rfl), h.fl⟩
theorem DB.order (h : DB w d r p g l e c m rdy o) (x : Nat) : DB (w.setCell ⟨d, 33, none⟩ (.int .i64 (x : Nat))) d r p g l e c { m with order := x } rdy o :=
  ⟨(heap_set h.cells _ _).trans (by unfold inC; rw [set_B inA_length (by rw [ints_length, h.fl]) 2]; rfl), h.fl⟩
theorem DB.sym (h : DB w d r p g l e c m rdy o) (x : Nat) : DB (w.setCell ⟨d, 34, none⟩ (.int .i64 (x : Nat))) d r p g l e c { m with sym := x } rdy o :=
  ⟨(heap_set h.cells _ _).trans (by unfold inC; rw [set_B inA_length (by rw [ints_length, h.fl]) 3]; rfl), h.fl⟩
theorem DB.left (h : DB w d r p g l e c m rdy o) (x : Nat) : DB (w.setCell ⟨d, 35, none⟩ (.int .i64 (x : Nat))) d r p g l e c { m with left := x } rdy o :=
  ⟨(heap_set h.cells _ _).trans (by unfold inC; rw [set_B inA_length (by rw [ints_length, h.fl]) 4]; rfl), h.fl⟩
theorem DB.back (h : DB w d r p g l e c m rdy o) (x : Nat) : DB (w.setCell ⟨d, 36, none⟩ (.int .i64 (x : Nat))) d r p g l e c { m with back := x } rdy o :=
  ⟨(heap_set h.cells _ _).trans (by unfold inC; rw [set_B inA_length (by rw [ints_length, h.fl]) 5]; rfl), h.fl⟩
theorem kp_set {S : List Nat} (h : d ∈ S) (i : Nat) (v : Value) : Kp S w (w.setCell ⟨d, i, none⟩ v) := (Kp.refl S w).setCell (.inl h) v

theorem store_fn {fn : Nat} {v v0 : Value} {i : Nat} (h : w.cell? ⟨d, i, none⟩ = some v0) (hf : w.frozen? ⟨d, i, none⟩ = false) : Sem.run Tryd.prog (store ⟨d, i, none⟩ (.func (Fn.func fn) #[v] #[])) w = .ok () (w.setCell ⟨d, i, none⟩ (.func (Fn.func fn) #[v] #[])) := by
  rw [run_store _ _ _ _ _ rfl, h]
  simp [hf]
set_option maxHeartbeats 1000000 in
theorem c_then (x : Ph) (h : DB w d r p g l e c m rdy o) :
    Calls Tryd.prog 42 #[.pointer (some ⟨d, 0, none⟩), .func (Fn.func (phF x)) #[.pointer (some ⟨d, 0, none⟩)] #[]] w fun en w' => en = .returned (.bool true) ∧ DB w' d r p g l e c { m with ph := x } rdy o ∧ Kp [d] w w' := by
  have h2 := h.a (i := 2) rfl
  have hf := h.fz
  have hlt := h.lt
  have H := Lib.hid (h.ph x)
  clear h
  generalize phF x = f at *
  generalize phF m.ph = f0 at *
  have hst := store_fn (fn := f) (v := .pointer (some ⟨d, 0, none⟩)) h2 (hf 2)
  go_enter Tryd.func42, Tryd.ntmps42
  go_wp2
  go_ret
  exact ⟨rfl, H.out, kp_set (by simp) _ _⟩
set_option maxHeartbeats 1000000 in
theorem c_stop (x : Nat) (h : DB w d r p g l e c m rdy o) :
    Calls Tryd.prog 47 #[.pointer (some ⟨d, 0, none⟩), .int .i64 (x : Nat)] w fun en w' => en = .returned (.bool true) ∧ DB w' d r p g l e c (stopM m x) rdy o ∧ Kp [d] w w' := by
  have h5 := h.a (i := 5) rfl
  have hf := h.fz
  have hlt := h.lt
  have H := Lib.hid (h.why x)
  clear h
  go_enter Tryd.func47, Tryd.ntmps47
  go_wp2
  go_ret
  exact ⟨rfl, H.out, kp_set (by simp) _ _⟩
set_option maxHeartbeats 1000000 in
theorem c_over (h : DB w d r p g l e c m rdy o) :
    Calls Tryd.prog 56 #[.pointer (some ⟨d, 0, none⟩)] w fun en w' => en = .returned (.bool true) ∧ DB w' d r p g l e c (overM m) rdy o ∧ Kp [d] w w' := by
  have h3 := h.a (i := 3) rfl
  have h4 := h.a (i := 4) rfl
  have hf := h.fz
  have hlt := h.lt
  have CT := Lib.hid (c_then .head (h.fin m.last))
  clear h
  go_enter Tryd.func56, Tryd.ntmps56
  go_wp2_with (first
    | (go_at_call 42; go_must (refine CT.out.mono ?_); rintro en w2 ⟨rfl, hd, hk⟩))
  go_ret
  exact ⟨rfl, hd, (kp_set (by simp) _ _).trans hk⟩
end
set_option maxHeartbeats 1000000 in
theorem c_give {w : World} {d r p g q N : Nat} {l e c : Option Addr} {m : M} {rdy : Bool} {o : Int} {out : List Int} (b : Int) (h : DB w d r p g l e c m rdy o) (hr : Rg w p q N out) (hN : N ≤ 32768) (hb0 : 0 ≤ b) (hb1 : b < 256) (hdp : d ≠ p) (hdq : d ≠ q) :
    Calls Tryd.prog 55 #[.pointer (some ⟨d, 0, none⟩), .int .u8 b] w fun en w' => en = .returned (.bool true) ∧ DB w' d r p g l e c m true b ∧ Rg w' p q N (out ++ [b]) ∧ Kp [d, p, q] w w' := by
  have h1 := h.a (i := 1) rfl
  have hlt := h.lt
  have HH := Lib.hid h
  have cP := c_rput p q N out b w hr hN hb0 hb1
  unfold RPut at cP
  have CP := Lib.hid cP
  have HK := Lib.hid (show ∀ w2, Kp [p, q] w w2 → DB w2 d r p g l e c m rdy o from fun w2 hk => HH.out.kept hk (by simp [hdp, hdq]))
  clear h cP
  go_enter Tryd.func55, Tryd.ntmps55
  go_wp2_with (first
    | (go_at_call 65; go_must (refine CP.out.mono ?_); rintro en w2 ⟨rfl, hg, hk⟩
       have HD := Lib.hid (HK.out w2 hk); have HG := Lib.hid hg; have HK2 := Lib.hid hk; have g6 := HD.out.a (i := 6) rfl; have g7 := HD.out.a (i := 7) rfl; have gf := HD.out.fz; have gl := HD.out.lt; clear hg hk))
  go_ret
  have k2 : Kp [d] w2 ((w2.setCell ⟨d, 6, none⟩ (.bool true)).setCell ⟨d, 7, none⟩ (.int .u8 b)) := (kp_set (by simp) _ _).trans (kp_set (by simp) _ _)
  exact ⟨rfl, (HD.out.setRdy true).setO b, HG.out.kept k2 (by simpa using hdp.symm) (by simpa using hdq.symm), (HK2.out.mono (by simp)).trans (k2.mono (by simp))⟩
end Go.Proofs.YtjjcemdoefigkaaDoor.Hf
/- The inflater: what a step's walk tells; storedHead, stored. -/
namespace Go.Proofs.YtjjcemdoefigkaaDoor.Hf
set_option linter.unusedVariables false
set_option linter.unusedSimpArgs false
open Go.RowKit Go.Proofs.YtjjcemdoefigkaaDoor.W

def usesT : Ph → Bool
  | .lit => true
  | .lbits => true
  | .dst => true
  | .dbits => true
  | .cpy => true
  | _ => false
def usesC : Ph → Bool
  | .len => true
  | .rep => true
  | _ => false
structure Tbs (w : World) (D : List Nat) (l e c : Option Addr) (m : M) : Prop where
  l : usesT m.ph = true → ∃ t, l = some ⟨t, 0, none⟩ ∧ Tb w D t m.lt
  e : usesT m.ph = true → ∃ t, e = some ⟨t, 0, none⟩ ∧ Tb w D t m.ds
  c : usesC m.ph = true → ∃ t, c = some ⟨t, 0, none⟩ ∧ Tb w D t m.cd
/-- The inflater at d, its reader, its ring, its row: the machine m, what it gave, the bits that it holds; a byte that waits. -/
structure Inf (w : World) (d r p q g : Nat) (m : M) (out : List Int) (bs : List Bool) (rdy : Bool) (o : Int) : Prop where
  db : ∃ l e c, DB w d r p g l e c m rdy o ∧ Tbs w [d, r, p, q, g] l e c m
  rd : ∃ b0, Rd w r b0 ∧ (m.why = 0 → b0 = bs)
  rg : Rg w p q 32768 out
  row : w.ownsRow 0 3 1 (.slice (some ⟨g, 0, none⟩) m.row.length 320) m.row.length (ints m.row)
  ne : [d, r, p, q, g].Nodup
section
variable {w w' : World} {d r p q g : Nat} {l e c : Option Addr} {m m' : M} {out : List Int} {bs bs' : List Bool} {rdy rdy' : Bool} {o o' : Int}
theorem Tbs.kept {T D : List Nat} (h : Tbs w D l e c m) (hk : Kp T w w') (hT : ∀ k ∈ T, k ∈ D) : Tbs w' D l e c m where
  l hu := by obtain ⟨t, h1, h2⟩ := h.l hu; exact ⟨t, h1, h2.kept hk fun k hk => .inl (hT k hk)⟩
  e hu := by obtain ⟨t, h1, h2⟩ := h.e hu; exact ⟨t, h1, h2.kept hk fun k hk => .inl (hT k hk)⟩
  c hu := by obtain ⟨t, h1, h2⟩ := h.c hu; exact ⟨t, h1, h2.kept hk fun k hk => .inl (hT k hk)⟩
theorem Tbs.none {D : List Nat} (h1 : usesT m.ph = false) (h2 : usesC m.ph = false) : Tbs w D l e c m :=
  ⟨fun h => (by rw [h1] at h; cases h), fun h => (by rw [h1] at h; cases h), fun h => (by rw [h2] at h; cases h)⟩
/-- Both machines use the same tables. -/
theorem Tbs.same {D : List Nat} (h : Tbs w D l e c m) (h1 : usesT m'.ph = true → usesT m.ph = true) (h2 : usesC m'.ph = true → usesC m.ph = true) (e1 : m'.lt = m.lt) (e2 : m'.ds = m.ds) (e3 : m'.cd = m.cd) : Tbs w D l e c m' where
  l hu := by rw [e1]; exact h.l (h1 hu)
  e hu := by rw [e2]; exact h.e (h1 hu)
  c hu := by rw [e3]; exact h.c (h2 hu)
theorem Inf.turn (h : Inf w d r p q g m out bs rdy o) (hk : Kp [d, r] w w') (hd : DB w' d r p g l e c m' rdy' o') (hT : Tbs w' [d, r, p, q, g] l e c m') (hr : ∃ b0, Rd w' r b0 ∧ (m'.why = 0 → b0 = bs')) (hrow : m'.row = m.row) : Inf w' d r p q g m' out bs' rdy' o' := by
  have hne := h.ne
  simp only [List.nodup_cons, List.mem_cons, List.not_mem_nil, or_false, not_or] at hne
  obtain ⟨⟨n1, n2, n3, n4⟩, ⟨n5, n6, n7⟩, ⟨n8, n9⟩, n10, _⟩ := hne
  refine ⟨⟨l, e, c, hd, hT⟩, hr, h.rg.kept hk ?_ ?_, ?_, h.ne⟩
  · simp; exact ⟨fun h => n2 h.symm, fun h => n5 h.symm⟩
  · simp; exact ⟨fun h => n3 h.symm, fun h => n6 h.symm⟩
  · rw [hrow]
    refine own_kp h.row hk ?_
    simp; exact ⟨fun h => n4 h.symm, fun h => n7 h.symm⟩
/-- The same with a byte that is given. -/
theorem Inf.turnG (h : Inf w d r p q g m out bs rdy o) (hk : Kp [d, r, p, q] w w') (hd : DB w' d r p g l e c m' rdy' o') (hT : Tbs w' [d, r, p, q, g] l e c m') (hr : ∃ b0, Rd w' r b0 ∧ (m'.why = 0 → b0 = bs')) {out' : List Int} (hg : Rg w' p q 32768 out') (hrow : m'.row = m.row) : Inf w' d r p q g m' out' bs' rdy' o' := by
  have hne := h.ne
  simp only [List.nodup_cons, List.mem_cons, List.not_mem_nil, or_false, not_or] at hne
  obtain ⟨⟨n1, n2, n3, n4⟩, ⟨n5, n6, n7⟩, ⟨n8, n9⟩, n10, _⟩ := hne
  refine ⟨⟨l, e, c, hd, hT⟩, hr, hg, ?_, h.ne⟩
  rw [hrow]
  refine own_kp h.row hk ?_
  simp; exact ⟨fun h => n4 h.symm, fun h => n7 h.symm, fun h => n9 h.symm, fun h => n10 h.symm⟩
def rdyOf : List Int → Bool
  | [] => false
  | _ => true
def byteOf : List Int → Int
  | [] => 0
  | b :: _ => b
def StepPost (w : World) (d r p q g : Nat) (m : M) (out : List Int) (bs : List Bool) (en : Ending) (w' : World) : Prop :=
  (step m out bs = none ∧ en = .returned (.bool false) ∧ Inf w' d r p q g m out bs false 0 ∧ Kp [d, r, p, q, g] w w') ∨
  (∃ rr, step m out bs = some rr ∧ en = .returned (.bool true) ∧ Inf w' d r p q g rr.1 (out ++ rr.2.1) (bs.drop rr.2.2) (rdyOf rr.2.1) (byteOf rr.2.1) ∧ Kp [d, r, p, q, g] w w')
/-- What the bits' taking tells, both ways. -/
theorem take_yes {n : Nat} (hr : Rd w r bs) (hl : bs.length < 64) (hn : n ≤ 32) (hle : n ≤ bs.length) :
    Calls Tryd.prog 40 #[.pointer (some ⟨r, 0, none⟩), .int .i64 n] w fun e w' => e = .returned (.tuple #[.int .u32 (num (bs.take n) : Nat), .bool true]) ∧ Rd w' r (bs.drop n) ∧ Kp [r] w w' := by
  have h := c_take r bs n w hr hl hn
  unfold TakePost at h
  rw [if_pos hle, if_pos hle, W.decT hle] at h
  exact h
theorem take_no {n : Nat} (hr : Rd w r bs) (hl : bs.length < 64) (hn : n ≤ 32) (hle : ¬ n ≤ bs.length) :
    Calls Tryd.prog 40 #[.pointer (some ⟨r, 0, none⟩), .int .i64 n] w fun e w' => e = .returned (.tuple #[.int .u32 0, .bool false]) ∧ Rd w' r bs ∧ Kp [r] w w' := by
  have h := c_take r bs n w hr hl hn
  unfold TakePost at h
  rw [if_neg hle, if_neg hle, W.decF hle] at h
  exact h
/-- Taking fails: nothing is told. -/
theorem Inf.wait (h : Inf w d r p q g m out bs false 0) (hk : Kp [r] w w') (hr : Rd w' r bs) (hs : step m out bs = none) : StepPost w d r p q g m out bs (.returned (.bool false)) w' := by
  obtain ⟨l, e, c, hd, hT⟩ := h.db
  have hne := h.ne
  simp only [List.nodup_cons, List.mem_cons, List.not_mem_nil, or_false, not_or] at hne
  refine .inl ⟨hs, rfl, h.turn (hk.mono (by simp)) (hd.kept hk (by simp; exact hne.1.1)) (hT.kept hk (by simp)) ⟨bs, hr, fun _ => rfl⟩ rfl, hk.mono (by simp)⟩
/-- A step that gives nothing. -/
theorem Inf.done (h : Inf w d r p q g m out bs false 0) {rr : Out} (hs : step m out bs = some rr) {k : Nat} (hrr : rr = (m', [], k)) (hk : Kp [d, r] w w') (hd : DB w' d r p g l e c m' false 0) (hT : Tbs w' [d, r, p, q, g] l e c m') {b1 : List Bool} (hr : Rd w' r b1) (hb : m'.why = 0 → b1 = bs.drop k) (hrow : m'.row = m.row) : StepPost w d r p q g m out bs (.returned (.bool true)) w' := by
  subst hrr
  refine .inr ⟨_, hs, rfl, ?_, hk.mono (by simp)⟩
  show Inf w' d r p q g m' (out ++ []) (bs.drop k) false 0
  rw [List.append_nil]
  exact h.turn hk hd hT ⟨b1, hr, hb⟩ hrow
/-- A step that gives a byte. -/
theorem Inf.gave (h : Inf w d r p q g m out bs false 0) {rr : Out} (hs : step m out bs = some rr) {k : Nat} {b : Int} (hrr : rr = (m', [b], k)) (hk : Kp [d, r, p, q] w w') (hd : DB w' d r p g l e c m' true b) (hT : Tbs w' [d, r, p, q, g] l e c m') {b1 : List Bool} (hr : Rd w' r b1) (hb : m'.why = 0 → b1 = bs.drop k) (hg : Rg w' p q 32768 (out ++ [b])) (hrow : m'.row = m.row) : StepPost w d r p q g m out bs (.returned (.bool true)) w' := by
  subst hrr
  exact .inr ⟨_, hs, rfl, h.turnG hk hd hT ⟨b1, hr, hb⟩ hg hrow, hk.mono (by simp)⟩
end
set_option maxHeartbeats 2000000 in
set_option maxRecDepth 100000 in
theorem c_sth {w : World} {d r p q g : Nat} {m : M} {out : List Int} {bs : List Bool} (h : Inf w d r p q g m out bs false 0) (h0 : m.why = 0) (hph : m.ph = .sth) (hl : bs.length < 64) :
    Calls Tryd.prog 43 #[.pointer (some ⟨d, 0, none⟩)] w (StepPost w d r p q g m out bs) := by
  obtain ⟨l, e, c, hd, hT⟩ := h.db
  obtain ⟨b0, hr, hb⟩ := h.rd
  obtain rfl := hb h0
  have hne := h.ne
  simp only [List.nodup_cons, List.mem_cons, List.not_mem_nil, or_false, not_or] at hne
  have hdr : d ∉ [r] := by simp; exact hne.1.1
  have hrd : r ∉ [d] := by simp; exact fun h => hne.1.1 h.symm
  have c0 := hd.a (i := 0) rfl
  have hlt := hd.lt
  have H := Lib.hid h
  have HD := Lib.hid hd
  have HT := Lib.hid hT
  by_cases hle : 32 ≤ b0.length
  · have CT := Lib.hid (take_yes hr hl (by omega) hle)
    have hv := num_take_lt b0 (n := 32)
    obtain ⟨v, hv'⟩ : ∃ v, num (b0.take 32) = v := ⟨_, rfl⟩
    rw [hv'] at CT hv
    have HS := Lib.hid (show step m out b0 = some (sthM m v, [], 32) by unfold step; rw [hph]; dsimp only; rw [if_pos hle, hv'])
    obtain ⟨A, hA⟩ : ∃ A, v % 65536 = A := ⟨_, rfl⟩
    obtain ⟨B, hB⟩ : ∃ B, v / 65536 = B := ⟨_, rfl⟩
    have e1 : bits .and .u32 (v : Int) 65535 = (A : Int) := by
      have := u32_and_nat v 65535 (by omega) (by omega)
      rw [show (65535 : Nat) = 2 ^ 16 - 1 from rfl, Nat.and_two_pow_sub_one_eq_mod] at this
      rw [← hA]
      exact this
    have e2 : (v : Int) / 65536 = (B : Int) := by omega
    have HM := Lib.hid (show sthM m v = if A + B = 65535 then { m with left := A, ph := .sto } else stopM { m with left := A } 11 by unfold sthM; rw [hA, hB])
    have hAB : A < 65536 ∧ B < 65536 := by omega
    clear hv' hA hB h hd hT hr
    by_cases hs : A + B = 65535
    · have i1 : ((A : Int) + (B : Int) == 65535) = true := W.eqT (by omega)
      have i2 : ((A : Int) + (B : Int) != 65535) = false := W.neF (by omega)
      go_enter Tryd.func43, Tryd.ntmps43
      go_wp2_with (first
        | (go_at_call 40; go_must (refine CT.out.mono ?_); rintro en w2 ⟨rfl, hr2, hk2⟩
           have HR2 := Lib.hid hr2; have HK2 := Lib.hid hk2; have HD2 := Lib.hid (HD.out.kept hk2 hdr); have g35 := HD2.out.b (j := 4) rfl; have gf := HD2.out.fz; have gl := HD2.out.lt; clear hr2 hk2)
        | (go_at_call 42; go_must (refine (c_then .sto (HD2.out.left A)).mono ?_); rintro en w3 ⟨rfl, hd3, hk3⟩))
      go_ret
      have hk4 : Kp [d] w2 w3 := (kp_set (by simp) _ _).trans hk3
      exact H.out.done HS.out (by rw [HM.out, if_pos hs]) ((HK2.out.mono (by simp)).trans (hk4.mono (by simp))) hd3 (Tbs.none rfl rfl) (HR2.out.kept hk4 hrd) (fun _ => rfl) rfl
    · have i1 : ((A : Int) + (B : Int) == 65535) = false := W.eqF (by omega)
      have i2 : ((A : Int) + (B : Int) != 65535) = true := W.neT (by omega)
      go_enter Tryd.func43, Tryd.ntmps43
      go_wp2_with (first
        | (go_at_call 40; go_must (refine CT.out.mono ?_); rintro en w2 ⟨rfl, hr2, hk2⟩
           have HR2 := Lib.hid hr2; have HK2 := Lib.hid hk2; have HD2 := Lib.hid (HD.out.kept hk2 hdr); have g35 := HD2.out.b (j := 4) rfl; have gf := HD2.out.fz; have gl := HD2.out.lt; clear hr2 hk2)
        | (go_at_call 47; go_must (refine (c_stop 11 (HD2.out.left A)).mono ?_); rintro en w3 ⟨rfl, hd3, hk3⟩))
      go_ret
      have hk4 : Kp [d] w2 w3 := (kp_set (by simp) _ _).trans hk3
      exact H.out.done HS.out (by rw [HM.out, if_neg hs]) ((HK2.out.mono (by simp)).trans (hk4.mono (by simp))) hd3 (Tbs.none (by show usesT m.ph = false; rw [hph]; rfl) (by show usesC m.ph = false; rw [hph]; rfl)) (HR2.out.kept hk4 hrd) (fun _ => rfl) rfl
  · have CT := Lib.hid (take_no hr hl (by omega) hle)
    have HS := Lib.hid (show step m out b0 = none by unfold step; rw [hph]; dsimp only; rw [if_neg hle])
    clear h hd hT hr
    go_enter Tryd.func43, Tryd.ntmps43
    go_wp2_with (first
      | (go_at_call 40; go_must (refine CT.out.mono ?_); rintro en w2 ⟨rfl, hr2, hk2⟩))
    go_ret
    exact H.out.wait hk2 hr2 HS.out
set_option maxHeartbeats 2000000 in
set_option maxRecDepth 100000 in
theorem c_sto {w : World} {d r p q g : Nat} {m : M} {out : List Int} {bs : List Bool} (h : Inf w d r p q g m out bs false 0) (h0 : m.why = 0) (hph : m.ph = .sto) (hl : bs.length < 64) (hok : m.left ≤ 65535) :
    Calls Tryd.prog 52 #[.pointer (some ⟨d, 0, none⟩)] w (StepPost w d r p q g m out bs) := by
  obtain ⟨l, e, c, hd, hT⟩ := h.db
  obtain ⟨b0, hr, hb⟩ := h.rd
  obtain rfl := hb h0
  have hne := h.ne
  simp only [List.nodup_cons, List.mem_cons, List.not_mem_nil, or_false, not_or] at hne
  have hdr : d ∉ [r] := by simp; exact hne.1.1
  have hrd : r ∉ [d] := by simp; exact fun h => hne.1.1 h.symm
  have c0 := hd.a (i := 0) rfl
  have hlt := hd.lt
  have H := Lib.hid h
  have HD := Lib.hid hd
  have HT := Lib.hid hT
  have hleft : m.left ≤ 65535 := hok
  have c35 := hd.b (j := 4) rfl
  have RG := Lib.hid h.rg
  have hpr : p ∉ [r] := by simp; exact fun h => hne.2.1.1 h.symm
  have hqr : q ∉ [r] := by simp; exact fun h => hne.2.1.2.1 h.symm
  have hpd : p ∉ [d] := by simp; exact fun h => hne.1.2.1 h.symm
  have hqd : q ∉ [d] := by simp; exact fun h => hne.1.2.2.1 h.symm
  by_cases hz : m.left = 0
  · have HS := Lib.hid (show step m out b0 = some (overM m, [], 0) by unfold step; rw [hph]; dsimp only; rw [if_pos hz])
    have HR := Lib.hid hr
    rw [hz] at c35
    have CO := Lib.hid (c_over hd)
    clear h hd hT hr
    go_enter Tryd.func52, Tryd.ntmps52
    go_wp2_with (first
      | (go_at_call 56; go_must (refine CO.out.mono ?_); rintro en w4 ⟨rfl, hd4, hk4⟩))
    go_ret
    exact H.out.done HS.out rfl (hk4.mono (by simp)) hd4 (Tbs.none rfl rfl) (HR.out.kept hk4 hrd) (fun _ => rfl) rfl
  by_cases hle : 8 ≤ b0.length
  · have CT := Lib.hid (take_yes hr hl (by omega) hle)
    have hv := num_take_lt b0 (n := 8)
    obtain ⟨v, hv'⟩ : ∃ v, num (b0.take 8) = v := ⟨_, rfl⟩
    rw [hv'] at CT hv
    have HS := Lib.hid (show step m out b0 = some (stoM m, [((v : Nat) : Int)], 8) by unfold step; rw [hph]; dsimp only; rw [if_neg hz, if_pos hle, hv'])
    obtain ⟨L, hL⟩ : ∃ L, m.left = L + 1 := ⟨m.left - 1, by omega⟩
    have hv8 : v < 256 := by omega
    have ev : (v : Int) % 256 = (v : Int) := by omega
    have HL := Lib.hid hL
    have hL16 : L < 65535 := by omega
    have hzi : (((L + 1 : Nat) : Int) == 0) = false := W.eqF (by omega)
    have hzj : ((L : Int) + 1 == 0) = false := W.eqF (by omega)
    have eL : ((L + 1 : Nat) : Int) - 1 = (L : Int) := by omega
    rw [hL] at c35
    clear hv' h hd hT hr hz hleft hL
    by_cases hs : L = 0
    · have HM := Lib.hid (show stoM m = overM { m with left := L } by unfold stoM; rw [HL.out, if_pos (by omega), hs])
      have i1 : ((L : Int) == 0) = true := W.eqT (by omega)
      clear hs
      go_enter Tryd.func52, Tryd.ntmps52
      go_wp2_with (first
        | (go_at_call 40; go_must (refine CT.out.mono ?_); rintro en w2 ⟨rfl, hr2, hk2⟩
           have HR2 := Lib.hid hr2; have HK2 := Lib.hid hk2; have HD2 := Lib.hid (HD.out.kept hk2 hdr); have g35 := HD2.out.b (j := 4) rfl; rw [HL.out] at g35; have RG2 := Lib.hid (show ∀ i v, Rg (w2.setCell ⟨d, i, none⟩ v) p q 32768 out from fun i v => (RG.out.kept HK2.out hpr hqr).kept (kp_set (S := [d]) (by simp) i v) hpd hqd); have gf := HD2.out.fz; have gl := HD2.out.lt; clear hr2 hk2)
        | (go_at_call 55; go_must (refine (c_give (v : Int) (HD2.out.left L) (RG2.out _ _) (by omega) (by omega) (by omega) hne.1.2.1 hne.1.2.2.1).mono ?_); rintro en w3 ⟨rfl, hd3, hg3, hk3⟩
           have HD3 := Lib.hid hd3; have HG3 := Lib.hid hg3; have HK3 := Lib.hid hk3; have h35 := HD3.out.b (j := 4) rfl; have l3 := HD3.out.lt; clear hd3 hg3 hk3)
        | (go_at_call 56; go_must (refine (c_over HD3.out).mono ?_); rintro en w4 ⟨rfl, hd4, hk4⟩))
      go_ret
      have hk5 : Kp [d] w2 (w2.setCell ⟨d, 35, none⟩ (.int .i64 (L : Nat))) := kp_set (by simp) _ _
      have hk6 : Kp [d, p, q] w2 w4 := ((hk5.mono (by simp)).trans HK3.out).trans (hk4.mono (by simp))
      exact H.out.gave HS.out (by rw [HM.out]) ((HK2.out.mono (by simp)).trans (hk6.mono (by simp))) hd4 (Tbs.none rfl rfl) (HR2.out.kept hk6 (by simp; exact ⟨fun h => hne.1.1 h.symm, hne.2.1.1, hne.2.1.2.1⟩)) (fun _ => rfl) (HG3.out.kept hk4 hpd hqd) rfl
    · have HM := Lib.hid (show stoM m = { m with left := L } by unfold stoM; rw [HL.out, if_neg (by omega), Nat.add_sub_cancel])
      have i1 : ((L : Int) == 0) = false := W.eqF (by omega)
      go_enter Tryd.func52, Tryd.ntmps52
      go_wp2_with (first
        | (go_at_call 40; go_must (refine CT.out.mono ?_); rintro en w2 ⟨rfl, hr2, hk2⟩
           have HR2 := Lib.hid hr2; have HK2 := Lib.hid hk2; have HD2 := Lib.hid (HD.out.kept hk2 hdr); have g35 := HD2.out.b (j := 4) rfl; rw [HL.out] at g35; have RG2 := Lib.hid (show ∀ i v, Rg (w2.setCell ⟨d, i, none⟩ v) p q 32768 out from fun i v => (RG.out.kept HK2.out hpr hqr).kept (kp_set (S := [d]) (by simp) i v) hpd hqd); have gf := HD2.out.fz; have gl := HD2.out.lt; clear hr2 hk2)
        | (go_at_call 55; go_must (refine (c_give (v : Int) (HD2.out.left L) (RG2.out _ _) (by omega) (by omega) (by omega) hne.1.2.1 hne.1.2.2.1).mono ?_); rintro en w3 ⟨rfl, hd3, hg3, hk3⟩
           have HD3 := Lib.hid hd3; have HG3 := Lib.hid hg3; have HK3 := Lib.hid hk3; have h35 := HD3.out.b (j := 4) rfl; have l3 := HD3.out.lt; clear hd3 hg3 hk3))
      go_ret
      have hk5 : Kp [d] w2 (w2.setCell ⟨d, 35, none⟩ (.int .i64 (L : Nat))) := kp_set (by simp) _ _
      have hk6 : Kp [d, p, q] w2 w3 := (hk5.mono (by simp)).trans HK3.out
      exact H.out.gave HS.out (by rw [HM.out]) ((HK2.out.mono (by simp)).trans (hk6.mono (by simp))) HD3.out (Tbs.none (by show usesT m.ph = false; rw [hph]; rfl) (by show usesC m.ph = false; rw [hph]; rfl)) (HR2.out.kept hk6 (by simp; exact ⟨fun h => hne.1.1 h.symm, hne.2.1.1, hne.2.1.2.1⟩)) (fun _ => rfl) HG3.out rfl
  · have CT := Lib.hid (take_no hr hl (by omega) hle)
    have HS := Lib.hid (show step m out b0 = none by unfold step; rw [hph]; dsimp only; rw [if_neg hz, if_neg hle])
    have hzi : ((m.left : Int) == 0) = false := W.eqF (by omega)
    clear h hd hT hr
    go_enter Tryd.func52, Tryd.ntmps52
    go_wp2_with (first
      | (go_at_call 40; go_must (refine CT.out.mono ?_); rintro en w2 ⟨rfl, hr2, hk2⟩))
    go_ret
    exact H.out.wait hk2 hr2 HS.out
end Go.Proofs.YtjjcemdoefigkaaDoor.Hf
/- The inflater: counts, the lengths of lengths' numbers. -/
namespace Go.Proofs.YtjjcemdoefigkaaDoor.Hf
set_option linter.unusedVariables false
set_option linter.unusedSimpArgs false
open Go.RowKit Go.Proofs.YtjjcemdoefigkaaDoor.W

def setAll (l : List Nat) : Nat → List Nat → List Nat
  | _, [] => l
  | i, x :: xs => setAll (l.set i x) (i + 1) xs
theorem setAll_all : ∀ (xs l pre post : List Nat) (i : Nat), l = pre ++ post → pre.length = i → post.length = xs.length → setAll l i xs = pre ++ xs := by
  intro xs
  induction xs with
  | nil => intro l pre post i h1 _ h3; rw [h1, List.eq_nil_of_length_eq_zero h3]; rfl
  | cons x xs ih =>
    intro l pre post i h1 h2 h3
    obtain ⟨y, post, rfl⟩ : ∃ y p, post = y :: p := by cases post with
      | nil => simp at h3
      | cons y p => exact ⟨y, p, rfl⟩
    rw [setAll, ih (l.set i x) (pre ++ [x]) post (i + 1) (by rw [h1, List.set_append_right _ _ (by omega), h2, Nat.sub_self]; simp) (by simp; omega) (by simpa using h3)]
    simp
theorem DB.setFs {d r p g : Nat} {l e c : Option Addr} {rdy : Bool} {o : Int} : ∀ (xs : List Nat) (w : World) (m : M) (i : Nat), i + xs.length ≤ 19 → DB w d r p g l e c m rdy o → DB (w.setCells d (12 + i) (ints xs)) d r p g l e c { m with fl := setAll m.fl i xs } rdy o := by
  intro xs
  induction xs with
  | nil => intro w m i _ h; exact h
  | cons x xs ih =>
    intro w m i hi h
    rw [List.length_cons] at hi
    exact ih _ _ (i + 1) (by omega) (h.setF (by omega) x)
theorem kp_sets {d : Nat} {S : List Nat} (h : d ∈ S) : ∀ (vs : List Value) (w : World) (i : Nat), Kp S w (w.setCells d i vs) := by
  intro vs
  induction vs with
  | nil => intro w i; exact Kp.refl _ _
  | cons v vs ih => intro w i; exact (kp_set h i v).trans (ih _ _)
theorem u32_low {v k M : Nat} (hM : M = 2 ^ k - 1) (hv : v < 4294967296) (hm : M < 4294967296) : bits .and .u32 (v : Int) (M : Int) = ((v % 2 ^ k : Nat) : Int) := by
  rw [u32_and_nat v M hv hm, hM, Nat.and_two_pow_sub_one_eq_mod]
set_option maxHeartbeats 2000000 in
set_option maxRecDepth 100000 in
theorem c_cts {w : World} {d r p q g : Nat} {m : M} {out : List Int} {bs : List Bool} (h : Inf w d r p q g m out bs false 0) (h0 : m.why = 0) (hph : m.ph = .cts) (hl : bs.length < 64) :
    Calls Tryd.prog 46 #[.pointer (some ⟨d, 0, none⟩)] w (StepPost w d r p q g m out bs) := by
  obtain ⟨l, e, c, hd, hT⟩ := h.db
  obtain ⟨b0, hr, hb⟩ := h.rd
  obtain rfl := hb h0
  have hne := h.ne
  simp only [List.nodup_cons, List.mem_cons, List.not_mem_nil, or_false, not_or] at hne
  have hdr : d ∉ [r] := by simp; exact hne.1.1
  have hrd : r ∉ [d] := by simp; exact fun h => hne.1.1 h.symm
  have c0 := hd.a (i := 0) rfl
  have hlt := hd.lt
  have H := Lib.hid h
  have HD := Lib.hid hd
  have HT := Lib.hid hT
  by_cases hle : 14 ≤ b0.length
  · have CT := Lib.hid (take_yes hr hl (by omega) hle)
    have hv := num_take_lt b0 (n := 14)
    obtain ⟨v, hv'⟩ : ∃ v, num (b0.take 14) = v := ⟨_, rfl⟩
    rw [hv'] at CT hv
    have HS := Lib.hid (show step m out b0 = some (ctsM m v, [], 14) by unfold step; rw [hph]; dsimp only; rw [if_pos hle, hv'])
    obtain ⟨A, hA⟩ : ∃ A, v % 32 = A := ⟨_, rfl⟩
    obtain ⟨T, hT5⟩ : ∃ T, v / 32 = T := ⟨_, rfl⟩
    obtain ⟨B, hB⟩ : ∃ B, T % 32 = B := ⟨_, rfl⟩
    obtain ⟨C, hC⟩ : ∃ C, v / 1024 = C := ⟨_, rfl⟩
    have e1 : bits .and .u32 (v : Int) 31 = (A : Int) := by rw [← hA]; exact u32_low (k := 5) (M := 31) rfl (by omega) (by omega)
    have e2 : (v : Int) / 32 = (T : Int) := by omega
    have e3 : bits .and .u32 (T : Int) 31 = (B : Int) := by rw [← hB]; exact u32_low (k := 5) (M := 31) rfl (by omega) (by omega)
    have e4 : (v : Int) / 1024 = (C : Int) := by omega
    have HM := Lib.hid (show ctsM m v = if 257 + A > 286 ∨ 1 + B > 30 then stopM { m with lits := 257 + A } 12 else { m with lits := 257 + A, wanted := 257 + A + (1 + B), left := 4 + C, order := 0, fl := List.replicate 19 0, ph := .lol } by unfold ctsM; rw [hA, hT5, hB, hC])
    have hAB : A < 32 ∧ B < 32 ∧ C < 16 := by omega
    obtain ⟨X, hX⟩ : ∃ X, 257 + A = X := ⟨_, rfl⟩
    obtain ⟨Y, hY⟩ : ∃ Y, 1 + B = Y := ⟨_, rfl⟩
    obtain ⟨Z, hZ⟩ : ∃ Z, X + Y = Z := ⟨_, rfl⟩
    obtain ⟨U, hU⟩ : ∃ U, 4 + C = U := ⟨_, rfl⟩
    have eX : (257 : Int) + (A : Int) = (X : Int) := by omega
    have eY : (1 : Int) + (B : Int) = (Y : Int) := by omega
    have eZ : (X : Int) + (Y : Int) = (Z : Int) := by omega
    have eU : (4 : Int) + (C : Int) = (U : Int) := by omega
    rw [hX, hY, hZ, hU] at HM
    have hXY : X < 400 ∧ Y < 40 ∧ Z < 440 ∧ U < 20 := by omega
    clear hv' hA hB hC hT5 h hd hT hr hX hY hZ hU hAB hv
    by_cases hs : X > 286
    · have i1 : (286 : Int) < (X : Int) := by omega
      go_enter Tryd.func46, Tryd.ntmps46
      go_wp2_with (first
        | (go_at_call 40; go_must (refine CT.out.mono ?_); rintro en w2 ⟨rfl, hr2, hk2⟩; have HR2 := Lib.hid hr2; have HK2 := Lib.hid hk2; have HD2 := Lib.hid (HD.out.kept hk2 hdr); have g31 := HD2.out.b (j := 0) rfl; have gf := HD2.out.fz; have gl := HD2.out.lt; clear hr2 hk2)
        | (go_at_call 47; go_must (refine (c_stop 12 (HD2.out.lits X)).mono ?_); rintro en w3 ⟨rfl, hd3, hk3⟩))
      go_ret
      have hk4 : Kp [d] w2 w3 := (kp_set (by simp) _ _).trans hk3
      exact H.out.done HS.out (by rw [HM.out, if_pos (.inl hs)]) ((HK2.out.mono (by simp)).trans (hk4.mono (by simp))) hd3 (Tbs.none (by show usesT m.ph = false; rw [hph]; rfl) (by show usesC m.ph = false; rw [hph]; rfl)) (HR2.out.kept hk4 hrd) (fun _ => rfl) rfl
    · have i1 : ¬ (286 : Int) < (X : Int) := by omega
      by_cases hs2 : Y > 30
      · have i2 : (30 : Int) < (Y : Int) := by omega
        go_enter Tryd.func46, Tryd.ntmps46
        go_wp2_with (first
          | (go_at_call 40; go_must (refine CT.out.mono ?_); rintro en w2 ⟨rfl, hr2, hk2⟩; have HR2 := Lib.hid hr2; have HK2 := Lib.hid hk2; have HD2 := Lib.hid (HD.out.kept hk2 hdr); have g31 := HD2.out.b (j := 0) rfl; have gf := HD2.out.fz; have gl := HD2.out.lt; clear hr2 hk2)
          | (go_at_call 47; go_must (refine (c_stop 12 (HD2.out.lits X)).mono ?_); rintro en w3 ⟨rfl, hd3, hk3⟩))
        go_ret
        have hk4 : Kp [d] w2 w3 := (kp_set (by simp) _ _).trans hk3
        exact H.out.done HS.out (by rw [HM.out, if_pos (.inr hs2)]) ((HK2.out.mono (by simp)).trans (hk4.mono (by simp))) hd3 (Tbs.none (by show usesT m.ph = false; rw [hph]; rfl) (by show usesC m.ph = false; rw [hph]; rfl)) (HR2.out.kept hk4 hrd) (fun _ => rfl) rfl
      · have i2 : ¬ (30 : Int) < (Y : Int) := by omega
        go_enter Tryd.func46, Tryd.ntmps46
        go_upto_region 11 with (first
          | (go_at_call 40; go_must (refine CT.out.mono ?_); rintro en w2 ⟨rfl, hr2, hk2⟩; have HR2 := Lib.hid hr2; have HK2 := Lib.hid hk2; have HD2 := Lib.hid (HD.out.kept hk2 hdr); have g31 := HD2.out.b (j := 0) rfl; have g32 := HD2.out.b (j := 1) rfl; have g33 := HD2.out.b (j := 2) rfl; have g35 := HD2.out.b (j := 4) rfl; have gf := HD2.out.fz; have gl := HD2.out.lt; clear hr2 hk2))
        have HD3 := Lib.hid (show DB _ d r p g l e c { m with lits := X, wanted := Z, left := U, order := 0 } false 0 from (((HD2.out.lits X).wanted Z).left U).order 0)
        have HK3 := Lib.hid (show Kp [d] w2 ((((w2.setCell ⟨d, 31, none⟩ (.int .i64 (X : Nat))).setCell ⟨d, 32, none⟩ (.int .i64 (Z : Nat))).setCell ⟨d, 35, none⟩ (.int .i64 (U : Nat))).setCell ⟨d, 33, none⟩ (.int .i64 ((0 : Nat) : Int))) from (((kp_set (by simp) _ _).trans (kp_set (by simp) _ _)).trans (kp_set (by simp) _ _)).trans (kp_set (by simp) _ _))
        change Code.wp _ _ _ _ ((((w2.setCell ⟨d, 31, none⟩ (.int .i64 (X : Nat))).setCell ⟨d, 32, none⟩ (.int .i64 (Z : Nat))).setCell ⟨d, 35, none⟩ (.int .i64 (U : Nat))).setCell ⟨d, 33, none⟩ (.int .i64 ((0 : Nat) : Int)))
        generalize (((w2.setCell ⟨d, 31, none⟩ (.int .i64 (X : Nat))).setCell ⟨d, 32, none⟩ (.int .i64 (Z : Nat))).setCell ⟨d, 35, none⟩ (.int .i64 (U : Nat))).setCell ⟨d, 33, none⟩ (.int .i64 ((0 : Nat) : Int)) = w3 at *
        clear g31 g32 g33 g35 gf gl
        have HTH := Lib.hid (show w3.there d 12 19 from fun j hj => ⟨by rw [HD3.out.f (List.getElem?_eq_getElem (by rw [HD3.out.fl]; exact hj))]; rfl, HD3.out.fz _⟩)
        have HFL := Lib.hid (show setAll m.fl 0 (List.replicate 19 0) = List.replicate 19 0 from setAll_all (List.replicate 19 0) m.fl [] m.fl 0 rfl rfl (by rw [HD.out.fl]; rfl))
        have HD4 := Lib.hid (show DB (w3.setCells d 12 (ints (List.replicate 19 0))) d r p g l e c { m with lits := X, wanted := Z, left := U, order := 0, fl := List.replicate 19 0 } false 0 from (by have h9 := DB.setFs (List.replicate 19 0) _ _ 0 (by simp) HD3.out; dsimp only at h9; rw [HFL.out] at h9; exact h9))
        have HK4 := Lib.hid (show Kp [d] w3 (w3.setCells d 12 (ints (List.replicate 19 0))) from kp_sets (by simp) _ _ _)
        have gl3 := HD3.out.lt
        have HI := Lib.hid (show (Tryd.prog.info? 50).map (·.size) = some 19 by kernel_rfl)
        iterate 13 go_step
        refine wpList_store_mid rfl 50 (.tmp 61) (.tmp 59) rfl d 12 #[.int .i64 0, .int .i64 0, .int .i64 0, .int .i64 0, .int .i64 0, .int .i64 0, .int .i64 0, .int .i64 0, .int .i64 0, .int .i64 0, .int .i64 0, .int .i64 0, .int .i64 0, .int .i64 0, .int .i64 0, .int .i64 0, .int .i64 0, .int .i64 0, .int .i64 0] rfl rfl HTH.out HI.out (by simp [Value.oneCell']) ?_
        change wpList _ _ _ _ _ (w3.setCells d 12 (ints (List.replicate 19 0)))
        generalize w3.setCells d 12 (ints (List.replicate 19 0)) = w4 at *
        go_wp2_with (first
          | (go_at_call 42; go_must (refine (c_then .lol HD4.out).mono ?_); rintro en w5 ⟨rfl, hd5, hk5⟩))
        go_ret
        have hk6 : Kp [d] w2 w5 := (HK3.out.trans HK4.out).trans hk5
        exact H.out.done HS.out (by rw [HM.out, if_neg (by omega)]) ((HK2.out.mono (by simp)).trans (hk6.mono (by simp))) hd5 (Tbs.none rfl rfl) (HR2.out.kept hk6 hrd) (fun _ => rfl) rfl
  · have CT := Lib.hid (take_no hr hl (by omega) hle)
    have HS := Lib.hid (show step m out b0 = none by unfold step; rw [hph]; dsimp only; rw [if_neg hle])
    clear h hd hT hr
    go_enter Tryd.func46, Tryd.ntmps46
    go_wp2_with (first
      | (go_at_call 40; go_must (refine CT.out.mono ?_); rintro en w2 ⟨rfl, hr2, hk2⟩))
    go_ret
    exact H.out.wait hk2 hr2 HS.out
end Go.Proofs.YtjjcemdoefigkaaDoor.Hf
/- The inflater: literal, distance, copied. -/
namespace Go.Proofs.YtjjcemdoefigkaaDoor.Hf
set_option linter.unusedVariables false
set_option linter.unusedSimpArgs false
open Go.RowKit Go.Proofs.YtjjcemdoefigkaaDoor.W

theorem rd_lit {lens : List Nat} {bs bs' : List Bool} {sy how : Int} (h : RdRel lens bs sy how bs') :
    (∃ s k : Nat, dec lens bs = .got s k ∧ sy = s ∧ how = 0 ∧ bs' = bs.drop k ∧ 285 < s) ∨ (∃ s k : Nat, dec lens bs = .got s k ∧ sy = s ∧ how = 0 ∧ bs' = bs.drop k ∧ s < 256) ∨
    (∃ k : Nat, dec lens bs = .got 256 k ∧ sy = 256 ∧ how = 0 ∧ bs' = bs.drop k) ∨ (∃ t k : Nat, dec lens bs = .got (t + 257) k ∧ sy = (t : Int) + 257 ∧ how = 0 ∧ bs' = bs.drop k ∧ t ≤ 28) ∨
    (dec lens bs = .more ∧ sy = 0 ∧ how = 1 ∧ bs' = bs) ∨ (∃ j, dec lens bs = .bad j ∧ sy = 0 ∧ how = 2 ∧ bs' = bs) := by
  rcases h with ⟨s, k, h1, h2, h3, h4⟩ | h | h
  · rcases Nat.lt_trichotomy s 256 with h5 | h5 | h5
    · exact .inr (.inl ⟨s, k, h1, h2, h3, h4, h5⟩)
    · subst h5; exact .inr (.inr (.inl ⟨k, h1, h2, h3, h4⟩))
    · rcases Nat.lt_or_ge 285 s with h6 | h6
      · exact .inl ⟨s, k, h1, h2, h3, h4, h6⟩
      · obtain ⟨t, rfl⟩ : ∃ t, s = t + 257 := ⟨s - 257, by omega⟩
        exact .inr (.inr (.inr (.inl ⟨t, k, h1, by omega, h3, h4, by omega⟩)))
  · exact .inr (.inr (.inr (.inr (.inl h))))
  · exact .inr (.inr (.inr (.inr (.inr h))))
theorem rd_dst {lens : List Nat} {bs bs' : List Bool} {sy how : Int} (h : RdRel lens bs sy how bs') :
    (∃ s k : Nat, dec lens bs = .got s k ∧ sy = s ∧ how = 0 ∧ bs' = bs.drop k ∧ 29 < s) ∨ (∃ s k : Nat, dec lens bs = .got s k ∧ sy = s ∧ how = 0 ∧ bs' = bs.drop k ∧ s ≤ 29) ∨
    (dec lens bs = .more ∧ sy = 0 ∧ how = 1 ∧ bs' = bs) ∨ (∃ j, dec lens bs = .bad j ∧ sy = 0 ∧ how = 2 ∧ bs' = bs) := by
  rcases h with ⟨s, k, h1, h2, h3, h4⟩ | h | h
  · rcases Nat.lt_or_ge 29 s with h6 | h6
    · exact .inl ⟨s, k, h1, h2, h3, h4, h6⟩
    · exact .inr (.inl ⟨s, k, h1, h2, h3, h4, h6⟩)
  · exact .inr (.inr (.inl h))
  · exact .inr (.inr (.inr h))
set_option maxHeartbeats 4000000 in
set_option maxRecDepth 100000 in
theorem c_lit {w : World} {d r p q g : Nat} {m : M} {out : List Int} {bs : List Bool} (h : Inf w d r p q g m out bs false 0) (h0 : m.why = 0) (hph : m.ph = .lit) (hl : bs.length < 64) (ht : Tab m.lt) :
    Calls Tryd.prog 45 #[.pointer (some ⟨d, 0, none⟩)] w (StepPost w d r p q g m out bs) := by
  obtain ⟨l, e, c, hd, hT⟩ := h.db
  obtain ⟨b0, hr, hb⟩ := h.rd
  obtain rfl := hb h0
  have hne := h.ne
  simp only [List.nodup_cons, List.mem_cons, List.not_mem_nil, or_false, not_or] at hne
  have hdr : d ∉ [r] := by simp; exact hne.1.1
  have hrd : r ∉ [d] := by simp; exact fun h => hne.1.1 h.symm
  have hpr : p ∉ [r] := by simp; exact fun h => hne.2.1.1 h.symm
  have hqr : q ∉ [r] := by simp; exact fun h => hne.2.1.2.1 h.symm
  have hpd : p ∉ [d] := by simp; exact fun h => hne.1.2.1 h.symm
  have hqd : q ∉ [d] := by simp; exact fun h => hne.1.2.2.1 h.symm
  have hrg : r ∉ [d, p, q] := by simp; exact ⟨fun h => hne.1.1 h.symm, hne.2.1.1, hne.2.1.2.1⟩
  have c0 := hd.a (i := 0) rfl
  have hlt := hd.lt
  have H := Lib.hid h
  have HD := Lib.hid hd
  have HT := Lib.hid hT
  have RG := Lib.hid h.rg
  have hu : usesT m.ph = true := by rw [hph]; rfl
  obtain ⟨tl, rfl, hTL⟩ := hT.l hu
  have c8 := hd.a (i := 8) rfl
  have HSG := Lib.hid (show ∀ s k, dec m.lt b0 = .got s k → step m out b0 = some (litM m s k) from fun s k h => by unfold step; rw [hph]; dsimp only; rw [h])
  have HSB := Lib.hid (show ∀ j, dec m.lt b0 = .bad j → step m out b0 = some (stopM m 13, [], j) from fun j h => by unfold step; rw [hph]; dsimp only; rw [h])
  have HSM := Lib.hid (show dec m.lt b0 = .more → step m out b0 = none from fun h => by unfold step; rw [hph]; dsimp only; rw [h])
  have CR := Lib.hid (c_read [d, r, p, q, g] tl r m.lt b0 w.drew ht (hTL.kept (T := []) ((Kp.refl _ _).drew) (by simp)) (hr.kept (S := []) ((Kp.refl _ _).drew) (by simp)) (by simp) hl)
  have HKD := Lib.hid (show Kp [r] w w.drew from (Kp.refl _ _).drew)
  unfold ReadPost at CR
  clear h hd hT hr hTL
  go_enter Tryd.func45, Tryd.ntmps45
  go_upto_region 1 with (fail)
  go_region_held3 (fun w' => w'.cell? ⟨d, 0, none⟩ = some (.pointer (some ⟨r, 0, none⟩)) ∧ w'.cell? ⟨d, 8, none⟩ = some (.pointer (some ⟨tl, 0, none⟩))) (first | exact ⟨c0, c8⟩ | exact ⟨g0, g8⟩)
    (first
      | (go_at_call 54; go_must (refine CR.out.mono ?_); rintro en w2 ⟨sy, how, b1, rfl, hrel, hr2, hk2⟩; have HR2 := Lib.hid hr2; have HK2 := Lib.hid (show Kp [r] w w2 from HKD.out.trans hk2); have HD2 := Lib.hid (HD.out.kept HK2.out hdr); have HT2 := Lib.hid (HT.out.kept HK2.out (by simp)); have HG2 := Lib.hid (RG.out.kept HK2.out hpr hqr); have gf := HD2.out.fz; have gl := HD2.out.lt; have g34 := HD2.out.b (j := 3) rfl; have g0 := HD2.out.a (i := 0) rfl; have g8 := HD2.out.a (i := 8) rfl; clear hr2 hk2; have HREL := Lib.hid hrel; clear hrel))
  have hrel := rd_lit HREL.out
  rcases hrel with ⟨s, k, hdec, rfl, rfl, rfl, hs⟩ | ⟨s, k, hdec, rfl, rfl, rfl, hs⟩ | ⟨k, hdec, rfl, rfl, rfl⟩ | ⟨s, k, hdec, rfl, rfl, rfl, hs⟩ | ⟨hdec, rfl, rfl, rfl⟩ | ⟨j, hdec, rfl, rfl, rfl⟩
  all_goals go_wp2_with (first
    | (go_at_call 47; go_must (refine (c_stop 13 HD2.out).mono ?_); rintro en w3 ⟨rfl, hd3, hk3⟩)
    | (go_at_call 55; go_must (refine (c_give (s : Int) HD2.out HG2.out (by omega) (by omega) (by omega) hne.1.2.1 hne.1.2.2.1).mono ?_); rintro en w3 ⟨rfl, hd3, hg3, hk3⟩)
    | (go_at_call 56; go_must (refine (c_over HD2.out).mono ?_); rintro en w3 ⟨rfl, hd3, hk3⟩)
    | (go_at_call 42; go_must (refine (c_then .lbits (HD2.out.sym s)).mono ?_); rintro en w3 ⟨rfl, hd3, hk3⟩))
  · go_ret
    exact H.out.done (HSG.out s k hdec) (by unfold litM; rw [if_pos hs]) ((HK2.out.mono (by simp)).trans (hk3.mono (by simp))) hd3 ((HT2.out.kept hk3 (by simp)).same id id rfl rfl rfl) (HR2.out.kept hk3 hrd) (fun _ => rfl) rfl
  · go_ret
    exact H.out.gave (HSG.out s k hdec) (by unfold litM; rw [if_neg (by omega), if_pos hs]) ((HK2.out.mono (by simp)).trans (hk3.mono (by simp))) hd3 ((HT2.out.kept hk3 (by simp)).same id id rfl rfl rfl) (HR2.out.kept hk3 hrg) (fun _ => rfl) hg3 rfl
  · go_ret
    exact H.out.done (HSG.out 256 k hdec) (by unfold litM; rw [if_neg (by omega), if_neg (by omega), if_pos rfl]) ((HK2.out.mono (by simp)).trans (hk3.mono (by simp))) hd3 (Tbs.none rfl rfl) (HR2.out.kept hk3 hrd) (fun _ => rfl) rfl
  · go_ret
    have hk4 : Kp [d] w2 w3 := (kp_set (by simp) _ _).trans hk3
    exact H.out.done (HSG.out (s + 257) k hdec) (by unfold litM; rw [if_neg (by omega), if_neg (by omega), if_neg (by omega), Nat.add_sub_cancel]) ((HK2.out.mono (by simp)).trans (hk4.mono (by simp))) hd3 ((HT2.out.kept hk4 (by simp)).same (fun _ => hu) (fun h => (by cases h)) rfl rfl rfl) (HR2.out.kept hk4 hrd) (fun _ => rfl) rfl
  · go_ret
    exact H.out.wait HK2.out HR2.out (HSM.out hdec)
  · go_ret
    exact H.out.done (HSB.out j hdec) rfl ((HK2.out.mono (by simp)).trans (hk3.mono (by simp))) hd3 ((HT2.out.kept hk3 (by simp)).same id id rfl rfl rfl) (HR2.out.kept hk3 hrd) (fun h => (by cases h)) rfl
set_option maxHeartbeats 4000000 in
set_option maxRecDepth 100000 in
theorem c_dst {w : World} {d r p q g : Nat} {m : M} {out : List Int} {bs : List Bool} (h : Inf w d r p q g m out bs false 0) (h0 : m.why = 0) (hph : m.ph = .dst) (hl : bs.length < 64) (ht : Tab m.ds) :
    Calls Tryd.prog 66 #[.pointer (some ⟨d, 0, none⟩)] w (StepPost w d r p q g m out bs) := by
  obtain ⟨l, e, c, hd, hT⟩ := h.db
  obtain ⟨b0, hr, hb⟩ := h.rd
  obtain rfl := hb h0
  have hne := h.ne
  simp only [List.nodup_cons, List.mem_cons, List.not_mem_nil, or_false, not_or] at hne
  have hdr : d ∉ [r] := by simp; exact hne.1.1
  have hrd : r ∉ [d] := by simp; exact fun h => hne.1.1 h.symm
  have hpr : p ∉ [r] := by simp; exact fun h => hne.2.1.1 h.symm
  have hqr : q ∉ [r] := by simp; exact fun h => hne.2.1.2.1 h.symm
  have hpd : p ∉ [d] := by simp; exact fun h => hne.1.2.1 h.symm
  have hqd : q ∉ [d] := by simp; exact fun h => hne.1.2.2.1 h.symm
  have hrg : r ∉ [d, p, q] := by simp; exact ⟨fun h => hne.1.1 h.symm, hne.2.1.1, hne.2.1.2.1⟩
  have c0 := hd.a (i := 0) rfl
  have hlt := hd.lt
  have H := Lib.hid h
  have HD := Lib.hid hd
  have HT := Lib.hid hT
  have RG := Lib.hid h.rg
  have hu : usesT m.ph = true := by rw [hph]; rfl
  obtain ⟨tl, rfl, hTL⟩ := hT.e hu
  have c8 := hd.a (i := 9) rfl
  have HSG := Lib.hid (show ∀ s k, dec m.ds b0 = .got s k → step m out b0 = some (dstM m s, [], k) from fun s k h => by unfold step; rw [hph]; dsimp only; rw [h])
  have HSB := Lib.hid (show ∀ j, dec m.ds b0 = .bad j → step m out b0 = some (stopM m 13, [], j) from fun j h => by unfold step; rw [hph]; dsimp only; rw [h])
  have HSM := Lib.hid (show dec m.ds b0 = .more → step m out b0 = none from fun h => by unfold step; rw [hph]; dsimp only; rw [h])
  have CR := Lib.hid (c_read [d, r, p, q, g] tl r m.ds b0 w.drew ht (hTL.kept (T := []) ((Kp.refl _ _).drew) (by simp)) (hr.kept (S := []) ((Kp.refl _ _).drew) (by simp)) (by simp) hl)
  have HKD := Lib.hid (show Kp [r] w w.drew from (Kp.refl _ _).drew)
  unfold ReadPost at CR
  clear h hd hT hr hTL
  go_enter Tryd.func66, Tryd.ntmps66
  go_upto_region 1 with (fail)
  go_region_held3 (fun w' => w'.cell? ⟨d, 0, none⟩ = some (.pointer (some ⟨r, 0, none⟩)) ∧ w'.cell? ⟨d, 9, none⟩ = some (.pointer (some ⟨tl, 0, none⟩))) (first | exact ⟨c0, c8⟩ | exact ⟨g0, g8⟩)
    (first
      | (go_at_call 54; go_must (refine CR.out.mono ?_); rintro en w2 ⟨sy, how, b1, rfl, hrel, hr2, hk2⟩; have HR2 := Lib.hid hr2; have HK2 := Lib.hid (show Kp [r] w w2 from HKD.out.trans hk2); have HD2 := Lib.hid (HD.out.kept HK2.out hdr); have HT2 := Lib.hid (HT.out.kept HK2.out (by simp)); have HG2 := Lib.hid (RG.out.kept HK2.out hpr hqr); have gf := HD2.out.fz; have gl := HD2.out.lt; have g34 := HD2.out.b (j := 3) rfl; have g0 := HD2.out.a (i := 0) rfl; have g8 := HD2.out.a (i := 9) rfl; clear hr2 hk2; have HREL := Lib.hid hrel; clear hrel))
  have hrel := rd_dst HREL.out
  rcases hrel with ⟨s, k, hdec, rfl, rfl, rfl, hs⟩ | ⟨s, k, hdec, rfl, rfl, rfl, hs⟩ | ⟨hdec, rfl, rfl, rfl⟩ | ⟨j, hdec, rfl, rfl, rfl⟩
  all_goals go_wp2_with (first
    | (go_at_call 47; go_must (refine (c_stop 13 HD2.out).mono ?_); rintro en w3 ⟨rfl, hd3, hk3⟩)
    | (go_at_call 42; go_must (refine (c_then .dbits (HD2.out.sym s)).mono ?_); rintro en w3 ⟨rfl, hd3, hk3⟩))
  · go_ret
    exact H.out.done (HSG.out s k hdec) (by unfold dstM; rw [if_pos hs]) ((HK2.out.mono (by simp)).trans (hk3.mono (by simp))) hd3 ((HT2.out.kept hk3 (by simp)).same id id rfl rfl rfl) (HR2.out.kept hk3 hrd) (fun _ => rfl) rfl
  · go_ret
    have hk4 : Kp [d] w2 w3 := (kp_set (by simp) _ _).trans hk3
    exact H.out.done (HSG.out s k hdec) (by unfold dstM; rw [if_neg (by omega)]) ((HK2.out.mono (by simp)).trans (hk4.mono (by simp))) hd3 ((HT2.out.kept hk4 (by simp)).same (fun _ => hu) (fun h => (by cases h)) rfl rfl rfl) (HR2.out.kept hk4 hrd) (fun _ => rfl) rfl
  · go_ret
    exact H.out.wait HK2.out HR2.out (HSM.out hdec)
  · go_ret
    exact H.out.done (HSB.out j hdec) rfl ((HK2.out.mono (by simp)).trans (hk3.mono (by simp))) hd3 ((HT2.out.kept hk3 (by simp)).same id id rfl rfl rfl) (HR2.out.kept hk3 hrd) (fun h => (by cases h)) rfl
end Go.Proofs.YtjjcemdoefigkaaDoor.Hf
