/- The reference's writer: Number. -/
import Derived.Test.YtdpnlmofkkdioaaDoorVc
import Derived.Lib.RabinKarpLaws
namespace Go.Proofs.YtdpnlmofkkdioaaDoor.Hf
set_option linter.unusedVariables false
set_option linter.unusedSimpArgs false
open Go.RowKit Go.Proofs.YtdpnlmofkkdioaaDoor.W

/-! ### bits in bytes (plain) -/
def Pk (zl : List Int) (bits : List Bool) : Prop := Bytes zl ∧ bits.length ≤ 8 * zl.length ∧ 8 * zl.length < bits.length + 8 ∧ bits8 zl = bits ++ List.replicate (8 * zl.length - bits.length) false
def Pk1 (zl : List Int) (bits : List Bool) : Prop := Bytes zl ∧ bits.length < 8 * zl.length ∧ 8 * zl.length ≤ bits.length + 8 ∧ bits8 zl = bits ++ List.replicate (8 * zl.length - bits.length) false
theorem Pk.zero : Pk [] [] := ⟨fun x hx => (by cases hx), Nat.le_refl _, (by simp), rfl⟩
theorem Pk.grow {zl : List Int} {bits : List Bool} (h : Pk zl bits) (h0 : bits.length % 8 = 0) : Pk1 (zl ++ [0]) bits := by
  obtain ⟨h1, h2, h3, h4⟩ := h
  have e : 8 * zl.length = bits.length := by omega
  rw [e, Nat.sub_self, List.replicate_zero, List.append_nil] at h4
  have hl : (zl ++ [0]).length = zl.length + 1 := by rw [List.length_append]; rfl
  refine ⟨fun x hx => ?_, by omega, by omega, ?_⟩
  · rcases List.mem_append.1 hx with h | h
    · exact h1 x h
    · rw [List.mem_singleton.1 h]; omega
  · rw [hl, show 8 * (zl.length + 1) - bits.length = 8 by omega]
    have : bits8 (zl ++ [0]) = bits8 zl ++ byteB 0 := by unfold bits8; rw [List.flatMap_append]; simp
    rw [this, h4]
    rfl
theorem Pk.same {zl : List Int} {bits : List Bool} (h : Pk zl bits) (h0 : bits.length % 8 ≠ 0) : Pk1 zl bits := by
  obtain ⟨h1, h2, h3, h4⟩ := h
  exact ⟨h1, by omega, by omega, h4⟩
theorem Pk1.zero {zl : List Int} {bits : List Bool} (h : Pk1 zl bits) : Pk zl (bits ++ [false]) := by
  obtain ⟨h1, h2, h3, h4⟩ := h
  have hl : (bits ++ [false]).length = bits.length + 1 := by rw [List.length_append]; rfl
  refine ⟨h1, by omega, by omega, ?_⟩
  rw [h4, hl, show 8 * zl.length - bits.length = (8 * zl.length - (bits.length + 1)) + 1 by omega, List.replicate_succ, List.append_assoc]
  rfl
theorem or_tab : ∀ (x : _root_.Fin 256) (r : _root_.Fin 8), (0 ≤ bits BinOp.or IntKind.u8 ((x.val : Nat) : Int) (2 ^ r.val) ∧ bits BinOp.or IntKind.u8 ((x.val : Nat) : Int) (2 ^ r.val) < 256) ∧ byteB (bits BinOp.or IntKind.u8 ((x.val : Nat) : Int) (2 ^ r.val)) = (byteB ((x.val : Nat) : Int)).set r.val true := by decide +kernel
theorem or_at {x : Int} (h0 : 0 ≤ x) (h1 : x < 256) {r : Nat} (hr : r < 8) : (0 ≤ bits BinOp.or IntKind.u8 x (2 ^ r) ∧ bits BinOp.or IntKind.u8 x (2 ^ r) < 256) ∧ byteB (bits BinOp.or IntKind.u8 x (2 ^ r)) = (byteB x).set r true := by
  have h := or_tab ⟨x.toNat, by omega⟩ ⟨r, hr⟩
  dsimp only at h
  rw [show ((x.toNat : Nat) : Int) = x by omega] at h
  exact h
theorem bits8_set : ∀ (zl : List Int) (k r : Nat) (x y : Int), zl[k]? = some x → r < 8 → byteB y = (byteB x).set r true → bits8 (zl.set k y) = (bits8 zl).set (8 * k + r) true := by
  intro zl
  induction zl with
  | nil => intro k r x y h; simp at h
  | cons a zl ih =>
    intro k r x y h hr hy
    have e : ∀ (a : Int) (l : List Int), bits8 (a :: l) = byteB a ++ bits8 l := fun a l => by unfold bits8; rw [List.flatMap_cons]
    cases k with
    | zero =>
      simp at h
      subst h
      rw [List.set_cons_zero, e, e, hy, List.set_append_left _ _ (by rw [byteB_length]; omega)]
      simp
    | succ k =>
      simp only [List.getElem?_cons_succ] at h
      rw [List.set_cons_succ, e, e, ih k r x y h hr hy, List.set_append_right _ _ (by rw [byteB_length]; omega), byteB_length]
      congr 2
      omega
theorem Pk1.one {zl : List Int} {bits : List Bool} (h : Pk1 zl bits) {x y : Int} (hx : zl[bits.length / 8]? = some x) (hy0 : 0 ≤ y ∧ y < 256) (hy : byteB y = (byteB x).set (bits.length % 8) true) : Pk (zl.set (bits.length / 8) y) (bits ++ [true]) := by
  obtain ⟨h1, h2, h3, h4⟩ := h
  have hl : (bits ++ [true]).length = bits.length + 1 := by rw [List.length_append]; rfl
  have e := bits8_set zl _ _ x y hx (Nat.mod_lt _ (by omega)) hy
  rw [Nat.div_add_mod, h4] at e
  refine ⟨fun z hz => ?_, by rw [List.length_set]; omega, by rw [List.length_set]; omega, ?_⟩
  · rcases List.mem_or_eq_of_mem_set hz with h | h
    · exact h1 z h
    · rw [h]; exact hy0
  · rw [e, hl, List.length_set, show 8 * zl.length - bits.length = (8 * zl.length - (bits.length + 1)) + 1 by omega, List.replicate_succ, List.set_append_right _ _ (Nat.le_refl _), Nat.sub_self, List.set_cons_zero, List.append_assoc]
    rfl
theorem bitsOf_get : ∀ (n v i : Nat), i < n → (bitsOf n v)[i]? = some (decide (v / 2 ^ i % 2 = 1)) := by
  intro n
  induction n with
  | zero => intro v i h; omega
  | succ n ih =>
    intro v i h
    cases i with
    | zero => simp [bitsOf]
    | succ i =>
      rw [bitsOf, List.getElem?_cons_succ, ih (v / 2) i (by omega), Nat.div_div_eq_div_mul, Nat.pow_succ, Nat.mul_comm 2]
/-- What a call on a writer keeps. -/
structure Fw (B : Nat) (w w' : World) : Prop where
  os : w'.os = w.os
  tape : w'.tape = w.tape
  output : w'.output = w.output
  size : w.heap.size ≤ w'.heap.size
  block : ∀ k o, w.heap[k]? = some o → (k < B ∨ ∃ cs t, o = .cells cs t (0, 0) ∧ t ≠ 5 ∧ t ≠ 72) → w'.heap[k]? = some o
theorem Fw.refl (B : Nat) (w : World) : Fw B w w := ⟨rfl, rfl, rfl, Nat.le_refl _, fun _ _ h _ => h⟩
theorem Fw.trans {B : Nat} {a b c : World} (h : Fw B a b) (k : Fw B b c) : Fw B a c :=
  ⟨k.os.trans h.os, k.tape.trans h.tape, k.output.trans h.output, Nat.le_trans h.size k.size, fun i o hi ho => k.block i o (h.block i o hi ho) ho⟩
theorem Fw.of_kp {B : Nat} {S : List Nat} {a b : World} (h : Kp S a b) (hS : ∀ k ∈ S, a.heap.size ≤ k ∨ B ≤ k ∧ ∃ cs t, a.heap[k]? = some (.cells cs t (0, 0)) ∧ (t = 5 ∨ t = 72)) : Fw B a b :=
  ⟨h.os, h.tape, h.output, h.size, fun k o ho hk => by
    have hlt : k < a.heap.size := (Array.getElem?_eq_some_iff.1 ho).1
    rw [h.block k hlt, ho]
    intro hm
    rcases hS k hm with h1 | ⟨h1, cs, t, h2, h3⟩
    · omega
    · rcases hk with hk | ⟨cs', t', hk, ht1, ht2⟩
      · omega
      · subst hk
        rw [h2] at ho
        injection ho with ho
        injection ho with _ ho
        subst ho
        exact h3.elim ht1 ht2⟩
theorem Fw.below {B : Nat} {a b : World} (h : Fw B a b) (hB : B ≤ a.heap.size) : Below B a b :=
  ⟨h.os, h.tape, h.output, h.size, fun k hk => by
    obtain ⟨o, ho⟩ : ∃ o, a.heap[k]? = some o := ⟨_, Array.getElem?_eq_getElem (by omega)⟩
    rw [ho]
    exact h.block k o ho (.inl hk)⟩
/-- The writer at block wb: what was written. -/
structure Wz (w : World) (B wb : Nat) (bs : List Bool) : Prop where
  ex : ∃ A c zl, w.heap[wb]? = some (.cells #[.slice A zl.length c, .int .i64 (bs.length : Nat)] 72 (0, 0)) ∧ w.ownsRow B 5 1 (.slice A zl.length c) zl.length (u8s zl) ∧ Pk zl bs
  ge : B ≤ wb
  sz : B ≤ w.heap.size
theorem Wz.fr {w w' : World} {B wb : Nat} {bs : List Bool} (h : Wz w B wb bs) (hk : Kp [] w w') : Wz w' B wb bs := by
  obtain ⟨A, c, zl, h1, h2, h3⟩ := h.ex
  exact ⟨⟨A, c, zl, (hk.block wb (Array.getElem?_eq_some_iff.1 h1).1 (by simp)).trans h1, own_same h2 fun k hk2 => hk.block k (h2.lt k hk2).2 (by simp), h3⟩, h.ge, Nat.le_trans h.sz hk.size⟩
/-- The writer's cells, its bytes. -/
structure Wr (w : World) (B wb : Nat) (zl : List Int) (L : Nat) (A : Option Addr) (c : Nat) : Prop where
  cells : w.heap[wb]? = some (.cells #[.slice A zl.length c, .int .i64 (L : Nat)] 72 (0, 0))
  own : w.ownsRow B 5 1 (.slice A zl.length c) zl.length (u8s zl)
  ge : B ≤ wb
  sz : B ≤ w.heap.size
section
variable {w w' : World} {B wb L : Nat} {zl : List Int} {A : Option Addr} {c : Nat}
theorem Wr.lt (h : Wr w B wb zl L A c) : wb < w.heap.size := (Array.getElem?_eq_some_iff.1 h.cells).1
theorem Wr.c0 (h : Wr w B wb zl L A c) : w.cell? ⟨wb, 0, none⟩ = some (.slice A zl.length c) := cell_of_row w wb 0 _ _ _ h.cells
theorem Wr.c1 (h : Wr w B wb zl L A c) : w.cell? ⟨wb, 1, none⟩ = some (.int .i64 (L : Nat)) := cell_of_row w wb 1 _ _ _ h.cells
theorem Wr.fz (h : Wr w B wb zl L A c) : ∀ i, w.frozen? ⟨wb, i, none⟩ = false := fun i => frozen_of_row w wb i _ _ h.cells
theorem Wr.keep (h : Wr w B wb zl L A c) (hk : Kp [] w w') : Wr w' B wb zl L A c := ⟨(hk.block wb h.lt (by simp)).trans h.cells, own_same h.own fun k hk2 => hk.block k (h.own.lt k hk2).2 (by simp), h.ge, Nat.le_trans h.sz hk.size⟩
theorem Wr.inc (h : Wr w B wb zl L A c) (u : Nat) : Wr (w.setCell ⟨wb, 1, none⟩ (.int .i64 (u : Nat))) B wb zl u A c ∧ Fw B w (w.setCell ⟨wb, 1, none⟩ (.int .i64 (u : Nat))) := by
  have hk : Kp [wb] w (w.setCell ⟨wb, 1, none⟩ (.int .i64 (u : Nat))) := (Kp.refl _ _).setCell (.inl (by simp)) _
  refine ⟨⟨by rw [heap_set h.cells 1 _]; rfl, own_same h.own fun k hk2 => heap_setCell_other w ⟨wb, 1, none⟩ k _ (own_ne h.own h.cells (by decide) hk2), h.ge, Nat.le_trans h.sz hk.size⟩, Fw.of_kp hk fun k hm => .inr ?_⟩
  rw [List.mem_singleton.1 hm]
  exact ⟨h.ge, _, _, h.cells, .inr rfl⟩
theorem Wr.put {g : Nat} (h : Wr w B wb zl L (some ⟨g, 0, none⟩) c) (j : Nat) (y : Int) : Wr (w.setCell ⟨g, j, none⟩ (.int .u8 y)) B wb (zl.set j y) L (some ⟨g, 0, none⟩) c ∧ Fw B w (w.setCell ⟨g, j, none⟩ (.int .u8 y)) := by
  have hg := h.own.lt g rfl
  have hne : g ≠ wb := own_ne h.own h.cells (by decide) rfl
  have hk : Kp [g] w (w.setCell ⟨g, j, none⟩ (.int .u8 y)) := (Kp.refl _ _).setCell (.inl (by simp)) _
  have hst := (h.own.stored j (.int .u8 y)).1
  have e : (u8s zl).set j (.int .u8 y) = u8s (zl.set j y) := by unfold u8s; rw [List.map_set]
  rw [e] at hst
  refine ⟨⟨by rw [List.length_set]; exact (hk.block wb h.lt (by simp; exact hne.symm)).trans h.cells, by rw [List.length_set]; exact hst, h.ge, Nat.le_trans h.sz hk.size⟩, Fw.of_kp hk fun k hm => .inr ?_⟩
  rw [List.mem_singleton.1 hm]
  obtain ⟨h4, cs, h5⟩ := own_cells h.own (by rfl : (Value.slice (some ⟨g, 0, none⟩) zl.length c).ownBlock = some g)
  exact ⟨h4, cs, _, h5, .inl rfl⟩
theorem Wr.app {A' : Option Addr} {c' : Nat} {o : Obj} {x : Int} (h : Wr w B wb zl L A c) (hown : w'.ownsRow B 5 1 (.slice A' (zl.length + 1) c') (zl.length + 1) (u8s zl ++ [Value.int .u8 x])) (hg : (w.alloc o).grownBy w' (Value.slice A zl.length c).ownBlock) :
    Wr (w'.setCell ⟨wb, 0, none⟩ (.slice A' (zl.length + 1) c')) B wb (zl ++ [x]) L A' c' ∧ Fw B w (w'.setCell ⟨wb, 0, none⟩ (.slice A' (zl.length + 1) c')) ∧ w'.cell? ⟨wb, 0, none⟩ = some (.slice A zl.length c) ∧ w'.frozen? ⟨wb, 0, none⟩ = false ∧ wb < w'.heap.size := by
  have hal : Kp [] w (w.alloc o) := (Kp.refl _ _).alloc _
  have h1 := h.keep hal
  have hne : some wb ≠ (Value.slice A zl.length c).ownBlock := fun e => own_ne h.own h.cells (by decide) e.symm rfl
  have hb : w'.heap[wb]? = some (.cells #[.slice A zl.length c, .int .i64 (L : Nat)] 72 (0, 0)) := (hg.block wb h1.lt hne).trans h1.cells
  have hlt := (Array.getElem?_eq_some_iff.1 hb).1
  have hl : (zl ++ [x]).length = zl.length + 1 := by rw [List.length_append]; rfl
  obtain ⟨T, hT1, hT2⟩ := grown_kpe h1.own hg
  have hk : Kp [wb] w' (w'.setCell ⟨wb, 0, none⟩ (.slice A' (zl.length + 1) c')) := (Kp.refl _ _).setCell (.inl (by simp)) _
  have hf1 : Fw B w w' := (Fw.of_kp hal (by simp)).trans (Fw.of_kp hT1 fun k hm => .inr (by
    obtain ⟨h4, cs, h5⟩ := hT2 k hm
    exact ⟨h4, cs, _, h5, .inl rfl⟩))
  refine ⟨⟨?_, ?_, h.ge, Nat.le_trans (Nat.le_trans h.sz hf1.size) hk.size⟩, hf1.trans (Fw.of_kp hk fun k hm => .inr ?_), cell_of_row w' wb 0 _ _ _ hb, frozen_of_row w' wb 0 _ _ hb, hlt⟩
  · rw [hl, heap_set hb 0 _]; rfl
  · rw [hl, show u8s (zl ++ [x]) = u8s zl ++ [Value.int .u8 x] by simp [u8s]]
    exact own_same hown fun k hk2 => heap_setCell_other w' ⟨wb, 0, none⟩ k _ (own_ne hown hb (by decide) hk2)
  · rw [List.mem_singleton.1 hm]
    exact ⟨h.ge, _, _, hb, .inr rfl⟩
theorem Wr.done {bs : List Bool} (h : Wr w B wb zl L A c) (hp : Pk zl bs) (hL : bs.length = L) : Wz w B wb bs := ⟨⟨A, c, zl, by rw [hL]; exact h.cells, h.own, hp⟩, h.ge, h.sz⟩
theorem Wz.raw {bs : List Bool} (h : Wz w B wb bs) : ∃ A c zl, Wr w B wb zl bs.length A c ∧ Pk zl bs := by
  obtain ⟨A, c, zl, h1, h2, h3⟩ := h.ex
  exact ⟨A, c, zl, ⟨h1, h2, h.ge, h.sz⟩, h3⟩
theorem Wr.slice (h : Wr w B wb zl L A c) (h0 : 0 < zl.length) : ∃ g, A = some ⟨g, 0, none⟩ := by
  rcases h.own.2 with ⟨h1, h2⟩ | ⟨g, cap, cur, h1, _⟩
  · have h3 := h.own.1
    rw [h2] at h3
    simp at h3
    omega
  · injection h1 with h1
    exact ⟨g, h1⟩
end
def WP (w : World) (B wb : Nat) (bs : List Bool) (e : Ending) (w' : World) : Prop := e = .returned (.tuple #[]) ∧ Wz w' B wb bs ∧ Fw B w w'
set_option maxHeartbeats 4000000 in
set_option maxRecDepth 100000 in
theorem w_number (w : World) (B wb : Nat) (bs : List Bool) (v n : Nat) (h : Wz w B wb bs) (hn : n ≤ 16) (hv : v ≤ 100000) (hl : bs.length ≤ 1000000000000) :
    Calls Tryd.prog 38 #[.pointer (some ⟨wb, 0, none⟩), .int .i64 (v : Nat), .int .i64 (n : Nat)] w (WP w B wb (bs ++ bitsOf n v)) := by
  have H := Lib.hid h
  clear h
  go_enter Tryd.func38, Tryd.ntmps38
  go_wp2_with (fail)
  go_loopg [6] n (fun g s6 wx => ∃ i, i + g = n ∧ s6 = .int .i64 (i : Nat) ∧ Wz wx B wb (bs ++ (bitsOf n v).take i) ∧ Fw B w wx)
  case atStart => exact ⟨0, by omega, rfl, by rw [List.take_zero, List.append_nil]; exact H.out, Fw.refl _ _⟩
  case round =>
    obtain ⟨i, hig, rfl, hwz, hfw⟩ := hrel
    have HW := Lib.hid hwz
    have HF := Lib.hid hfw
    clear hwz hfw
    cases gk with
    | zero =>
      obtain rfl : i = n := by omega
      have hk : ¬ (i : Int) < (i : Int) := by omega
      go_wp2_with (fail)
      refine bodyPost_end (results_none rfl _ _ _) rfl ?_
      have h9 := HW.out
      rw [List.take_of_length_le (by rw [bitsOf_length]; exact Nat.le_refl _)] at h9
      exact ⟨rfl, h9, HF.out⟩
    | succ g =>
      have hk : (i : Int) < (n : Int) := by omega
      obtain ⟨A, c, zl, hwr, hpk⟩ := HW.out.raw
      obtain ⟨cs, hcs⟩ : ∃ cs, bs ++ (bitsOf n v).take i = cs := ⟨_, rfl⟩
      rw [hcs] at hwr hpk
      have hcl : cs.length ≤ 1000000000016 := by rw [← hcs, List.length_append, List.length_take, bitsOf_length]; omega
      obtain ⟨bit, hbit⟩ : ∃ b, (bitsOf n v)[i]? = some b := ⟨_, List.getElem?_eq_getElem (by rw [bitsOf_length]; omega)⟩
      have HNX := Lib.hid (show bs ++ (bitsOf n v).take (i + 1) = cs ++ [bit] from by
        obtain ⟨h4, h5⟩ := List.getElem?_eq_some_iff.1 hbit
        rw [← hcs, List.take_succ_eq_append_getElem h4, h5, List.append_assoc])
      have eb : (bits BinOp.and IntKind.i64 ((v : Int) / 2 ^ i) 1 == 1) = bit := by
        have h4 := bitsOf_get n v i (by omega)
        rw [hbit] at h4
        injection h4 with h4
        have h5 : (v : Int) / 2 ^ i = ((v / 2 ^ i : Nat) : Int) := by push_cast; rfl
        have h6 : v / 2 ^ i ≤ v := Nat.div_le_self _ _
        rw [h5, and_one _ (by omega), h4]
        generalize v / 2 ^ i = q
        rcases Nat.mod_two_eq_zero_or_one q with h7 | h7 <;> rw [h7] <;> rfl
      obtain ⟨L, hL⟩ : ∃ L, cs.length = L := ⟨_, rfl⟩
      rw [hL] at hwr hcl
      have HLL := Lib.hid hL
      have hz8 : 8 * zl.length < L + 8 := by have := hpk.2.2.1; omega
      have HPK := Lib.hid hpk
      have HWR := Lib.hid hwr
      obtain ⟨r, hr⟩ : ∃ r, L % 8 = r := ⟨_, rfl⟩
      have em : (L : Int) % 8 = (r : Int) := by omega
      clear hbit hcs hpk hL
      obtain ⟨wo, rfl⟩ : ∃ wo : World, wo = wr := ⟨_, rfl⟩
      have c0 := hwr.c0
      have c1 := hwr.c1
      have fz := hwr.fz
      have hlt := hwr.lt
      clear hwr
      go_upto_if 17 with (fail)
      go_cut [] (fun wz => ∃ zl A c, Wr wz B wb zl L A c ∧ Pk1 zl cs ∧ Fw B wo wz)
      case first =>
        by_cases hr0 : r = 0
        · have er : ((r : Int) == 0) = true := W.eqT (by omega)
          have HR0 := Lib.hid (show L % 8 = 0 by omega)
          clear hr0
          have HOA := Lib.hid (HWR.out.own.alloc (.cells #[.int .u8 0] 5))
          have HNW := Lib.hid (RV.new (w := wo) #[Value.int .u8 0] 5)
          have hB := HWR.out.sz
          go_wp2_with (first
            | (at_builtin; go_must (refine wpList_ap el8b rfl _ _ rfl rfl HOA.out rfl (m := 1) (news := [Value.int .u8 0]) rfl HNW.out (by intro u hu; rw [List.mem_singleton.1 hu]; rfl) (by unfold maxLen; omega) (by omega) (by simp; omega) ?_); intro A3 c3' w3 hown hgrow hob hcap; have happ := HWR.out.app (x := 0) hown hgrow; obtain ⟨k1, k2, k3, k4, k5⟩ := happ; have HK1 := Lib.hid k1; have HK2 := Lib.hid k2; clear hown hgrow hob hcap k1 k2))
          go_meet
          exact ⟨_, _, _, HK1.out, HPK.out.grow (by rw [HLL.out]; exact HR0.out), HK2.out⟩
        · have er : ((r : Int) == 0) = false := W.eqF (by omega)
          have HR0 := Lib.hid (show L % 8 ≠ 0 by omega)
          clear hr0
          go_wp2_with (fail)
          go_meet
          exact ⟨zl, A, c, HWR.out, HPK.out.same (by rw [HLL.out]; exact HR0.out), Fw.refl _ _⟩
      case rest =>
        obtain ⟨zl2, A2, c2, hwr2, hpk2, hfw2⟩ := hcut
        have HW2 := Lib.hid hwr2
        have HP2 := Lib.hid hpk2
        have HF2 := Lib.hid hfw2
        have c0 := hwr2.c0
        have c1 := hwr2.c1
        have fz := hwr2.fz
        have hlt := hwr2.lt
        obtain ⟨p1, p2, p3, _⟩ := hpk2
        rw [HLL.out] at p2 p3
        clear hwr2 hfw2 HWR HPK em hz8
        cases bit with
        | false =>
          go_wp2_with (fail)
          obtain ⟨k1, k2⟩ := HW2.out.inc (L + 1)
          have HK1 := Lib.hid k1
          have HK2 := Lib.hid k2
          clear k1 k2
          go_roundg g
          case measure => omega
          case rel =>
            refine ⟨i + 1, by omega, by go_num, ?_, (HF.out.trans HF2.out).trans HK2.out⟩
            rw [HNX.out]
            exact HK1.out.done HP2.out.zero (by rw [List.length_append, HLL.out]; rfl)
        | true =>
          obtain ⟨k, hkk⟩ : ∃ k, L / 8 = k := ⟨_, rfl⟩
          obtain ⟨x, hx⟩ : ∃ x, zl2[k]? = some x := ⟨_, List.getElem?_eq_getElem (by omega)⟩
          obtain ⟨gg, rfl⟩ := HW2.out.slice (by omega)
          obtain ⟨x0, x1⟩ := p1 x (List.mem_of_getElem? hx)
          have hxc := own_elem HW2.out.own (j := k) (v := .int .u8 x) (by simp [u8s, hx])
          have hgf := HW2.out.own.frozenAt k
          have hgl := own_lt HW2.out.own
          have hkz : k < zl2.length := by omega
          obtain ⟨r2, hr2⟩ : ∃ r2, L % 8 = r2 := ⟨_, rfl⟩
          have e1 : (L : Int).tdiv 8 = (k : Int) := by rw [Int.tdiv_eq_ediv_of_nonneg (by omega)]; omega
          have e2 : (L : Int).tmod 8 = (r2 : Int) := by rw [Int.tmod_eq_emod_of_nonneg (by omega)]; omega
          have e3 : IntKind.i64.wrap (k : Int) = (k : Int) := IntWalk.i64_in _ (by omega)
          have e4 : IntKind.i64.wrap (r2 : Int) = (r2 : Int) := IntWalk.i64_in _ (by omega)
          have b1 : (0 : Int) ≤ (k : Int) := by omega
          have b2 : (k : Int) < (zl2.length : Int) := by omega
          have b3 : (0 : Int) ≤ (r2 : Int) := by omega
          have b4 : (r2 : Int) < 8 := by omega
          go_upto_region 6 with (fail)
          have hpow : (2 : Int) ^ min r2 8 % 256 = 2 ^ r2 := by
            have : r2 = 0 ∨ r2 = 1 ∨ r2 = 2 ∨ r2 = 3 ∨ r2 = 4 ∨ r2 = 5 ∨ r2 = 6 ∨ r2 = 7 := by omega
            rcases this with rfl | rfl | rfl | rfl | rfl | rfl | rfl | rfl <;> rfl
          have hor := or_at x0 x1 (r := r2) (by omega)
          rw [← hpow] at hor
          obtain ⟨y, hy⟩ : ∃ y, bits BinOp.or IntKind.u8 x (2 ^ min r2 8 % 256) = y := ⟨_, rfl⟩
          rw [hy] at hor
          have hput := HW2.out.put k y
          have q1 := hput.1.keep (Kp.refl [] _).drew
          have z1 := q1.c1
          have zf := q1.fz 1
          have zl := q1.lt
          have HQ1 := Lib.hid q1
          have HQ2 := Lib.hid (hput.2.trans (Fw.of_kp (B := B) (Kp.refl [] _).drew (by simp)))
          have HY := Lib.hid hor
          have HX := Lib.hid hx
          have HR2 := Lib.hid hr2
          have HKK := Lib.hid hkk
          clear hpow hor hput q1 hr2 hkk hx
          go_still_tail 20, (by kernel_rfl)
          try rw [hy]
          go_wp2_with (fail)
          obtain ⟨k1, k2⟩ := HQ1.out.inc (L + 1)
          have HK1 := Lib.hid k1
          have HK2 := Lib.hid k2
          clear k1 k2
          go_roundg g
          case measure => omega
          case rel =>
            refine ⟨i + 1, by omega, by go_num, ?_, ((HF.out.trans HF2.out).trans HQ2.out).trans HK2.out⟩
            rw [HNX.out]
            have hp9 := HP2.out.one (x := x) (y := y) (by rw [HLL.out, HKK.out]; exact HX.out) HY.out.1 (by rw [HLL.out, HR2.out]; exact HY.out.2)
            rw [HLL.out, HKK.out] at hp9
            exact HK1.out.done hp9 (by rw [List.length_append, HLL.out]; rfl)
end Go.Proofs.YtdpnlmofkkdioaaDoor.Hf
