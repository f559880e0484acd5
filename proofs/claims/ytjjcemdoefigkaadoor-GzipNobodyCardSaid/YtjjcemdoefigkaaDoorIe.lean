/- The ring: its walks. -/
import Derived.Test.YtjjcemdoefigkaaDoorId
namespace Go.Proofs.YtjjcemdoefigkaaDoor.Hf
set_option linter.unusedVariables false
set_option linter.unusedSimpArgs false
open Go.RowKit Go.Proofs.YtjjcemdoefigkaaDoor.W

/-- The ring at block p, its bytes in block q, of size N: all bytes that were put are out. -/
structure Rg (w : World) (p q N : Nat) (out : List Int) : Prop where
  cells : w.heap[p]? = some (.cells #[.slice (some ⟨q, 0, none⟩) N N, .int .i64 ((out.length % N : Nat) : Int), .int .i64 ((min out.length N : Nat) : Int)] 62 (0, 0))
  row : ∃ row : List Int, w.heap[q]? = some (.cells (u8s row).toArray 5 (0, 0)) ∧ row.length = N ∧ ∀ i x, out[i]? = some x → out.length ≤ i + N → row[i % N]? = some x
  ne : p ≠ q
  pos : 0 < N
section
variable {w w' : World} {p q N : Nat} {out : List Int}
theorem Rg.lt (h : Rg w p q N out) : p < w.heap.size := (Array.getElem?_eq_some_iff.1 h.cells).1
theorem Rg.ltq (h : Rg w p q N out) : q < w.heap.size := by obtain ⟨r, h1, _⟩ := h.row; exact (Array.getElem?_eq_some_iff.1 h1).1
theorem Rg.c0 (h : Rg w p q N out) : w.cell? ⟨p, 0, none⟩ = some (.slice (some ⟨q, 0, none⟩) N N) := cell_of_row w p 0 _ _ _ h.cells
theorem Rg.c1 (h : Rg w p q N out) : w.cell? ⟨p, 1, none⟩ = some (.int .i64 ((out.length % N : Nat) : Int)) := cell_of_row w p 1 _ _ _ h.cells
theorem Rg.c2 (h : Rg w p q N out) : w.cell? ⟨p, 2, none⟩ = some (.int .i64 ((min out.length N : Nat) : Int)) := cell_of_row w p 2 _ _ _ h.cells
theorem Rg.fz (h : Rg w p q N out) : ∀ i, w.frozen? ⟨p, i, none⟩ = false := fun i => frozen_of_row w p i _ _ h.cells
theorem Rg.kept {S : List Nat} (h : Rg w p q N out) (hk : Kp S w w') (h1 : p ∉ S) (h2 : q ∉ S) : Rg w' p q N out := by
  obtain ⟨r, h3, h4⟩ := h.row
  exact ⟨(hk.block p h.lt h1).trans h.cells, ⟨r, (hk.block q h.ltq h2).trans h3, h4⟩, h.ne, h.pos⟩
theorem Rg.back (h : Rg w p q N out) {i : Nat} {x : Int} (hx : out[i]? = some x) (hi : out.length ≤ i + N) : w.cell? ⟨q, i % N, none⟩ = some (.int .u8 x) := by
  obtain ⟨r, h3, h4, h5⟩ := h.row
  rw [cell_of_row w q (i % N) _ _ _ h3]
  simp [u8s, h5 i x hx hi]
end
def LenPost (w : World) (n : Nat) (e : Ending) (w' : World) : Prop := e = .returned (.int .i64 n) ∧ w = w'
set_option maxHeartbeats 1000000 in
theorem c_rlen (p q N : Nat) (out : List Int) (w : World) (h : Rg w p q N out) :
    Calls Tryd.prog 73 #[.pointer (some ⟨p, 0, none⟩)] w (LenPost w (min out.length N)) := by
  have h2 := h.c2
  go_enter Tryd.func73, Tryd.ntmps73
  go_wp2
  go_ret
  exact ⟨rfl, rfl⟩
def RClear (w : World) (p q N : Nat) (e : Ending) (w' : World) : Prop := e = .returned (.tuple #[]) ∧ Rg w' p q N [] ∧ Kp [p] w w'
set_option maxHeartbeats 1000000 in
theorem c_rclear (p q N : Nat) (out : List Int) (w : World) (h : Rg w p q N out) :
    Calls Tryd.prog 35 #[.pointer (some ⟨p, 0, none⟩)] w (RClear w p q N) := by
  have h1 := h.c1
  have h2 := h.c2
  have hf := h.fz
  have hlt := h.lt
  go_enter Tryd.func35, Tryd.ntmps35
  go_wp2
  refine bodyPost_end (results_none rfl _ _ _) rfl ?_
  obtain ⟨r, h3, h4, _⟩ := h.row
  refine ⟨rfl, ⟨(heap_set (heap_set h.cells 1 _) 2 _).trans ?_, ⟨r, ?_, h4, fun i x hx => by simp at hx⟩, h.ne, h.pos⟩, ((Kp.refl _ _).setCell (.inl (by simp)) _).setCell (.inl (by simp)) _⟩
  · simp
  · exact ((((Kp.refl [p] w).setCell (.inl (by simp)) _).setCell (.inl (by simp)) _).block q h.ltq (by simpa using h.ne.symm)).trans h3
def BackPost (w : World) (x : Int) (e : Ending) (w' : World) : Prop := e = .returned (.tuple #[.int .u8 x, .bool true]) ∧ w = w'
set_option maxHeartbeats 1000000 in
theorem c_back (p q N d : Nat) (out : List Int) (x : Int) (w : World) (h : Rg w p q N out) (hN : N ≤ 32768) (hd : 1 ≤ d) (hdn : d ≤ min out.length N) (hx : out[out.length - d]? = some x) :
    Calls Tryd.prog 76 #[.pointer (some ⟨p, 0, none⟩), .int .i64 d] w (BackPost w x) := by
  have h0 := h.c0
  have h1 := h.c1
  have h2 := h.c2
  have hb := h.back hx (by omega)
  obtain ⟨K, hK⟩ : ∃ K, (out.length - d) % N = K := ⟨_, rfl⟩
  obtain ⟨a, ha⟩ : ∃ a, out.length % N = a := ⟨_, rfl⟩
  obtain ⟨m, hm⟩ : ∃ m, min out.length N = m := ⟨_, rfl⟩
  have hpos := h.pos
  have haN : a < N := by rw [← ha]; exact Nat.mod_lt _ hpos
  have hKN : K < N := by rw [← hK]; exact Nat.mod_lt _ hpos
  have hrel : (d ≤ a ∧ K = a - d) ∨ (a < d ∧ K = a + N - d) := by
    have e1 := Nat.div_add_mod out.length N
    rw [ha] at e1
    rcases Nat.lt_or_ge a d with h3 | h3
    · right
      refine ⟨h3, ?_⟩
      have hq : 0 < out.length / N := by
        rcases Nat.eq_zero_or_pos (out.length / N) with h4 | h4
        · rw [h4] at e1; simp at e1; omega
        · exact h4
      obtain ⟨t, ht⟩ : ∃ t, out.length / N = t + 1 := ⟨out.length / N - 1, by omega⟩
      rw [ht, Nat.mul_add, Nat.mul_one] at e1
      rw [← hK, show out.length - d = (a + N - d) + N * t by omega, Nat.add_mul_mod_self_left, Nat.mod_eq_of_lt (by omega)]
    · left
      refine ⟨h3, ?_⟩
      rw [← hK, show out.length - d = (a - d) + N * (out.length / N) by omega, Nat.add_mul_mod_self_left, Nat.mod_eq_of_lt (by omega)]
  rw [hK] at hb
  rw [ha] at h1
  have hmN : m ≤ N := by omega
  rw [hm] at h2 hdn
  clear ha hm hK hx h
  rcases hrel with ⟨h3, rfl⟩ | ⟨h3, rfl⟩
  · have h4 : ¬ (a : Int) - (d : Int) < 0 := by omega
    have e1 : (a : Int) - (d : Int) = ((a - d : Nat) : Int) := by omega
    go_enter Tryd.func76, Tryd.ntmps76
    go_wp2
    go_ret2
    exact ⟨rfl, rfl⟩
  · have e2 : (a : Int) - (d : Int) + (N : Int) = ((a + N - d : Nat) : Int) := by omega
    have h4 : (a : Int) - (d : Int) < 0 := by omega
    go_enter Tryd.func76, Tryd.ntmps76
    go_wp2
    go_ret2
    exact ⟨rfl, rfl⟩
def RPut (w : World) (p q N : Nat) (out : List Int) (e : Ending) (w' : World) : Prop := e = .returned (.tuple #[]) ∧ Rg w' p q N out ∧ Kp [p, q] w w'
set_option maxHeartbeats 1000000 in
set_option maxRecDepth 100000 in
theorem c_rput (p q N : Nat) (out : List Int) (b : Int) (w : World) (h : Rg w p q N out) (hN : N ≤ 32768) (hb0 : 0 ≤ b) (hb1 : b < 256) :
    Calls Tryd.prog 65 #[.pointer (some ⟨p, 0, none⟩), .int .u8 b] w (RPut w p q N (out ++ [b])) := by
  have h0 := h.c0
  have h1 := h.c1
  have h2 := h.c2
  have hf := h.fz
  have hlt := h.lt
  have hltq := h.ltq
  have hpos := h.pos
  obtain ⟨r, hr, hrl, hri⟩ := h.row
  have hfq : ∀ i, w.frozen? ⟨q, i, none⟩ = false := fun i => frozen_of_row w q i _ _ hr
  obtain ⟨a, ha⟩ : ∃ a, out.length % N = a := ⟨_, rfl⟩
  obtain ⟨m, hm⟩ : ∃ m, min out.length N = m := ⟨_, rfl⟩
  have haN : a < N := by rw [← ha]; exact Nat.mod_lt _ hpos
  have hmN : m ≤ N := by omega
  obtain ⟨y, hy⟩ : ∃ y, w.cell? ⟨q, a, none⟩ = some y := ⟨_, (cell_of_row w q a _ _ _ hr).trans (Array.getElem?_eq_getElem (by simp [u8s]; omega))⟩
  have hcl := h.cells
  rw [ha, hm] at hcl
  rw [ha] at h1
  rw [hm] at h2
  have HH := Lib.hid h
  have HRI := Lib.hid hri
  have HA := Lib.hid ha
  have HM := Lib.hid hm
  have HCL := Lib.hid hcl
  have HR := Lib.hid hr
  have HRL := Lib.hid hrl
  have hne : ¬ p = q := h.ne
  clear h hri ha hm hcl hr hrl
  go_enter Tryd.func65, Tryd.ntmps65
  go_wp2
  go_still_tail 10, (by kernel_rfl)
  change wpList _ _ _ _ _ w.drew
  have hd0 : w.drew.cell? ⟨p, 0, none⟩ = some (.slice (some ⟨q, 0, none⟩) N N) := h0
  have hd1 : w.drew.cell? ⟨p, 1, none⟩ = some (.int .i64 a) := h1
  have hd2 : w.drew.cell? ⟨p, 2, none⟩ = some (.int .i64 m) := h2
  have hdy : w.drew.cell? ⟨q, a, none⟩ = some y := hy
  have hdf : ∀ i, w.drew.frozen? ⟨p, i, none⟩ = false := hf
  have hdq : ∀ i, w.drew.frozen? ⟨q, i, none⟩ = false := hfq
  have hdl : p < w.drew.heap.size := hlt
  have hdlq : q < w.drew.heap.size := hltq
  have HDC := Lib.hid (show w.drew.heap[p]? = some (.cells #[.slice (some ⟨q, 0, none⟩) N N, .int .i64 a, .int .i64 m] 62 (0, 0)) from HCL.out)
  have HDR := Lib.hid (show w.drew.heap[q]? = some (.cells (u8s r).toArray 5 (0, 0)) from HR.out)
  have HK := Lib.hid (show Kp [p, q] w w.drew from (Kp.refl _ _).drew)
  generalize w.drew = w2 at *
  clear h0 h1 h2 hy hf hfq
  go_upto_region 2 with (fail)
  have HK3 := Lib.hid (HK.out.setCell (p := ⟨q, a, none⟩) (.inl (by simp)) (.int .u8 b))
  have HR3 := Lib.hid (heap_set HDR.out a (.int .u8 b))
  have HC3 := Lib.hid (show (w2.setCell ⟨q, a, none⟩ (.int .u8 b)).heap[p]? = some (.cells #[.slice (some ⟨q, 0, none⟩) N N, .int .i64 a, .int .i64 m] 62 (0, 0)) from (Below.heap_setCell w2 ⟨q, a, none⟩ _ p (fun e => hne e)).trans HDC.out)
  generalize w2.setCell ⟨q, a, none⟩ (.int .u8 b) = w3 at *
  clear hd0 hd1 hd2 hdy hdf hdq hdl hdlq
  have g1 : w3.cell? ⟨p, 1, none⟩ = some (.int .i64 a) := cell_of_row w3 p 1 _ _ _ HC3.out
  have gf : ∀ i, w3.frozen? ⟨p, i, none⟩ = false := fun i => frozen_of_row w3 p i _ _ HC3.out
  have gl : p < w3.heap.size := (Array.getElem?_eq_some_iff.1 HC3.out).1
  go_upto_region 3 with (fail)
  have HK4 := Lib.hid (HK3.out.setCell (p := ⟨p, 1, none⟩) (.inl (by simp)) (.int .i64 ((a : Int) + 1)))
  have HC4 := Lib.hid (heap_set HC3.out 1 (.int .i64 ((a : Int) + 1)))
  have HR4 := Lib.hid (show (w3.setCell ⟨p, 1, none⟩ (.int .i64 ((a : Int) + 1))).heap[q]? = some (.cells ((u8s r).toArray.setIfInBounds a (.int .u8 b)) 5 (0, 0)) from (Below.heap_setCell w3 ⟨p, 1, none⟩ _ q (fun e => hne e.symm)).trans HR3.out)
  generalize w3.setCell ⟨p, 1, none⟩ (.int .i64 ((a : Int) + 1)) = w4 at *
  clear g1 gf gl
  have k0 : w4.cell? ⟨p, 0, none⟩ = some (.slice (some ⟨q, 0, none⟩) N N) := cell_of_row w4 p 0 _ _ _ HC4.out
  have k1 : w4.cell? ⟨p, 1, none⟩ = some (.int .i64 ((a : Int) + 1)) := cell_of_row w4 p 1 _ _ _ HC4.out
  have k2 : w4.cell? ⟨p, 2, none⟩ = some (.int .i64 m) := cell_of_row w4 p 2 _ _ _ HC4.out
  have kf : ∀ i, w4.frozen? ⟨p, i, none⟩ = false := fun i => frozen_of_row w4 p i _ _ HC4.out
  have kl : p < w4.heap.size := (Array.getElem?_eq_some_iff.1 HC4.out).1
  have HROW := Lib.hid (show (u8s r).toArray.setIfInBounds a (.int .u8 b) = (u8s (r.set a b)).toArray by simp [u8s, List.map_set])
  have HIN := Lib.hid (show ∀ i x, (out ++ [b])[i]? = some x → (out ++ [b]).length ≤ i + N → (r.set a b)[i % N]? = some x from fun i x hx hi => by
    rw [List.length_append, List.length_singleton] at hi
    rcases Nat.lt_trichotomy i out.length with h5 | h5 | h5
    · rw [List.getElem?_append_left h5] at hx
      have h6 := HRI.out i x hx (by omega)
      rw [List.getElem?_set_ne]
      · exact h6
      · intro e
        have h7 := Nat.sub_mod_eq_zero_of_mod_eq (HA.out.trans e)
        rw [Nat.mod_eq_of_lt (by omega)] at h7
        omega
    · subst h5
      rw [List.getElem?_append_right (Nat.le_refl _)] at hx
      simp at hx
      subst hx
      rw [HA.out, List.getElem?_set_self (by rw [HRL.out]; exact haN)]
    · rw [List.getElem?_eq_none (by simp; omega)] at hx; cases hx)
  have HA2 := Lib.hid (show (out ++ [b]).length % N = if a + 1 = N then 0 else a + 1 by
    rw [List.length_append, List.length_singleton, ← Nat.mod_add_mod, HA.out]
    by_cases h5 : a + 1 = N
    · rw [if_pos h5, h5, Nat.mod_self]
    · rw [if_neg h5, Nat.mod_eq_of_lt (by omega)])
  have HM2 := Lib.hid (show min (out ++ [b]).length N = min (m + 1) N by rw [List.length_append, List.length_singleton, ← HM.out]; omega)
  by_cases hw : a + 1 = N
  · have hw2 : ((a : Int) + 1 == (N : Int)) = true := by rw [beq_iff_eq]; omega
    go_quiet (fail)
    go_upto_region 5 with (fail)
    have HK5 := Lib.hid ((HK4.out.drewN nq).setCell (p := ⟨p, 1, none⟩) (.inl (by simp)) (.int .i64 0))
    have HC5 := Lib.hid (show ((w4.drewN nq).setCell ⟨p, 1, none⟩ (.int .i64 0)).heap[p]? = some (.cells #[.slice (some ⟨q, 0, none⟩) N N, .int .i64 ((0 : Nat) : Int), .int .i64 m] 62 (0, 0)) from heap_set (w := w4.drewN nq) HC4.out 1 (.int .i64 0))
    have HR5 := Lib.hid (show ((w4.drewN nq).setCell ⟨p, 1, none⟩ (.int .i64 0)).heap[q]? = some (.cells ((u8s r).toArray.setIfInBounds a (.int .u8 b)) 5 (0, 0)) from (Below.heap_setCell (w4.drewN nq) ⟨p, 1, none⟩ _ q (fun e => hne e.symm)).trans HR4.out)
    generalize (w4.drewN nq).setCell ⟨p, 1, none⟩ (.int .i64 0) = w5 at *
    clear hw2
    have r0 : w5.cell? ⟨p, 0, none⟩ = some (.slice (some ⟨q, 0, none⟩) N N) := cell_of_row w5 p 0 _ _ _ HC5.out
    have r2 : w5.cell? ⟨p, 2, none⟩ = some (.int .i64 m) := cell_of_row w5 p 2 _ _ _ HC5.out
    have rf : ∀ i, w5.frozen? ⟨p, i, none⟩ = false := fun i => frozen_of_row w5 p i _ _ HC5.out
    have rl : p < w5.heap.size := (Array.getElem?_eq_some_iff.1 HC5.out).1
    clear k0 k1 k2 kf kl
    go_still_tail 12, (by kernel_rfl)
    change wpList _ _ _ _ _ w5.drew
    have HC6 := Lib.hid (show w5.drew.heap[p]? = some (.cells #[.slice (some ⟨q, 0, none⟩) N N, .int .i64 ((0 : Nat) : Int), .int .i64 m] 62 (0, 0)) from HC5.out)
    have HR6 := Lib.hid (show w5.drew.heap[q]? = some (.cells ((u8s r).toArray.setIfInBounds a (.int .u8 b)) 5 (0, 0)) from HR5.out)
    have HK6 := Lib.hid (HK5.out.drew)
    have z2 : w5.drew.cell? ⟨p, 2, none⟩ = some (.int .i64 m) := r2
    have zf : ∀ i, w5.drew.frozen? ⟨p, i, none⟩ = false := rf
    have zl : p < w5.drew.heap.size := rl
    generalize w5.drew = w6 at *
    clear r0 r2 rf rl
    go_wp2
    all_goals (refine bodyPost_end (results_none rfl _ _ _) rfl ?_)
    all_goals (refine ⟨rfl, ⟨(heap_set HC6.out 2 _).trans ?_, ⟨r.set a b, ?_, by rw [List.length_set]; exact HRL.out, HIN.out⟩, hne, hpos⟩, HK6.out.setCell (.inl (by simp)) _⟩)
    all_goals (first
      | (refine (Below.heap_setCell w6 ⟨p, 2, none⟩ _ q (fun e => hne e.symm)).trans ?_
         rw [HR6.out, HROW.out])
      | (rw [HA2.out, if_pos hw, HM2.out]
         refine congrArg (fun v : Int => some (Obj.cells #[.slice (some ⟨q, 0, none⟩) N N, .int .i64 ((0 : Nat) : Int), .int .i64 v] 62 (0, 0))) (?_ : (_ : Int) = _)
         omega))
  · have hw2 : ((a : Int) + 1 == (N : Int)) = false := by rw [beq_eq_false_iff_ne]; omega
    go_quiet (fail)
    go_upto_region 5 with (fail)
    have HK5 := Lib.hid (HK4.out.drewN nq)
    have HC5 := Lib.hid (show (w4.drewN nq).heap[p]? = some (.cells #[.slice (some ⟨q, 0, none⟩) N N, .int .i64 ((a + 1 : Nat) : Int), .int .i64 m] 62 (0, 0)) from HC4.out)
    have HR5 := Lib.hid (show (w4.drewN nq).heap[q]? = some (.cells ((u8s r).toArray.setIfInBounds a (.int .u8 b)) 5 (0, 0)) from HR4.out)
    generalize w4.drewN nq = w5 at *
    clear hw2
    have r0 : w5.cell? ⟨p, 0, none⟩ = some (.slice (some ⟨q, 0, none⟩) N N) := cell_of_row w5 p 0 _ _ _ HC5.out
    have r2 : w5.cell? ⟨p, 2, none⟩ = some (.int .i64 m) := cell_of_row w5 p 2 _ _ _ HC5.out
    have rf : ∀ i, w5.frozen? ⟨p, i, none⟩ = false := fun i => frozen_of_row w5 p i _ _ HC5.out
    have rl : p < w5.heap.size := (Array.getElem?_eq_some_iff.1 HC5.out).1
    clear k0 k1 k2 kf kl
    go_still_tail 12, (by kernel_rfl)
    change wpList _ _ _ _ _ w5.drew
    have HC6 := Lib.hid (show w5.drew.heap[p]? = some (.cells #[.slice (some ⟨q, 0, none⟩) N N, .int .i64 ((a + 1 : Nat) : Int), .int .i64 m] 62 (0, 0)) from HC5.out)
    have HR6 := Lib.hid (show w5.drew.heap[q]? = some (.cells ((u8s r).toArray.setIfInBounds a (.int .u8 b)) 5 (0, 0)) from HR5.out)
    have HK6 := Lib.hid (HK5.out.drew)
    have z2 : w5.drew.cell? ⟨p, 2, none⟩ = some (.int .i64 m) := r2
    have zf : ∀ i, w5.drew.frozen? ⟨p, i, none⟩ = false := rf
    have zl : p < w5.drew.heap.size := rl
    generalize w5.drew = w6 at *
    clear r0 r2 rf rl
    go_wp2
    all_goals (refine bodyPost_end (results_none rfl _ _ _) rfl ?_)
    all_goals (refine ⟨rfl, ⟨(heap_set HC6.out 2 _).trans ?_, ⟨r.set a b, ?_, by rw [List.length_set]; exact HRL.out, HIN.out⟩, hne, hpos⟩, HK6.out.setCell (.inl (by simp)) _⟩)
    all_goals (first
      | (refine (Below.heap_setCell w6 ⟨p, 2, none⟩ _ q (fun e => hne e.symm)).trans ?_
         rw [HR6.out, HROW.out])
      | (rw [HA2.out, if_neg hw, HM2.out]
         refine congrArg (fun v : Int => some (Obj.cells #[.slice (some ⟨q, 0, none⟩) N N, .int .i64 ((a + 1 : Nat) : Int), .int .i64 v] 62 (0, 0))) (?_ : (_ : Int) = _)
         omega))
end Go.Proofs.YtjjcemdoefigkaaDoor.Hf
