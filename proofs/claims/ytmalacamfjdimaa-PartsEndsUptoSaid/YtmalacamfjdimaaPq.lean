/- The splitter's methods Next, Reason. -/
import Derived.Test.YtmalacamfjdimaaPr
namespace Go.Proofs.Ytmalacamfjdimaa.Pt
open Go.RowKit Go.Proofs.Ytmalacamfjdimaa.W

theorem next_frame {w w' : World} {p hb ob : Nat} {s : St} (h : Spl w p hb ob s) (hk : Kp [] w w') : NextPost w p hb ob (none, s) (.returned (.tuple #[.agg #[.int .i64 0, .int .u8 0, .int .i64 0, .int .i64 0, .string ByteArray.empty], .bool false])) w' :=
  ⟨rfl, h.kept hk (by simp) (by simp) (by simp), hk.mono (fun k hk => by simp at hk)⟩

set_option maxHeartbeats 2000000 in
set_option maxRecDepth 100000 in
theorem c_next_none (p hb ob : Nat) (s : St) (w : World) (h : Spl w p hb ob s) (hr : s.out[s.told]? = none) :
    Calls Try.prog 23 #[.pointer (some ⟨p, 0, none⟩)] w (NextPost w p hb ob (none, s)) := by
  have c5 := h.cell 5
  have c6 := h.cell 6
  simp only [St.cells, List.getElem?_toArray, List.getElem?_cons_succ, List.getElem?_cons_zero] at c5 c6
  have hlt := h.lt
  have hto : decide (s.out.length ≤ s.told) = true := decT (by simpa using hr)
  clear hr
  go_enter Try.func23, Try.ntmps23
  go_wp2
  go_quiet (fail)
  go_wp2
  refine bodyPost_ret (v := .tuple #[.agg #[.int .i64 0, .int .u8 0, .int .i64 0, .int .i64 0, .string ByteArray.empty], .bool false]) (by simp [results, Try.results23, go_sem]; rfl) rfl ?_
  exact next_frame h (by repeat (first | exact Kp.refl _ _ | refine Kp.drewN ?_ _ | refine Kp.setCell ?_ (.inr (Nat.le_refl _)) _ | refine Kp.alloc ?_ _))

theorem next_mid {w w' : World} {p hb ob n : Nat} {s : St} {cs : Array Value} (h : Spl w p hb ob s) (hw : w' = ((w.alloc (.cells cs 46)).drewN n).setCell ⟨p, 6, none⟩ (.int .i64 ((s.told : Int) + 1))) :
    Spl w' p hb ob { s with told := s.told + 1 } ∧ Kp [p] w w' ∧ w'.heap[w.heap.size]? = some (.cells cs 46 (0, 0)) := by
  subst hw
  have hk : Kp [] w ((w.alloc (.cells cs 46)).drewN n) := ((Kp.refl _ _).alloc _).drewN n
  have hA : Spl ((w.alloc (.cells cs 46)).drewN n) p hb ob s := h.kept hk (by simp) (by simp) (by simp)
  refine ⟨hA.upd ((heap_set hA.cells 6 _).trans rfl) (kp1 6 _) rfl rfl, (hk.mono (fun k hk => by simp at hk)).trans (kp1 6 _), ?_⟩
  have hlt := h.lt
  exact (heap_setCell_other _ ⟨p, 6, none⟩ w.heap.size _ (by show w.heap.size ≠ p; omega)).trans (heap_alloc_new w _)

theorem next_end {w wc w' : World} {p hb ob : Nat} {s : St} {ev : Ev} {a b c d e : Value} (hev : evC ev = [a, b, c, d, e]) (hS : Spl wc p hb ob s) (hK : Kp [p] w wc) (hp : p < w.heap.size) (ho : ob < w.heap.size) (hh : hb < w.heap.size) (hk : Kp [w.heap.size] wc w') :
    NextPost w p hb ob (some ev, s) (.returned (.tuple #[.agg #[a, b, c, d, e], .bool true])) w' := by
  refine ⟨by simp [evA, hev], hS.kept hk (by simp; omega) (by simp; omega) (by simp; omega), ?_⟩
  have h1 : Kp [p, w.heap.size] w w' := (hK.mono (fun k hk => by left; simp at hk ⊢; exact .inl hk)).trans (hk.mono (fun k hk => by left; simp at hk ⊢; exact .inr hk))
  exact h1.mono (fun k hk => by
    simp at hk
    rcases hk with rfl | rfl
    · left; simp
    · right; exact Nat.le_refl _)

set_option maxHeartbeats 2000000 in
set_option maxRecDepth 100000 in
theorem c_next_some (p hb ob : Nat) (s : St) (w : World) (h : Spl w p hb ob s) (ev : Ev) (hr : s.out[s.told]? = some ev) :
    Calls Try.prog 23 #[.pointer (some ⟨p, 0, none⟩)] w (NextPost w p hb ob (some ev, { s with told := s.told + 1 })) := by
  have c5 := h.cell 5
  have c6 := h.cell 6
  simp only [St.cells, List.getElem?_toArray, List.getElem?_cons_succ, List.getElem?_cons_zero] at c5 c6
  have hlt := h.lt
  have hob := own_lt h.out
  have hpo := h.po
  have hl : s.told < s.out.length := (List.getElem?_eq_some_iff.1 hr).1
  have hcap := (own_cap h.out).1
  have hto : decide (s.out.length ≤ s.told) = false := decF (by omega)
  have fz := h.fz
  obtain ⟨kk, bb, nn, hev⟩ : ∃ kk bb nn : Int, evC ev = [.int .i64 kk, .int .u8 bb, .int .i64 nn, .int .i64 0, .string ⟨#[]⟩] := by cases ev <;> exact ⟨_, _, _, rfl⟩
  have k : ∀ j u, j < 5 → ([.int .i64 kk, .int .u8 bb, .int .i64 nn, .int .i64 0, .string ⟨#[]⟩] : List Value)[j]? = some u → w.cell? ⟨ob, s.told * 5 + j, none⟩ = some u := fun j u hj hu => own_elem h.out ((evs_at s.out s.told ev hr j hj).trans (by rw [hev]; exact hu))
  have k0 : w.cell? ⟨ob, s.told * 5, none⟩ = some (.int .i64 kk) := k 0 _ (by omega) rfl
  have k1 : w.cell? ⟨ob, s.told * 5 + 1, none⟩ = some (.int .u8 bb) := k 1 _ (by omega) rfl
  have k2 : w.cell? ⟨ob, s.told * 5 + 2, none⟩ = some (.int .i64 nn) := k 2 _ (by omega) rfl
  have k3 : w.cell? ⟨ob, s.told * 5 + 3, none⟩ = some (.int .i64 0) := k 3 _ (by omega) rfl
  have k4 : w.cell? ⟨ob, s.told * 5 + 4, none⟩ = some (.string ⟨#[]⟩) := k 4 _ (by omega) rfl
  have HEV := Lib.hid hev
  have i0 : (0 : Int) ≤ (s.told : Int) := by omega
  have i1 : (s.told : Int) < (s.out.length : Int) := by omega
  have i2 : (s.out.length : Int) ≤ 96 := by omega
  clear hr k hev
  go_enter Try.func23, Try.ntmps23
  go_wp2
  go_quiet (fail)
  go_wp2
  generalize hW : World.setCell _ _ _ = wc
  have hmid := next_mid (w' := wc) h hW.symm
  obtain ⟨hS, hK, hN⟩ := hmid
  clear hW
  have d5 := hS.cell 5
  have d6 := hS.cell 6
  simp only [St.cells, List.getElem?_toArray, List.getElem?_cons_succ, List.getElem?_cons_zero] at d5 d6
  have hk0 : ∀ j u, w.cell? ⟨ob, j, none⟩ = some u → wc.cell? ⟨ob, j, none⟩ = some u := fun j u hu => (World.cell?_of_block (a := ⟨ob, j, none⟩) (hK.block ob hob (by simpa using hpo.symm))).trans hu
  replace k0 := hk0 _ _ k0
  replace k1 := hk0 _ _ k1
  replace k2 := hk0 _ _ k2
  replace k3 := hk0 _ _ k3
  replace k4 := hk0 _ _ k4
  obtain ⟨N, hNN⟩ : ∃ N, w.heap.size = N := ⟨_, rfl⟩
  have n0 := cell_of_row wc w.heap.size 0 _ _ _ hN
  have n1 := cell_of_row wc w.heap.size 1 _ _ _ hN
  have n2 := cell_of_row wc w.heap.size 2 _ _ _ hN
  have n3 := cell_of_row wc w.heap.size 3 _ _ _ hN
  have n4 := cell_of_row wc w.heap.size 4 _ _ _ hN
  have nz : ∀ i, wc.frozen? ⟨w.heap.size, i, none⟩ = false := fun i => frozen_of_row wc w.heap.size i _ _ hN
  simp only [List.getElem?_toArray, List.getElem?_cons_succ, List.getElem?_cons_zero] at n0 n1 n2 n3 n4
  clear hk0 hNN
  go_region
  go_wp2
  refine bodyPost_ret (v := .tuple #[.agg #[.int .i64 kk, .int .u8 bb, .int .i64 nn, .int .i64 0, .string ⟨#[]⟩], .bool true]) (by simp [results, Try.results23, go_sem, n0, n1, n2, n3, n4]) rfl ?_
  exact next_end HEV.out hS hK h.lt hob (own_lt h.hold) (by repeat (first | exact Kp.refl _ _ | refine Kp.drew ?_ | refine Kp.drewN ?_ _ | refine Kp.setCell ?_ (.inl (by simp)) _))

theorem c_next (p hb ob : Nat) (s : St) (w : World) (h : Spl w p hb ob s) :
    Calls Try.prog 23 #[.pointer (some ⟨p, 0, none⟩)] w (NextPost w p hb ob s.next) := by
  unfold St.next
  cases hr : s.out[s.told]? with
  | none => exact c_next_none p hb ob s w h hr
  | some ev => exact c_next_some p hb ob s w h ev hr

set_option maxHeartbeats 2000000 in
set_option maxRecDepth 100000 in
theorem c_reason (p hb ob : Nat) (s : St) (w : World) (h : Spl w p hb ob s) :
    Calls Try.prog 21 #[.pointer (some ⟨p, 0, none⟩)] w fun e w' => e = .returned (.int .i64 s.reason) ∧ ∃ n, w' = w.drewN n := by
  have c5 := h.cell 5
  have c6 := h.cell 6
  have c8 := h.cell 8
  have c9 := h.cell 9
  simp only [St.cells, List.getElem?_toArray, List.getElem?_cons_succ, List.getElem?_cons_zero] at c5 c6 c8 c9
  have hlt := h.lt
  cases he : s.ended
  · rw [he] at c9
    have hr : s.reason = 0 := by simp [St.reason, he]
    have HR := Lib.hid hr
    clear hr he
    go_enter Try.func21, Try.ntmps21
    go_wp2
    go_quiet (fail)
    go_wp2
    go_ret
    rw [HR.out]
    exact ⟨rfl, _, rfl⟩
  · rw [he] at c9
    by_cases hto : s.told < s.out.length
    · have hto1 : decide (s.told < s.out.length) = true := decT hto
      have hr : s.reason = 0 := by simp [St.reason, hto]
      have HR := Lib.hid hr
      clear hr he hto
      go_enter Try.func21, Try.ntmps21
      go_wp2
      go_quiet (fail)
      go_wp2
      go_ret
      rw [HR.out]
      exact ⟨rfl, _, rfl⟩
    · have hto1 : decide (s.told < s.out.length) = false := decF hto
      cases hov : s.over
      all_goals
        rw [hov] at c8
        have hr := Lib.hid (show s.reason = s.reason from rfl)
        have hr2 : s.reason = if s.over then 0 else 33 := by simp [St.reason, he, hto]
        rw [hov] at hr2
        have HR := Lib.hid hr2
        clear hr hr2 he hto hov
        go_enter Try.func21, Try.ntmps21
        go_wp2
        go_quiet (fail)
        go_wp2
        go_ret
        rw [HR.out]
        exact ⟨rfl, _, rfl⟩
end Go.Proofs.Ytmalacamfjdimaa.Pt
