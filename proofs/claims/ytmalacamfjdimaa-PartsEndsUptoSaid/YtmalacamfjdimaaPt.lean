/- The splitter's method take. -/
import Derived.Test.YtmalacamfjdimaaPu
namespace Go.Proofs.Ytmalacamfjdimaa.Pt
open Go.RowKit Go.Proofs.Ytmalacamfjdimaa.W

theorem fn_nil (w : World) : (binOp .neq 58 .nilFunc .nilFunc).run Try.prog w = .ok (.bool false) w := by kernel_rfl
theorem fn_some (f : Nat) (w : World) : (binOp .neq 58 (.func (.func f) #[] #[]) .nilFunc).run Try.prog w = .ok (.bool true) w := by kernel_rfl

/-- What take asks. -/
structure St.Ok (s : St) : Prop where
  want : s.want.size ≤ 72
  at_ : s.at_ ≤ 72
  border : s.step = .border → s.at_ < s.want.size
  hold : s.hold.length ≤ 93

theorem run_hold (s : St) (b : Int) : (s.run b).2.hold = s.hold ∧ (s.run b).2.out = s.out := by
  unfold St.run
  split
  · exact ⟨rfl, rfl⟩
  · exact ⟨rfl, rfl⟩
  · unfold St.rBorder
    split
    · dsimp only
      split <;> exact ⟨rfl, rfl⟩
    · exact ⟨rfl, rfl⟩
  · split
    · exact ⟨rfl, rfl⟩
    · unfold St.rBlanks
      repeat' split
      all_goals exact ⟨rfl, rfl⟩
  · exact ⟨rfl, rfl⟩
  · unfold St.rBlanks
    repeat' split
    all_goals exact ⟨rfl, rfl⟩
  · exact ⟨rfl, rfl⟩

/-- Where the tail of take begins. -/
def St.freed (b : Int) (s : St) : St := match s.step with
  | .none => s
  | _ => (s.run b).2.free
theorem freed_len (s : St) (b : Int) (h : s.out = []) (hh : s.hold.length ≤ 93) : (s.freed b).out.length ≤ 93 ∧ (s.freed b).hold.length ≤ 93 := by
  have hr := run_hold s b
  have key : (s.run b).2.free.out.length ≤ 93 ∧ (s.run b).2.free.hold.length ≤ 93 := by
    unfold St.free
    refine ⟨?_, by simp⟩
    dsimp only
    rw [hr.1, hr.2, h]
    split <;> simp <;> omega
  unfold St.freed
  split
  · rw [h]; exact ⟨by simp, hh⟩
  · exact key

theorem c_run (p hb ob : Nat) (s : St) (b : Int) (w : World) (h : Spl w p hb ob s) (ok : s.Ok) : (s.step = .none) ∨ ∃ f, stepV s.step = .func (.func f) #[] #[] ∧ (∀ args w, (callFunc f args).run Try.prog w = .ok (.enter f args) w) ∧ Calls Try.prog f #[.pointer (some ⟨p, 0, none⟩), .int .u8 b] w (RunPost w p hb ob (s.run b)) := by
  cases hs : s.step
  · exact .inl rfl
  · exact .inr ⟨_, rfl, fun _ _ => by kernel_rfl, c_feed p hb ob s b w h hs⟩
  · exact .inr ⟨_, rfl, fun _ _ => by kernel_rfl, c_border p hb ob s b w h hs (ok.border hs) ok.want⟩
  · exact .inr ⟨_, rfl, fun _ _ => by kernel_rfl, c_behind p hb ob s b w h hs ok.at_⟩
  · exact .inr ⟨_, rfl, fun _ _ => by kernel_rfl, c_dash p hb ob s b w h hs⟩
  · refine .inr ⟨_, rfl, fun _ _ => by kernel_rfl, ?_⟩
    have := c_blanks p hb ob s b w h ok.at_
    rwa [show s.rBlanks b = s.run b by simp [St.run, hs]] at this
  · exact .inr ⟨_, rfl, fun _ _ => by kernel_rfl, c_close p hb ob s b w h hs⟩

theorem take_none {s : St} {b : Int} (h : s.step = .none) : s.take b = s.tail b := by
  unfold St.take
  split
  · rfl
  · contradiction
theorem take_some {s : St} {b : Int} (h : s.step ≠ .none) : s.take b = match s.run b with
    | (.goes, s') => { s' with hold := s'.hold ++ [b] }
    | (.whole, s') => s'.delim
    | (.wrong, s') => s'.free.tail b := by
  unfold St.take
  split
  · contradiction
  · rfl

/-- 's.step = feed', as the tail of take has it -/
theorem tail_13 {w : World} {p hb ob : Nat} {t : St} (h : Spl w p hb ob t) : Spl (w.setCell ⟨p, 1, none⟩ (.func (.func 41) #[] #[])) p hb ob { t with step := .feed } :=
  h.upd ((heap_set h.cells 1 _).trans rfl) (kp1 1 _) rfl rfl
theorem tail_10 {w : World} {p hb ob : Nat} {t : St} (h : Spl w p hb ob t) : Spl (((w.setCell ⟨p, 1, none⟩ (.func (.func 39) #[] #[])).setCell ⟨p, 2, none⟩ (.int .i64 0)).setCell ⟨p, 3, none⟩ (.bool false)) p hb ob t.rst :=
  h.upd ((heap_set (heap_set (heap_set h.cells 1 _) 2 _) 3 _).trans rfl) (by repeat (first | exact Kp.refl _ _ | refine Kp.drewN ?_ _ | refine Kp.drew ?_ | refine Kp.setCell ?_ (.inl (by simp)) _ | refine Kp.alloc ?_ _)) rfl rfl

set_option maxHeartbeats 2000000 in
set_option maxRecDepth 100000 in
theorem tn_13 (p hb ob : Nat) (s : St) (w : World) (h : Spl w p hb ob s) (hs : s.step = .none) (hroom : s.out.length < 96) (hhold : s.hold.length < 94) :
    Calls Try.prog 33 #[.pointer (some ⟨p, 0, none⟩), .int .u8 13] w (EndPost w p hb ob (s.tail 13)) := by
  have c1 := h.cell 1
  have c2 := h.cell 2
  have c3 := h.cell 3
  have c4 := h.cell 4
  simp only [St.cells, List.getElem?_toArray, List.getElem?_cons_succ, List.getElem?_cons_zero] at c1 c2 c3 c4
  have fz := h.fz
  have hlt := h.lt
  have nn := fn_nil
  rw [hs] at c1
  simp only [stepV] at c1
  have hs2 := fun (w1 : World) (h1 : Spl w1 p hb ob (s)) => tail_13 h1
  have HS2 := Lib.hid hs2
  clear hs2
  go_enter Try.func33, Try.ntmps33
  go_wp2_with (first
    | (at_builtin; go_must (refine wpList_hold rfl (.tmp 58) _ (by rfl) 13 (HS2.out _ h) hhold (by rfl) (by rfl) (by simp) ?_); intro w5 hH; have k5 := hH.cell; have kz := hH.fz))
  go_end0
  exact ⟨rfl, hH.spl, (kp3 (by repeat (first | exact Kp.refl _ _ | refine Kp.drewN ?_ _ | refine Kp.drew ?_ | refine Kp.setCell ?_ (.inl (by simp)) _ | refine Kp.alloc ?_ _))).trans hH.kp⟩

set_option maxHeartbeats 2000000 in
set_option maxRecDepth 100000 in
theorem tn_10 (p hb ob : Nat) (s : St) (w : World) (h : Spl w p hb ob s) (hs : s.step = .none) (hroom : s.out.length < 96) (hhold : s.hold.length < 94) :
    Calls Try.prog 33 #[.pointer (some ⟨p, 0, none⟩), .int .u8 10] w (EndPost w p hb ob (s.tail 10)) := by
  have c1 := h.cell 1
  have c2 := h.cell 2
  have c3 := h.cell 3
  have c4 := h.cell 4
  simp only [St.cells, List.getElem?_toArray, List.getElem?_cons_succ, List.getElem?_cons_zero] at c1 c2 c3 c4
  have fz := h.fz
  have hlt := h.lt
  have nn := fn_nil
  rw [hs] at c1
  simp only [stepV] at c1
  have hs2 := fun (w1 : World) (h1 : Spl w1 p hb ob (s)) => tail_10 h1
  have HS2 := Lib.hid hs2
  clear hs2
  go_enter Try.func33, Try.ntmps33
  go_wp2_with (first
    | (at_builtin; go_must (refine wpList_hold rfl (.tmp 58) _ (by rfl) 10 (HS2.out _ h) hhold (by rfl) (by rfl) (by simp) ?_); intro w5 hH; have k5 := hH.cell; have kz := hH.fz))
  go_end0
  exact ⟨rfl, hH.spl, (kp3 (by repeat (first | exact Kp.refl _ _ | refine Kp.drewN ?_ _ | refine Kp.drew ?_ | refine Kp.setCell ?_ (.inl (by simp)) _ | refine Kp.alloc ?_ _))).trans hH.kp⟩

set_option maxHeartbeats 2000000 in
set_option maxRecDepth 100000 in
theorem tn_x (p hb ob : Nat) (s : St) (b : Int) (w : World) (h : Spl w p hb ob s) (hs : s.step = .none) (hroom : s.out.length < 96) (hhold : s.hold.length < 94) (b13 : b ≠ 13) (b10 : b ≠ 10) :
    Calls Try.prog 33 #[.pointer (some ⟨p, 0, none⟩), .int .u8 b] w (EndPost w p hb ob (s.tail b)) := by
  have c1 := h.cell 1
  have c2 := h.cell 2
  have c3 := h.cell 3
  have c4 := h.cell 4
  simp only [St.cells, List.getElem?_toArray, List.getElem?_cons_succ, List.getElem?_cons_zero] at c1 c2 c3 c4
  have fz := h.fz
  have hlt := h.lt
  have nn := fn_nil
  rw [hs] at c1
  simp only [stepV] at c1
  have x13 := eqF b13
  have x10 := eqF b10
  have ht : St.tail b s = St.say b s := by unfold St.tail; rw [if_neg b13, if_neg b10]
  have HT := Lib.hid ht
  clear b13 b10 ht
  go_enter Try.func33, Try.ntmps33
  go_wp2_with (first
    | (go_at_call 42; go_must (refine (c_say p hb ob _ b _ h hroom).mono ?_); rintro e w5 ⟨rfl, hS5, hK5⟩))
  go_end0
  rw [HT.out]
  exact ⟨rfl, hS5, hK5⟩

set_option maxHeartbeats 2000000 in
set_option maxRecDepth 100000 in
theorem tw_13 (p hb ob : Nat) (s : St) (w : World) (h : Spl w p hb ob s) (f : Nat) (hsv : stepV s.step = .func (.func f) #[] #[]) (hcf : ∀ args w, (callFunc f args).run Try.prog w = .ok (.enter f args) w) (cR : Calls Try.prog f #[.pointer (some ⟨p, 0, none⟩), .int .u8 13] w (RunPost w p hb ob (s.run 13))) (hv : (s.run 13).1 = .wrong) (hfree : (s.run 13).2.out.length + (s.run 13).2.hold.length ≤ 96) (hroom : (s.run 13).2.free.out.length < 96) (hhold : (s.run 13).2.free.hold.length < 94) :
    Calls Try.prog 33 #[.pointer (some ⟨p, 0, none⟩), .int .u8 13] w (EndPost w p hb ob ((s.run 13).2.free.tail 13)) := by
  have c1 := h.cell 1
  simp only [St.cells, List.getElem?_toArray, List.getElem?_cons_succ, List.getElem?_cons_zero] at c1
  have fz := h.fz
  have hlt := h.lt
  have ns := fn_some f
  rw [hsv] at c1
  have CR := Lib.hid cR
  clear cR hsv
  obtain ⟨s1, hs1⟩ : ∃ s1, (s.run 13).2 = s1 := ⟨_, rfl⟩
  rw [hs1] at hfree hhold hroom ⊢
  have HR : Hid ((s.run 13) = (.wrong, s1)) := (by show _ = _; rw [← hv, ← hs1])
  clear hv hs1
  have hs2 := fun (w1 : World) (h1 : Spl w1 p hb ob (s1.free)) => tail_13 h1
  have HS2 := Lib.hid hs2
  clear hs2
  go_enter Try.func33, Try.ntmps33
  go_wp2_with (first
    | (refine CR.out.mono ?_; rintro e w1 ⟨rfl, hS1, hK1⟩; go_must (rw [HR.out] at hS1 ⊢); have m1 := hS1.lt)
    | (go_at_call 36; go_must (refine (c_free p hb ob _ _ hS1 hfree).mono ?_); rintro e w2 ⟨rfl, hS2, hK2⟩; have d1 := hS2.cell 1; have d2 := hS2.cell 2; have d3 := hS2.cell 3; have d4 := hS2.cell 4; go_must (simp only [St.cells, List.getElem?_toArray, List.getElem?_cons_succ, List.getElem?_cons_zero] at d1 d2 d3 d4); have dz := hS2.fz)
    | (at_builtin; go_must (refine wpList_hold rfl (.tmp 58) _ (by rfl) 13 (HS2.out _ hS2) hhold (by rfl) (by rfl) (by simp) ?_); intro w5 hH; have k5 := hH.cell; have kz := hH.fz))
  go_end0
  exact ⟨rfl, hH.spl, ((kp3 hK1).trans hK2).trans ((kp3 (by repeat (first | exact Kp.refl _ _ | refine Kp.drewN ?_ _ | refine Kp.drew ?_ | refine Kp.setCell ?_ (.inl (by simp)) _ | refine Kp.alloc ?_ _))).trans hH.kp)⟩

set_option maxHeartbeats 2000000 in
set_option maxRecDepth 100000 in
theorem tw_10 (p hb ob : Nat) (s : St) (w : World) (h : Spl w p hb ob s) (f : Nat) (hsv : stepV s.step = .func (.func f) #[] #[]) (hcf : ∀ args w, (callFunc f args).run Try.prog w = .ok (.enter f args) w) (cR : Calls Try.prog f #[.pointer (some ⟨p, 0, none⟩), .int .u8 10] w (RunPost w p hb ob (s.run 10))) (hv : (s.run 10).1 = .wrong) (hfree : (s.run 10).2.out.length + (s.run 10).2.hold.length ≤ 96) (hroom : (s.run 10).2.free.out.length < 96) (hhold : (s.run 10).2.free.hold.length < 94) :
    Calls Try.prog 33 #[.pointer (some ⟨p, 0, none⟩), .int .u8 10] w (EndPost w p hb ob ((s.run 10).2.free.tail 10)) := by
  have c1 := h.cell 1
  simp only [St.cells, List.getElem?_toArray, List.getElem?_cons_succ, List.getElem?_cons_zero] at c1
  have fz := h.fz
  have hlt := h.lt
  have ns := fn_some f
  rw [hsv] at c1
  have CR := Lib.hid cR
  clear cR hsv
  obtain ⟨s1, hs1⟩ : ∃ s1, (s.run 10).2 = s1 := ⟨_, rfl⟩
  rw [hs1] at hfree hhold hroom ⊢
  have HR : Hid ((s.run 10) = (.wrong, s1)) := (by show _ = _; rw [← hv, ← hs1])
  clear hv hs1
  have hs2 := fun (w1 : World) (h1 : Spl w1 p hb ob (s1.free)) => tail_10 h1
  have HS2 := Lib.hid hs2
  clear hs2
  go_enter Try.func33, Try.ntmps33
  go_wp2_with (first
    | (refine CR.out.mono ?_; rintro e w1 ⟨rfl, hS1, hK1⟩; go_must (rw [HR.out] at hS1 ⊢); have m1 := hS1.lt)
    | (go_at_call 36; go_must (refine (c_free p hb ob _ _ hS1 hfree).mono ?_); rintro e w2 ⟨rfl, hS2, hK2⟩; have d1 := hS2.cell 1; have d2 := hS2.cell 2; have d3 := hS2.cell 3; have d4 := hS2.cell 4; go_must (simp only [St.cells, List.getElem?_toArray, List.getElem?_cons_succ, List.getElem?_cons_zero] at d1 d2 d3 d4); have dz := hS2.fz)
    | (at_builtin; go_must (refine wpList_hold rfl (.tmp 58) _ (by rfl) 10 (HS2.out _ hS2) hhold (by rfl) (by rfl) (by simp) ?_); intro w5 hH; have k5 := hH.cell; have kz := hH.fz))
  go_end0
  exact ⟨rfl, hH.spl, ((kp3 hK1).trans hK2).trans ((kp3 (by repeat (first | exact Kp.refl _ _ | refine Kp.drewN ?_ _ | refine Kp.drew ?_ | refine Kp.setCell ?_ (.inl (by simp)) _ | refine Kp.alloc ?_ _))).trans hH.kp)⟩

set_option maxHeartbeats 2000000 in
set_option maxRecDepth 100000 in
theorem tw_x (p hb ob : Nat) (s : St) (b : Int) (w : World) (h : Spl w p hb ob s) (f : Nat) (hsv : stepV s.step = .func (.func f) #[] #[]) (hcf : ∀ args w, (callFunc f args).run Try.prog w = .ok (.enter f args) w) (cR : Calls Try.prog f #[.pointer (some ⟨p, 0, none⟩), .int .u8 b] w (RunPost w p hb ob (s.run b))) (hv : (s.run b).1 = .wrong) (hfree : (s.run b).2.out.length + (s.run b).2.hold.length ≤ 96) (hroom : (s.run b).2.free.out.length < 96) (hhold : (s.run b).2.free.hold.length < 94) (b13 : b ≠ 13) (b10 : b ≠ 10) :
    Calls Try.prog 33 #[.pointer (some ⟨p, 0, none⟩), .int .u8 b] w (EndPost w p hb ob ((s.run b).2.free.tail b)) := by
  have c1 := h.cell 1
  simp only [St.cells, List.getElem?_toArray, List.getElem?_cons_succ, List.getElem?_cons_zero] at c1
  have fz := h.fz
  have hlt := h.lt
  have ns := fn_some f
  rw [hsv] at c1
  have CR := Lib.hid cR
  clear cR hsv
  obtain ⟨s1, hs1⟩ : ∃ s1, (s.run b).2 = s1 := ⟨_, rfl⟩
  rw [hs1] at hfree hhold hroom ⊢
  have HR : Hid ((s.run b) = (.wrong, s1)) := (by show _ = _; rw [← hv, ← hs1])
  clear hv hs1
  have x13 := eqF b13
  have x10 := eqF b10
  have ht : St.tail b s1.free = St.say b s1.free := by unfold St.tail; rw [if_neg b13, if_neg b10]
  have HT := Lib.hid ht
  clear b13 b10 ht
  go_enter Try.func33, Try.ntmps33
  go_wp2_with (first
    | (refine CR.out.mono ?_; rintro e w1 ⟨rfl, hS1, hK1⟩; go_must (rw [HR.out] at hS1 ⊢); have m1 := hS1.lt)
    | (go_at_call 36; go_must (refine (c_free p hb ob _ _ hS1 hfree).mono ?_); rintro e w2 ⟨rfl, hS2, hK2⟩; have d1 := hS2.cell 1; have d2 := hS2.cell 2; have d3 := hS2.cell 3; have d4 := hS2.cell 4; go_must (simp only [St.cells, List.getElem?_toArray, List.getElem?_cons_succ, List.getElem?_cons_zero] at d1 d2 d3 d4); have dz := hS2.fz)
    | (go_at_call 42; go_must (refine (c_say p hb ob _ b _ hS2 hroom).mono ?_); rintro e w5 ⟨rfl, hS5, hK5⟩))
  go_end0
  rw [HT.out]
  exact ⟨rfl, hS5, ((kp3 hK1).trans hK2).trans hK5⟩

end Go.Proofs.Ytmalacamfjdimaa.Pt
