/- The splitter in memory, and the walks of its small methods. -/
import Derived.Test.YtmalacamfjdimaaPs
import Derived.Laws.EntriesVeiled
namespace Go.Proofs.Ytmalacamfjdimaa.Pt
open Go.RowKit Go.Proofs.Ytmalacamfjdimaa.W

def stepV : Stp → Value
  | .none => .nilFunc
  | .feed => .func (.func 41) #[] #[]
  | .border => .func (.func 39) #[] #[]
  | .behind => .func (.func 49) #[] #[]
  | .dash => .func (.func 56) #[] #[]
  | .blanks => .func (.func 57) #[] #[]
  | .close => .func (.func 64) #[] #[]
def vI : Verd → Int
  | .wrong => 0
  | .goes => 1
  | .whole => 2

def St.cells (hb ob : Nat) (s : St) : Array Value :=
  #[.string s.want, stepV s.step, .int .i64 s.at_, .bool s.last, .slice (some ⟨hb, 0, none⟩) s.hold.length 94, .slice (some ⟨ob, 0, none⟩) s.out.length 96, .int .i64 s.told, .bool s.opn, .bool s.over, .bool s.ended]

/-- The splitter s lies at block p; what it holds in block hb, its events in block ob. -/
structure Spl (w : World) (p hb ob : Nat) (s : St) : Prop where
  cells : w.heap[p]? = some (.cells (s.cells hb ob) 60 (0, 0))
  hold : w.ownsRow 0 5 1 (.slice (some ⟨hb, 0, none⟩) s.hold.length 94) s.hold.length (u8s s.hold)
  out : w.ownsRow 0 46 5 (.slice (some ⟨ob, 0, none⟩) s.out.length 96) s.out.length (evs s.out)
  ph : p ≠ hb
  po : p ≠ ob
  ho : hb ≠ ob

section
variable {w w' : World} {p hb ob : Nat} {s s' : St}
theorem Spl.cell (h : Spl w p hb ob s) (i : Nat) : w.cell? ⟨p, i, none⟩ = (s.cells hb ob)[i]? := cell_of_row w p i _ _ _ h.cells
theorem Spl.fz (h : Spl w p hb ob s) : ∀ i, w.frozen? ⟨p, i, none⟩ = false := fun i => frozen_of_row w p i _ _ h.cells
theorem Spl.lt (h : Spl w p hb ob s) : p < w.heap.size := (Array.getElem?_eq_some_iff.1 h.cells).1
/-- Only the struct's cells have turned. -/
theorem Spl.upd (h : Spl w p hb ob s) (hc : w'.heap[p]? = some (.cells (s'.cells hb ob) 60 (0, 0))) (hk : Kp [p] w w') (hh : s'.hold = s.hold) (ho : s'.out = s.out) : Spl w' p hb ob s' :=
  ⟨hc, by rw [hh]; exact own_kp h.hold hk (by simpa using h.ph.symm), by rw [ho]; exact own_kp h.out hk (by simpa using h.po.symm), h.ph, h.po, h.ho⟩
theorem Spl.drewN (h : Spl w p hb ob s) (n : Nat) : Spl (w.drewN n) p hb ob s := ⟨h.cells, h.hold, h.out, h.ph, h.po, h.ho⟩
theorem Spl.kept {S : List Nat} (h : Spl w p hb ob s) (hk : Kp S w w') (h1 : p ∉ S) (h2 : hb ∉ S) (h3 : ob ∉ S) : Spl w' p hb ob s :=
  ⟨(hk.block p h.lt h1).trans h.cells, own_kp h.hold hk h2, own_kp h.out hk h3, h.ph, h.po, h.ho⟩
end

def RunPost (w : World) (p hb ob : Nat) (r : Verd × St) (e : Ending) (w' : World) : Prop := e = .returned (.int .i64 (vI r.1)) ∧ Spl w' p hb ob r.2 ∧ Kp [p] w w'
def EndPost (w : World) (p hb ob : Nat) (s' : St) (e : Ending) (w' : World) : Prop := e = .returned (.tuple #[]) ∧ Spl w' p hb ob s' ∧ Kp [p, hb, ob] w w'

theorem kp1 {p : Nat} {w : World} (i : Nat) (u : Value) : Kp [p] w (w.setCell ⟨p, i, none⟩ u) := (Kp.refl _ _).setCell (.inl (by simp)) u

set_option maxHeartbeats 1000000 in
set_option maxRecDepth 100000 in
theorem c_close (p hb ob : Nat) (s : St) (b : Int) (w : World) (h : Spl w p hb ob s) (hs : s.step = .close) :
    Calls Try.prog 64 #[.pointer (some ⟨p, 0, none⟩), .int .u8 b] w (RunPost w p hb ob (s.run b)) := by
  have hr : s.run b = (if b = 10 then .whole else .wrong, s) := by simp [St.run, hs]
  have HR := Lib.hid hr
  clear hr
  by_cases hb : b = 10
  · subst hb
    go_enter Try.func64, Try.ntmps64
    go_wp2
    go_ret
    rw [HR.out]
    exact ⟨rfl, h, Kp.refl _ _⟩
  · have h1 := eqF hb
    have HB := Lib.hid hb
    clear hb
    go_enter Try.func64, Try.ntmps64
    go_wp2
    go_ret
    rw [HR.out, if_neg HB.out]
    exact ⟨rfl, h, Kp.refl _ _⟩

set_option maxHeartbeats 1000000 in
set_option maxRecDepth 100000 in
theorem c_feed (p hb ob : Nat) (s : St) (b : Int) (w : World) (h : Spl w p hb ob s) (hs : s.step = .feed) :
    Calls Try.prog 41 #[.pointer (some ⟨p, 0, none⟩), .int .u8 b] w (RunPost w p hb ob (s.run b)) := by
  have hr : s.run b = (if b = 10 then .goes else .wrong, s.rst) := by simp [St.run, hs]
  have HR := Lib.hid hr
  clear hr
  have c1 := h.cell 1
  have c2 := h.cell 2
  have c3 := h.cell 3
  simp only [St.cells, List.getElem?_toArray, List.getElem?_cons_succ, List.getElem?_cons_zero] at c1 c2 c3
  have fz := h.fz
  have hf : Spl (((w.setCell ⟨p, 1, none⟩ (stepV .border)).setCell ⟨p, 2, none⟩ (.int .i64 0)).setCell ⟨p, 3, none⟩ (.bool false)) p hb ob s.rst :=
    h.upd ((heap_set (heap_set (heap_set h.cells 1 _) 2 _) 3 _).trans rfl) (((kp1 1 _).trans (kp1 2 _)).trans (kp1 3 _)) rfl rfl
  by_cases hb : b = 10
  · subst hb
    go_enter Try.func41, Try.ntmps41
    go_wp2
    go_ret
    rw [HR.out]
    exact ⟨rfl, hf, ((kp1 1 _).trans (kp1 2 _)).trans (kp1 3 _)⟩
  · have h1 := eqF hb
    have HB := Lib.hid hb
    clear hb
    go_enter Try.func41, Try.ntmps41
    go_wp2
    go_ret
    rw [HR.out, if_neg HB.out]
    exact ⟨rfl, hf, ((kp1 1 _).trans (kp1 2 _)).trans (kp1 3 _)⟩
set_option maxHeartbeats 1000000 in
set_option maxRecDepth 100000 in
theorem c_blanks (p hb ob : Nat) (s : St) (b : Int) (w : World) (h : Spl w p hb ob s) (ha : s.at_ ≤ 72) :
    Calls Try.prog 57 #[.pointer (some ⟨p, 0, none⟩), .int .u8 b] w (RunPost w p hb ob (s.rBlanks b)) := by
  have c1 := h.cell 1
  have c2 := h.cell 2
  simp only [St.cells, List.getElem?_toArray, List.getElem?_cons_succ, List.getElem?_cons_zero] at c1 c2
  have fz := h.fz
  by_cases h1 : b = 10
  · subst h1
    have hr : s.rBlanks 10 = (.whole, s) := by simp [St.rBlanks]
    have HR := Lib.hid hr
    clear hr
    go_enter Try.func57, Try.ntmps57
    go_wp2
    go_ret
    rw [HR.out]
    exact ⟨rfl, h, Kp.refl _ _⟩
  · have e1 := eqF h1
    by_cases h2 : b = 13
    · subst h2
      have hr : s.rBlanks 13 = (.goes, { s with step := .close }) := by simp [St.rBlanks]
      have HR := Lib.hid hr
      clear hr h1
      go_enter Try.func57, Try.ntmps57
      go_wp2
      go_ret
      rw [HR.out]
      exact ⟨rfl, h.upd ((heap_set h.cells 1 _).trans rfl) (kp1 1 _) rfl rfl, kp1 1 _⟩
    · have e2 := eqF h2
      by_cases h3 : (b = 9 ∨ b = 32) ∧ s.at_ < 16
      · have hr : s.rBlanks b = (.goes, { s with at_ := s.at_ + 1 }) := by simp [St.rBlanks, h1, h2, h3]
        have HR := Lib.hid hr
        have hlt : (s.at_ : Int) < 16 := by omega
        have h32 := h3.1
        clear hr h1 h2 h3
        rcases h32 with rfl | rfl
        all_goals
          go_enter Try.func57, Try.ntmps57
          go_wp2
          go_ret
          rw [HR.out]
          exact ⟨rfl, h.upd ((heap_set h.cells 2 _).trans rfl) (kp1 2 _) rfl rfl, kp1 2 _⟩
      · have hr : s.rBlanks b = (.wrong, s) := by simp [St.rBlanks, h1, h2, h3]
        have HR := Lib.hid hr
        by_cases h9 : b = 9
        · subst h9
          have hge : ¬ (s.at_ : Int) < 16 := fun hh => h3 ⟨.inl rfl, by omega⟩
          clear hr h1 h2 h3
          go_enter Try.func57, Try.ntmps57
          go_wp2
          go_ret
          rw [HR.out]
          exact ⟨rfl, h, Kp.refl _ _⟩
        · have e9 := eqF h9
          by_cases h32 : b = 32
          · subst h32
            have hge : ¬ (s.at_ : Int) < 16 := fun hh => h3 ⟨.inr rfl, by omega⟩
            clear hr h1 h2 h3 h9
            go_enter Try.func57, Try.ntmps57
            go_wp2
            go_ret
            rw [HR.out]
            exact ⟨rfl, h, Kp.refl _ _⟩
          · have e32 := eqF h32
            clear hr h1 h2 h3 h9 h32
            go_enter Try.func57, Try.ntmps57
            go_wp2
            go_ret
            rw [HR.out]
            exact ⟨rfl, h, Kp.refl _ _⟩

set_option maxHeartbeats 1000000 in
set_option maxRecDepth 100000 in
theorem c_dash (p hb ob : Nat) (s : St) (b : Int) (w : World) (h : Spl w p hb ob s) (hs : s.step = .dash) :
    Calls Try.prog 56 #[.pointer (some ⟨p, 0, none⟩), .int .u8 b] w (RunPost w p hb ob (s.run b)) := by
  have c1 := h.cell 1
  have c3 := h.cell 3
  simp only [St.cells, List.getElem?_toArray, List.getElem?_cons_succ, List.getElem?_cons_zero] at c1 c3
  have fz := h.fz
  by_cases h1 : b = 45
  · subst h1
    have hr : s.run 45 = (.goes, { s with last := true, step := .blanks }) := by simp [St.run, hs]
    have HR := Lib.hid hr
    clear hr hs
    go_enter Try.func56, Try.ntmps56
    go_wp2
    go_ret
    rw [HR.out]
    exact ⟨rfl, h.upd ((heap_set (heap_set h.cells 3 _) 1 _).trans rfl) ((kp1 3 _).trans (kp1 1 _)) rfl rfl, (kp1 3 _).trans (kp1 1 _)⟩
  · have e1 := eqF h1
    have hr : s.run b = (.wrong, { s with last := false, step := .blanks }) := by simp [St.run, hs, h1]
    have HR := Lib.hid hr
    clear hr hs h1
    go_enter Try.func56, Try.ntmps56
    go_wp2
    go_ret
    rw [HR.out]
    exact ⟨rfl, h.upd ((heap_set (heap_set h.cells 3 _) 1 _).trans rfl) ((kp1 3 _).trans (kp1 1 _)) rfl rfl, (kp1 3 _).trans (kp1 1 _)⟩

set_option maxHeartbeats 1000000 in
set_option maxRecDepth 100000 in
theorem c_behind (p hb ob : Nat) (s : St) (b : Int) (w : World) (h : Spl w p hb ob s) (hs : s.step = .behind) (ha : s.at_ ≤ 72) :
    Calls Try.prog 49 #[.pointer (some ⟨p, 0, none⟩), .int .u8 b] w (RunPost w p hb ob (s.run b)) := by
  have c1 := h.cell 1
  simp only [St.cells, List.getElem?_toArray, List.getElem?_cons_succ, List.getElem?_cons_zero] at c1
  have fz := h.fz
  by_cases h1 : b = 45
  · subst h1
    have hr : s.run 45 = (.goes, { s with step := .dash }) := by simp [St.run, hs]
    have HR := Lib.hid hr
    clear hr hs
    go_enter Try.func49, Try.ntmps49
    go_wp2
    go_ret
    rw [HR.out]
    exact ⟨rfl, h.upd ((heap_set h.cells 1 _).trans rfl) (kp1 1 _) rfl rfl, kp1 1 _⟩
  · have e1 := eqF h1
    have hr : s.run b = St.rBlanks b { s with step := .blanks } := by simp [St.run, hs, h1]
    have HR := Lib.hid hr
    have h2 : Spl (w.setCell ⟨p, 1, none⟩ (.func (.func 57) #[] #[])) p hb ob { s with step := .blanks } := h.upd ((heap_set h.cells 1 _).trans rfl) (kp1 1 _) rfl rfl
    have cB := c_blanks p hb ob _ b _ h2 ha
    have CB := Lib.hid cB
    clear hr hs h1 cB
    go_enter Try.func49, Try.ntmps49
    go_wp2_with (go_at_call 57; go_must (refine CB.out.mono ?_); rintro e w1 ⟨rfl, hS, hK⟩)
    go_ret
    rw [HR.out]
    exact ⟨rfl, hS, (kp1 1 _).trans hK⟩

set_option maxHeartbeats 1000000 in
set_option maxRecDepth 100000 in
theorem c_border (p hb ob : Nat) (s : St) (b : Int) (w : World) (h : Spl w p hb ob s) (hs : s.step = .border) (ha : s.at_ < s.want.size) (hw : s.want.size ≤ 72) :
    Calls Try.prog 39 #[.pointer (some ⟨p, 0, none⟩), .int .u8 b] w (RunPost w p hb ob (s.run b)) := by
  have c0 := h.cell 0
  have c1 := h.cell 1
  have c2 := h.cell 2
  simp only [St.cells, List.getElem?_toArray, List.getElem?_cons_succ, List.getElem?_cons_zero] at c0 c1 c2
  have fz := h.fz
  have i0 : (0 : Int) ≤ (s.at_ : Int) := by omega
  have i1 : (s.at_ : Int) < (s.want.size : Int) := by omega
  have hg : (strL s.want)[s.at_]? = some ((s.want[s.at_]'ha).toNat : Int) := by
    rw [strL, List.getElem?_map, List.getElem?_eq_getElem (by rw [Array.length_toList]; exact ha)]
    rfl
  have HG := Lib.hid hg
  clear hg
  by_cases h1 : ((s.want[s.at_]'ha).toNat : Int) = b
  · have e1 := neF h1
    by_cases h2 : s.at_ + 1 = s.want.size
    · have hr : s.run b = (.goes, { s with step := .behind, at_ := 0 }) := by
        rw [show s.run b = s.rBorder b by simp [St.run, hs], St.rBorder, HG.out, if_pos (by rw [h1]), if_pos h2]
      have HR := Lib.hid hr
      have e2 : (((s.at_ : Int) + 1) == (s.want.size : Int)) = true := eqT (by omega)
      clear hr hs h1 h2
      go_enter Try.func39, Try.ntmps39
      go_wp2
      go_quiet (fail)
      go_wp2
      go_quiet (fail)
      go_wp2
      go_ret
      rw [HR.out]
      exact ⟨rfl, h.upd ((heap_set (heap_set (heap_set h.cells 2 _) 1 _) 2 _).trans rfl) (by repeat (first | exact Kp.refl _ _ | refine Kp.drewN ?_ _ | refine Kp.setCell ?_ (.inl (by simp)) _ | refine Kp.alloc ?_ _)) rfl rfl, (by repeat (first | exact Kp.refl _ _ | refine Kp.drewN ?_ _ | refine Kp.setCell ?_ (.inl (by simp)) _ | refine Kp.alloc ?_ _))⟩
    · have hr : s.run b = (.goes, { s with at_ := s.at_ + 1 }) := by
        rw [show s.run b = s.rBorder b by simp [St.run, hs], St.rBorder, HG.out, if_pos (by rw [h1]), if_neg h2]
      have HR := Lib.hid hr
      have e2 : (((s.at_ : Int) + 1) == (s.want.size : Int)) = false := eqF (by omega)
      clear hr hs h1 h2
      go_enter Try.func39, Try.ntmps39
      go_wp2
      go_quiet (fail)
      go_wp2
      go_quiet (fail)
      go_wp2
      go_ret
      rw [HR.out]
      exact ⟨rfl, h.upd ((heap_set h.cells 2 _).trans rfl) (by repeat (first | exact Kp.refl _ _ | refine Kp.drewN ?_ _ | refine Kp.setCell ?_ (.inl (by simp)) _ | refine Kp.alloc ?_ _)) rfl rfl, (by repeat (first | exact Kp.refl _ _ | refine Kp.drewN ?_ _ | refine Kp.setCell ?_ (.inl (by simp)) _ | refine Kp.alloc ?_ _))⟩
  · have e1 := neT h1
    have hr : s.run b = (.wrong, s) := by
      rw [show s.run b = s.rBorder b by simp [St.run, hs], St.rBorder, HG.out, if_neg (fun h => h1 (by injection h))]
    have HR := Lib.hid hr
    clear hr hs h1
    go_enter Try.func39, Try.ntmps39
    go_wp2
    go_quiet (fail)
    go_wp2
    go_ret
    rw [HR.out]
    exact ⟨rfl, h.drewN _, (Kp.refl _ _).drewN _⟩
end Go.Proofs.Ytmalacamfjdimaa.Pt
