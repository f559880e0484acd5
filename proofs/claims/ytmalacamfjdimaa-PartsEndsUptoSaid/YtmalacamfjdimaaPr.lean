/- The splitter's methods take, Put, Next, Reason. -/
import Derived.Test.YtmalacamfjdimaaPt
import Derived.RegionTactic
import Derived.ChangeAlike
namespace Go.Proofs.Ytmalacamfjdimaa.Pt
open Go.RowKit Go.Proofs.Ytmalacamfjdimaa.W

set_option maxHeartbeats 2000000 in
set_option maxRecDepth 100000 in
theorem tg (p hb ob : Nat) (s : St) (b : Int) (w : World) (h : Spl w p hb ob s) (f : Nat) (hsv : stepV s.step = .func (.func f) #[] #[]) (hcf : ∀ args w, (callFunc f args).run Try.prog w = .ok (.enter f args) w) (cR : Calls Try.prog f #[.pointer (some ⟨p, 0, none⟩), .int .u8 b] w (RunPost w p hb ob (s.run b))) (s1 : St) (hv : s.run b = (.goes, s1)) (hhold : s1.hold.length < 94) :
    Calls Try.prog 33 #[.pointer (some ⟨p, 0, none⟩), .int .u8 b] w (EndPost w p hb ob { s1 with hold := s1.hold ++ [b] }) := by
  have c1 := h.cell 1
  simp only [St.cells, List.getElem?_toArray, List.getElem?_cons_succ, List.getElem?_cons_zero] at c1
  have hlt := h.lt
  have ns := fn_some f
  rw [hsv] at c1
  have CR := Lib.hid cR
  have HV := Lib.hid hv
  clear cR hsv hv
  go_enter Try.func33, Try.ntmps33
  go_wp2_with (first
    | (refine CR.out.mono ?_; rintro e w1 ⟨rfl, hS1, hK1⟩; go_must (rw [HV.out] at hS1 ⊢); have d4 := hS1.cell 4; go_must (simp only [St.cells, List.getElem?_toArray, List.getElem?_cons_succ, List.getElem?_cons_zero] at d4); have m1 := hS1.lt; simp only [vI])
    | (at_builtin; go_must (refine wpList_hold rfl (.tmp 22) _ (by rfl) b hS1 hhold (by rfl) (by rfl) (by simp) ?_); intro w5 hH; have k5 := hH.cell; have kz := hH.fz))
  refine bodyPost_ret (results_none rfl _ _ _) rfl ?_
  exact ⟨rfl, hH.spl, (kp3 hK1).trans hH.kp⟩

set_option maxHeartbeats 2000000 in
set_option maxRecDepth 100000 in
theorem tz (p hb ob : Nat) (s : St) (b : Int) (w : World) (h : Spl w p hb ob s) (f : Nat) (hsv : stepV s.step = .func (.func f) #[] #[]) (hcf : ∀ args w, (callFunc f args).run Try.prog w = .ok (.enter f args) w) (cR : Calls Try.prog f #[.pointer (some ⟨p, 0, none⟩), .int .u8 b] w (RunPost w p hb ob (s.run b))) (s1 : St) (hv : s.run b = (.whole, s1)) (ho : s1.out.length + 2 ≤ 96) :
    Calls Try.prog 33 #[.pointer (some ⟨p, 0, none⟩), .int .u8 b] w (EndPost w p hb ob s1.delim) := by
  have c1 := h.cell 1
  simp only [St.cells, List.getElem?_toArray, List.getElem?_cons_succ, List.getElem?_cons_zero] at c1
  have hlt := h.lt
  have ns := fn_some f
  rw [hsv] at c1
  have CR := Lib.hid cR
  have HV := Lib.hid hv
  clear cR hsv hv
  go_enter Try.func33, Try.ntmps33
  go_wp2_with (first
    | (refine CR.out.mono ?_; rintro e w1 ⟨rfl, hS1, hK1⟩; go_must (rw [HV.out] at hS1 ⊢); have m1 := hS1.lt; simp only [vI])
    | (go_at_call 35; go_must (refine (c_delim p hb ob _ _ hS1 ho).mono ?_); rintro e w5 ⟨rfl, hS5, hK5⟩))
  refine bodyPost_ret (results_none rfl _ _ _) rfl ?_
  exact ⟨rfl, hS5, (kp3 hK1).trans hK5⟩

theorem c_take (p hb ob : Nat) (s : St) (b : Int) (w : World) (h : Spl w p hb ob s) (ok : s.Ok) (ho : s.out = []) :
    Calls Try.prog 33 #[.pointer (some ⟨p, 0, none⟩), .int .u8 b] w (EndPost w p hb ob (s.take b)) := by
  have hrh := run_hold s b
  have hh := ok.hold
  rcases c_run p hb ob s b w h ok with hs | ⟨f, hsv, hcf, cR⟩
  · rw [take_none hs]
    by_cases h13 : b = 13
    · subst h13
      exact tn_13 p hb ob s w h hs (by rw [ho]; simp) (by omega)
    · by_cases h10 : b = 10
      · subst h10
        exact tn_10 p hb ob s w h hs (by rw [ho]; simp) (by omega)
      · exact tn_x p hb ob s b w h hs (by rw [ho]; simp) (by omega) h13 h10
  · have hne : s.step ≠ .none := fun hn => by rw [hn] at hsv; cases hsv
    rw [take_some hne]
    obtain ⟨v, s1, hv⟩ : ∃ v s1, s.run b = (v, s1) := ⟨_, _, rfl⟩
    rw [hv] at hrh
    dsimp only at hrh
    cases v
    · rw [hv]
      dsimp only
      have e1 : (s.run b).1 = .wrong := by rw [hv]
      have e2 : (s.run b).2 = s1 := by rw [hv]
      have hfree : (s.run b).2.out.length + (s.run b).2.hold.length ≤ 96 := by rw [e2, hrh.1, hrh.2, ho]; simp; omega
      have hroom : (s.run b).2.free.out.length < 96 := by
        rw [e2]
        unfold St.free
        dsimp only
        rw [hrh.1, hrh.2, ho]
        split <;> simp <;> omega
      have hhold : (s.run b).2.free.hold.length < 94 := by rw [e2]; simp [St.free]
      rw [← e2]
      by_cases h13 : b = 13
      · subst h13
        exact tw_13 p hb ob s w h f hsv hcf cR e1 hfree hroom hhold
      · by_cases h10 : b = 10
        · subst h10
          exact tw_10 p hb ob s w h f hsv hcf cR e1 hfree hroom hhold
        · exact tw_x p hb ob s b w h f hsv hcf cR e1 hfree hroom hhold h13 h10
    · rw [hv]
      exact tg p hb ob s b w h f hsv hcf cR s1 hv (by rw [hrh.1]; omega)
    · rw [hv]
      exact tz p hb ob s b w h f hsv hcf cR s1 hv (by rw [hrh.2, ho]; simp)

def PutPost (w : World) (p hb ob : Nat) (r : Bool × St) (e : Ending) (w' : World) : Prop := e = .returned (.bool r.1) ∧ Spl w' p hb ob r.2 ∧ Kp [p, hb, ob] w w'

/-- 's.out, s.told = s.out[:0], 0', and cells of the struct besides. -/
theorem Spl.unout {w w' : World} {p hb ob : Nat} {s s' : St} (h : Spl w p hb ob s) (hc : w'.heap[p]? = some (.cells (s'.cells hb ob) 60 (0, 0))) (hk : Kp [p] w w') (hh : s'.hold = s.hold) (ho : s'.out = []) : Spl w' p hb ob s' :=
  ⟨hc, by rw [hh]; exact own_kp h.hold hk (by simpa using h.ph.symm), by rw [ho]; exact own_zero (own_kp h.out hk (by simpa using h.po.symm)), h.ph, h.po, h.ho⟩

set_option maxHeartbeats 2000000 in
set_option maxRecDepth 100000 in
theorem c_put (p hb ob : Nat) (s : St) (b : Int) (w : World) (h : Spl w p hb ob s) (ok : s.Ok) (ht : s.told ≤ 96) :
    Calls Try.prog 19 #[.pointer (some ⟨p, 0, none⟩), .int .u8 b] w (PutPost w p hb ob (s.put b)) := by
  have c5 := h.cell 5
  have c6 := h.cell 6
  have c8 := h.cell 8
  have c9 := h.cell 9
  simp only [St.cells, List.getElem?_toArray, List.getElem?_cons_succ, List.getElem?_cons_zero] at c5 c6 c8 c9
  have fz := h.fz
  have hlt := h.lt
  have hcap := (own_cap h.out).1
  cases he : s.ended
  · rw [he] at c9
    by_cases hto : s.told < s.out.length
    · have hto1 : decide (s.told < s.out.length) = true := decT hto
      have hr : s.put b = (false, s) := by simp [St.put, hto]
      have HR := Lib.hid hr
      clear hr hto he
      go_enter Try.func19, Try.ntmps19
      go_wp2
      go_quiet (fail)
      go_wp2
      go_ret
      rw [HR.out]
      exact ⟨rfl, h.drewN _, (Kp.refl _ _).drewN _⟩
    · have hto1 : decide (s.told < s.out.length) = false := decF hto
      cases hov : s.over
      · rw [hov] at c8
        have hr : s.put b = (true, St.take b { s with out := [], told := 0 }) := by simp [St.put, he, hto, hov]
        have HR := Lib.hid hr
        have hS1 : ∀ n, Spl (((w.drewN n).setCell ⟨p, 5, none⟩ (.slice (some ⟨ob, 0, none⟩) 0 96)).setCell ⟨p, 6, none⟩ (.int .i64 0)) p hb ob { s with out := [], told := 0 } := fun n => (h.drewN n).unout ((heap_set (heap_set (h.drewN n).cells 5 _) 6 _).trans rfl) ((kp1 5 _).trans (kp1 6 _)) rfl rfl
        have ok1 : St.Ok { s with out := [], told := 0 } := ⟨ok.want, ok.at_, ok.border, ok.hold⟩
        clear hr hto he hov
        go_enter Try.func19, Try.ntmps19
        go_wp2
        go_quiet (fail)
        go_wp2_with (go_at_call 33; go_must (refine (c_take p hb ob _ b _ (hS1 _) ok1 rfl).mono ?_); rintro e w5 ⟨rfl, hS5, hK5⟩)
        go_ret
        rw [HR.out]
        exact ⟨rfl, hS5, (kp3 (by repeat (first | exact Kp.refl _ _ | refine Kp.drewN ?_ _ | refine Kp.setCell ?_ (.inl (by simp)) _))).trans hK5⟩
      · rw [hov] at c8
        have hr : s.put b = (true, { s with out := [], told := 0 }) := by simp [St.put, he, hto, hov]
        have HR := Lib.hid hr
        have hS1 : ∀ n, Spl (((w.drewN n).setCell ⟨p, 5, none⟩ (.slice (some ⟨ob, 0, none⟩) 0 96)).setCell ⟨p, 6, none⟩ (.int .i64 0)) p hb ob { s with out := [], told := 0 } := fun n => (h.drewN n).unout ((heap_set (heap_set (h.drewN n).cells 5 _) 6 _).trans rfl) ((kp1 5 _).trans (kp1 6 _)) rfl rfl
        clear hr hto he hov
        go_enter Try.func19, Try.ntmps19
        go_wp2
        go_quiet (fail)
        go_wp2
        go_ret
        rw [HR.out]
        exact ⟨rfl, hS1 _, kp3 (by repeat (first | exact Kp.refl _ _ | refine Kp.drewN ?_ _ | refine Kp.setCell ?_ (.inl (by simp)) _))⟩
  · rw [he] at c9
    have hr : s.put b = (false, s) := by simp [St.put, he]
    have HR := Lib.hid hr
    clear hr he
    go_enter Try.func19, Try.ntmps19
    go_wp2
    go_quiet (fail)
    go_wp2
    go_ret
    rw [HR.out]
    exact ⟨rfl, h.drewN _, (Kp.refl _ _).drewN _⟩

def evA : Option Ev → Value
  | none => .agg #[.int .i64 0, .int .u8 0, .int .i64 0, .int .i64 0, .string ByteArray.empty]
  | some e => .agg (evC e).toArray
def NextPost (w : World) (p hb ob : Nat) (r : Option Ev × St) (e : Ending) (w' : World) : Prop := e = .returned (.tuple #[evA r.1, .bool r.1.isSome]) ∧ Spl w' p hb ob r.2 ∧ Kp [p] w w'

theorem evs_at (l : List Ev) (i : Nat) (e : Ev) (h : l[i]? = some e) (j : Nat) (hj : j < 5) : (evs l)[i * 5 + j]? = (evC e)[j]? := by
  induction l generalizing i with
  | nil => simp at h
  | cons x l ih =>
    rw [show evs (x :: l) = evC x ++ evs l by simp [evs]]
    cases i with
    | zero =>
      simp at h
      subst h
      rw [List.getElem?_append_left (by rw [evC_length]; omega)]
      congr 1
      omega
    | succ i =>
      rw [List.getElem?_append_right (by rw [evC_length]; omega), evC_length, ← ih i (by simpa using h)]
      congr 1
      omega

end Go.Proofs.Ytmalacamfjdimaa.Pt
