/- The splitter's methods free, fresh, delimiter, take. -/
import Derived.Test.YtmalacamfjdimaaPv
namespace Go.Proofs.Ytmalacamfjdimaa.Pt
open Go.RowKit Go.Proofs.Ytmalacamfjdimaa.W

theorem kp3 {w w' : World} {p hb ob : Nat} (h : Kp [p] w w') : Kp [p, hb, ob] w w' := h.mono (fun k hk => by left; simp at hk ⊢; exact .inl hk)

/-- 's.hold = s.hold[:0]', and cells of the struct besides. -/
theorem Spl.unhold {w w' : World} {p hb ob : Nat} {s s' : St} (h : Spl w p hb ob s) (hc : w'.heap[p]? = some (.cells (s'.cells hb ob) 60 (0, 0))) (hk : Kp [p] w w') (hh : s'.hold = []) (ho : s'.out = s.out) : Spl w' p hb ob s' :=
  ⟨hc, by rw [hh]; exact own_zero (own_kp h.hold hk (by simpa using h.ph.symm)), by rw [ho]; exact own_kp h.out hk (by simpa using h.po.symm), h.ph, h.po, h.ho⟩

set_option maxHeartbeats 1000000 in
set_option maxRecDepth 100000 in
theorem c_fresh (p hb ob : Nat) (s : St) (w : World) (h : Spl w p hb ob s) :
    Calls Try.prog 27 #[.pointer (some ⟨p, 0, none⟩)] w (EndPost w p hb ob s.fresh) := by
  have c1 := h.cell 1
  have c2 := h.cell 2
  have c3 := h.cell 3
  have c4 := h.cell 4
  simp only [St.cells, List.getElem?_toArray, List.getElem?_cons_succ, List.getElem?_cons_zero] at c1 c2 c3 c4
  have fz := h.fz
  have hn := (own_cap h.hold).1
  go_enter Try.func27, Try.ntmps27
  go_wp2
  go_end0
  exact ⟨rfl, h.unhold ((heap_set (heap_set (heap_set (heap_set h.cells 1 _) 2 _) 3 _) 4 _).trans rfl) (by repeat (first | exact Kp.refl _ _ | refine Kp.drewN ?_ _ | refine Kp.setCell ?_ (.inl (by simp)) _ | refine Kp.alloc ?_ _)) rfl rfl, kp3 (by repeat (first | exact Kp.refl _ _ | refine Kp.drewN ?_ _ | refine Kp.setCell ?_ (.inl (by simp)) _ | refine Kp.alloc ?_ _))⟩

def St.said (s : St) (k : Nat) : St := { s with out := if s.opn then s.out ++ (s.hold.take k).map .by_ else s.out }
theorem said_zero (s : St) : s.said 0 = s := by simp [St.said]
theorem said_all (s : St) : s.said s.hold.length = { s with out := if s.opn then s.out ++ s.hold.map .by_ else s.out } := by simp [St.said]
theorem said_step (s : St) {k : Nat} {b : Int} (h : s.hold[k]? = some b) : (s.said k).say b = s.said (k + 1) := by
  obtain ⟨hk, hb⟩ := List.getElem?_eq_some_iff.1 h
  unfold St.said St.say
  cases s.opn
  · rfl
  · simp [List.take_succ_eq_append_getElem hk, hb]
theorem said_len (s : St) (k : Nat) : (s.said k).out.length ≤ s.out.length + k := by
  unfold St.said
  cases s.opn
  · simp
  · simp; omega

set_option maxHeartbeats 1000000 in
set_option maxRecDepth 100000 in
theorem c_free (p hb' ob : Nat) (s : St) (w : World) (h : Spl w p hb' ob s) (hroom : s.out.length + s.hold.length ≤ 96) :
    Calls Try.prog 36 #[.pointer (some ⟨p, 0, none⟩)] w (EndPost w p hb' ob s.free) := by
  have c4 := h.cell 4
  simp only [St.cells, List.getElem?_toArray, List.getElem?_cons_succ, List.getElem?_cons_zero] at c4
  have hn := (own_cap h.hold).1
  have hlt := h.lt
  have H := Lib.hid h
  clear h
  obtain ⟨n, hnn⟩ : ∃ n, s.hold.length = n := ⟨_, rfl⟩
  have HN := Lib.hid hnn
  rw [hnn] at c4 hn hroom
  clear hnn
  go_enter Try.func36, Try.ntmps36
  go_wp2
  go_loopg [3, 9] n (fun g s3 s9 wx => ∃ k : Nat, k + g = n ∧ s9 = .int .i64 k ∧ Hid (Spl wx p hb' ob (s.said k)) ∧ Kp [p, hb', ob] w wx)
  case atStart => exact ⟨0, by omega, rfl, (by show Spl _ _ _ _ _; rw [said_zero]; exact H.out), Kp.refl _ _⟩
  case round =>
    obtain ⟨k, hkg, rfl, HS, hK⟩ := hrel
    cases gk with
    | succ g =>
      have hkn : (k : Int) < (n : Int) := by omega
      obtain ⟨b, hb⟩ : ∃ b, s.hold[k]? = some b := ⟨_, List.getElem?_eq_getElem (by rw [HN.out]; omega)⟩
      have hcell : wr.cell? ⟨hb', k, none⟩ = some (.int .u8 b) := own_elem HS.out.hold (u8s_get hb)
      have hstep := said_step s hb
      have hlen := said_len s k
      have HST := Lib.hid hstep
      have HLN := Lib.hid hlen
      clear hstep hb hlen
      go_wp2_with (go_at_call 42; go_must (refine (c_say p hb' ob (s.said k) b _ HS.out (by have := HLN.out; omega)).mono ?_); rintro e w1 ⟨rfl, hS1, hK1⟩)
      go_roundg g
      case measure => omega
      case rel => exact ⟨k + 1, by omega, by go_num, (by show Spl _ _ _ _ _; rw [← HST.out]; exact hS1), hK.trans hK1⟩
    | zero =>
      have hkn : ¬ (k : Int) < (n : Int) := by omega
      obtain rfl : k = n := by omega
      have hS := HS.out
      rw [← HN.out, said_all] at hS
      have d4 := hS.cell 4
      have d1 := hS.cell 1
      simp only [St.cells, List.getElem?_toArray, List.getElem?_cons_succ, List.getElem?_cons_zero] at d4 d1
      have dz := hS.fz
      rw [HN.out] at d4
      have hS2 := Lib.hid hS
      clear hS HS H
      go_wp2
      go_end0
      exact ⟨rfl, hS2.out.unhold ((heap_set (heap_set hS2.out.cells 4 _) 1 _).trans rfl) (by repeat (first | exact Kp.refl _ _ | refine Kp.drewN ?_ _ | refine Kp.setCell ?_ (.inl (by simp)) _ | refine Kp.alloc ?_ _)) rfl rfl, hK.trans (kp3 (by repeat (first | exact Kp.refl _ _ | refine Kp.drewN ?_ _ | refine Kp.setCell ?_ (.inl (by simp)) _ | refine Kp.alloc ?_ _)))⟩

def St.d1 (s : St) : St := { s with out := if s.opn then s.out ++ [.cl] else s.out }
def St.d2 (s : St) : St := { s.d1 with opn := !s.last, over := s.last }
theorem d2_len (s : St) : s.d2.out.length ≤ s.out.length + 1 := by
  unfold St.d2 St.d1
  cases s.opn <;> simp
theorem delim_eq (s : St) : s.delim = St.fresh { s.d2 with out := s.d2.out ++ (if s.last then [] else [.op]) } := rfl

set_option maxHeartbeats 1000000 in
set_option maxRecDepth 100000 in
theorem c_delim (p hb ob : Nat) (s : St) (w : World) (h : Spl w p hb ob s) (hroom : s.out.length + 2 ≤ 96) :
    Calls Try.prog 35 #[.pointer (some ⟨p, 0, none⟩)] w (EndPost w p hb ob s.delim) := by
  have c5 := h.cell 5
  have c7 := h.cell 7
  simp only [St.cells, List.getElem?_toArray, List.getElem?_cons_succ, List.getElem?_cons_zero] at c5 c7
  have hlt := h.lt
  have hlen := d2_len s
  go_enter Try.func35, Try.ntmps35
  go_upto_if 5 with (fail)
  go_cut [] (fun wc => Spl wc p hb ob s.d1 ∧ Kp [p, hb, ob] w wc)
  case first =>
    cases ho : s.opn
    · rw [ho] at c7
      have h1 : s.d1 = s := by unfold St.d1; rw [if_neg (by rw [ho]; decide)]
      have H1 := Lib.hid h1
      clear h1 ho
      go_wp2
      go_meet
      case rel => exact ⟨by rw [H1.out]; exact h, Kp.refl _ _⟩
    · rw [ho] at c7
      have h1 : s.d1 = { s with out := s.out ++ [.cl] } := by unfold St.d1; rw [if_pos ho]
      have H1 := Lib.hid h1
      clear h1 ho
      go_wp2_with (at_builtin; go_must (refine wpList_push rfl (.tmp 10) _ (by rfl) .cl rfl h (by omega) (by rfl) (by rfl) (by simp) ?_); intro w1 hP; have k5 := hP.cell; have kz := hP.fz)
      go_meet
      case rel => exact ⟨by rw [H1.out]; exact hP.spl, hP.kp⟩
  case rest =>
    obtain ⟨h1, hk1⟩ := hcut
    have c3 := h1.cell 3
    have c7 := h1.cell 7
    have c8 := h1.cell 8
    simp only [St.cells, List.getElem?_toArray, List.getElem?_cons_succ, List.getElem?_cons_zero] at c3 c7 c8
    have fz := h1.fz
    obtain ⟨L, hL⟩ : ∃ L, s.last = L := ⟨_, rfl⟩
    have c3' : wc.cell? ⟨p, 3, none⟩ = some (.bool L) := by rw [c3, show s.d1.last = s.last from rfl, hL]
    have HL := Lib.hid hL
    clear c3 hL
    go_upto_region 2 with (fail)
    go_cut [] (fun w2 => Spl w2 p hb ob s.d2 ∧ Kp [p] wc w2)
    case first =>
      go_region
      all_goals
        go_wp2
        go_meet
        case rel => exact ⟨h1.upd ((heap_set (heap_set h1.cells 7 (.bool (!L))) 8 (.bool L)).trans (by rw [← HL.out]; rfl)) (by repeat (first | exact Kp.refl _ _ | refine Kp.drewN ?_ _ | refine Kp.drew ?_ | refine Kp.setCell ?_ (.inl (by simp)) _ | refine Kp.alloc ?_ _)) rfl rfl, (by repeat (first | exact Kp.refl _ _ | refine Kp.drewN ?_ _ | refine Kp.drew ?_ | refine Kp.setCell ?_ (.inl (by simp)) _ | refine Kp.alloc ?_ _))⟩
    case rest =>
      obtain ⟨h2, hk2⟩ := hcut
      have c5 := h2.cell 5
      have c7 := h2.cell 7
      simp only [St.cells, List.getElem?_toArray, List.getElem?_cons_succ, List.getElem?_cons_zero] at c5 c7
      have fz := h2.fz
      have hlt2 := h2.lt
      have c7' : wc.cell? ⟨p, 7, none⟩ = some (.bool (!L)) := by rw [c7, show s.d2.opn = !s.last from rfl, HL.out]
      clear c7
      cases L
      · have he : s.delim = St.fresh { s.d2 with out := s.d2.out ++ [.op] } := by rw [delim_eq, HL.out]; rfl
        have HE := Lib.hid he
        clear he
        go_wp2_with (first
          | (at_builtin; go_must (refine wpList_push rfl (.tmp 39) _ (by rfl) .op rfl h2 (by omega) (by rfl) (by rfl) (by simp) ?_); intro w3 hP; have k5 := hP.cell; have kz := hP.fz)
          | (go_at_call 27; go_must (refine (c_fresh p hb ob _ _ hP.spl).mono ?_); rintro e w4 ⟨rfl, hS4, hK4⟩))
        go_end0
        rw [HE.out]
        exact ⟨rfl, hS4, ((hk1.trans (kp3 hk2)).trans hP.kp).trans hK4⟩
      · have he : s.delim = St.fresh s.d2 := by rw [delim_eq, HL.out]; simp
        have HE := Lib.hid he
        clear he
        go_wp2_with (first
          | (go_at_call 27; go_must (refine (c_fresh p hb ob _ _ h2).mono ?_); rintro e w4 ⟨rfl, hS4, hK4⟩))
        go_end0
        rw [HE.out]
        exact ⟨rfl, hS4, (hk1.trans (kp3 hk2)).trans hK4⟩
end Go.Proofs.Ytmalacamfjdimaa.Pt
