/- The splitter's method End. -/
import Derived.Test.YtmalacamfjdimaaPk
namespace Go.Proofs.Ytmalacamfjdimaa.Pt
open Go.RowKit Go.Proofs.Ytmalacamfjdimaa.W

def St.e1 (s : St) : St := { s with ended := true, out := [], told := 0 }
def St.e2 (s : St) : St := if s.e1.delims8 then s.e1.delim else s.e1.free
def St.fin8 (s : St) : St :=
  if s.ended || decide (s.told < s.out.length) then s
  else if s.over then s.e1
  else if s.e2.opn then { s.e2 with out := s.e2.out ++ [.cl] } else s.e2
theorem e2_len (s : St) (h : s.hold.length ≤ 93) : s.e2.out.length ≤ 93 := by
  unfold St.e2
  split
  · have := d2_len s.e1
    rw [delim_eq]
    simp only [St.fresh, List.length_append]
    have e : s.e1.out = [] := rfl
    rw [e] at this
    split <;> simp at this ⊢ <;> omega
  · unfold St.free St.e1
    dsimp only
    split <;> simp <;> omega

set_option maxHeartbeats 2000000 in
set_option maxRecDepth 100000 in
theorem c_end (p hb ob : Nat) (s : St) (w : World) (h : Spl w p hb ob s) (hby : Bytes s.hold) (hh : s.hold.length ≤ 93) :
    Calls Try.prog 22 #[.pointer (some ⟨p, 0, none⟩)] w (EndPost w p hb ob s.fin8) := by
  have c5 := h.cell 5
  have c6 := h.cell 6
  have c8 := h.cell 8
  have c9 := h.cell 9
  simp only [St.cells, List.getElem?_toArray, List.getElem?_cons_succ, List.getElem?_cons_zero] at c5 c6 c8 c9
  have fz := h.fz
  have hlt := h.lt
  have hcap := (own_cap h.out).1
  cases he : s.ended
  · rw [he] at c9
    by_cases hto : s.told < s.out.length
    · have hto1 : decide (s.told < s.out.length) = true := decT hto
      have hr : s.fin8 = s := by simp [St.fin8, hto]
      have HR := Lib.hid hr
      clear hr hto he
      go_enter Try.func22, Try.ntmps22
      go_wp2
      go_quiet (fail)
      go_wp2
      refine bodyPost_ret (results_none rfl _ _ _) rfl ?_
      rw [HR.out]
      exact ⟨rfl, h.drewN _, (Kp.refl _ _).drewN _⟩
    · have hto1 : decide (s.told < s.out.length) = false := decF hto
      have hS1 : ∀ n, Spl ((((w.drewN n).setCell ⟨p, 9, none⟩ (.bool true)).setCell ⟨p, 5, none⟩ (.slice (some ⟨ob, 0, none⟩) 0 96)).setCell ⟨p, 6, none⟩ (.int .i64 0)) p hb ob s.e1 := fun n => (h.drewN n).unout ((heap_set (heap_set (heap_set (h.drewN n).cells 9 _) 5 _) 6 _).trans rfl) (((kp1 9 _).trans (kp1 5 _)).trans (kp1 6 _)) rfl rfl
      have hkk : ∀ n, Kp [p] w ((((w.drewN n).setCell ⟨p, 9, none⟩ (.bool true)).setCell ⟨p, 5, none⟩ (.slice (some ⟨ob, 0, none⟩) 0 96)).setCell ⟨p, 6, none⟩ (.int .i64 0)) := fun n => by repeat (first | exact Kp.refl _ _ | refine Kp.drewN ?_ _ | refine Kp.setCell ?_ (.inl (by simp)) _)
      cases hov : s.over
      · rw [hov] at c8
        have hr : s.fin8 = if s.e2.opn then { s.e2 with out := s.e2.out ++ [.cl] } else s.e2 := by simp [St.fin8, he, hto, hov]
        have HR := Lib.hid hr
        have hlen := e2_len s hh
        clear hr hto he hov
        go_enter Try.func22, Try.ntmps22
        go_wp2
        go_quiet (fail)
        go_upto_if 41 with (go_at_call 34; go_must (refine (c_delimits p hb ob s.e1 _ (hS1 _) hby).mono ?_); go_must (rintro e w2 ⟨rfl, hk2⟩; have hS2 := (hS1 _).kept hk2 (by simp) (by simp) (by simp); have hkw := (kp3 (hb := hb) (ob := ob) (hkk _)).trans (hk2.mono (fun k hk => by simp at hk))))
        go_cut [] (fun wc => Spl wc p hb ob s.e2 ∧ Kp [p, hb, ob] w wc)
        case first =>
          cases hd : s.e1.delims8
          · have he2 : s.e2 = s.e1.free := by unfold St.e2; rw [if_neg (by rw [hd]; decide)]
            have HE2 := Lib.hid he2
            clear he2 hd
            go_wp2_with (go_at_call 36; go_must (refine (c_free p hb ob s.e1 _ hS2 (by show 0 + s.hold.length ≤ 96; omega)).mono ?_); rintro e w3 ⟨rfl, hS3, hK3⟩)
            go_meet
            case rel => exact ⟨by rw [HE2.out]; exact hS3, hkw.trans hK3⟩
          · have he2 : s.e2 = s.e1.delim := by unfold St.e2; rw [if_pos hd]
            have HE2 := Lib.hid he2
            clear he2 hd
            go_wp2_with (go_at_call 35; go_must (refine (c_delim p hb ob s.e1 _ hS2 (by show 0 + 2 ≤ 96; omega)).mono ?_); rintro e w3 ⟨rfl, hS3, hK3⟩)
            go_meet
            case rel => exact ⟨by rw [HE2.out]; exact hS3, hkw.trans hK3⟩
        case rest =>
          obtain ⟨h2, hk3⟩ := hcut
          have d5 := h2.cell 5
          have d7 := h2.cell 7
          simp only [St.cells, List.getElem?_toArray, List.getElem?_cons_succ, List.getElem?_cons_zero] at d5 d7
          have hlt2 := h2.lt
          cases ho : s.e2.opn
          · rw [ho] at d7
            have hr2 : s.fin8 = s.e2 := by rw [HR.out, if_neg (by rw [ho]; decide)]
            have HR2 := Lib.hid hr2
            clear ho hr2 HR
            go_wp2
            go_end0
            rw [HR2.out]
            exact ⟨rfl, h2, hk3⟩
          · rw [ho] at d7
            have hr2 : s.fin8 = { s.e2 with out := s.e2.out ++ [.cl] } := by rw [HR.out, if_pos ho]
            have HR2 := Lib.hid hr2
            clear ho hr2 HR
            go_wp2_with (at_builtin; go_must (refine wpList_push rfl (.tmp 54) _ (by rfl) .cl rfl h2 (by omega) (by rfl) (by rfl) (by simp) ?_); intro w4 hP; have k5 := hP.cell; have kz := hP.fz)
            go_end0
            rw [HR2.out]
            exact ⟨rfl, hP.spl, hk3.trans hP.kp⟩
      · rw [hov] at c8
        have hr : s.fin8 = s.e1 := by simp [St.fin8, he, hto, hov]
        have HR := Lib.hid hr
        clear hr hto he hov
        go_enter Try.func22, Try.ntmps22
        go_wp2
        go_quiet (fail)
        go_wp2
        refine bodyPost_ret (results_none rfl _ _ _) rfl ?_
        rw [HR.out]
        exact ⟨rfl, hS1 _, kp3 (hkk _)⟩
  · rw [he] at c9
    have hr : s.fin8 = s := by simp [St.fin8, he]
    have HR := Lib.hid hr
    clear hr he
    go_enter Try.func22, Try.ntmps22
    go_wp2
    go_quiet (fail)
    go_wp2
    refine bodyPost_ret (results_none rfl _ _ _) rfl ?_
    rw [HR.out]
    exact ⟨rfl, h.drewN _, (Kp.refl _ _).drewN _⟩
end Go.Proofs.Ytmalacamfjdimaa.Pt
