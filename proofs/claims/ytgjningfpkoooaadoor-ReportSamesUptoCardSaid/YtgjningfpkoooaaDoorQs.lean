/- ReportBack. -/
import Derived.Test.YtgjningfpkoooaaDoorQq
import Derived.Test.YtgjningfpkoooaaDoorQo
namespace Go.Proofs.YtgjningfpkoooaaDoor.Ro
set_option linter.unusedVariables false
set_option linter.unusedSimpArgs false
open Go.RowKit Go.Proofs.YtgjningfpkoooaaDoor.W

theorem flat_mem_len {α : Type} (f : α → List UInt8) : ∀ (l : List α) (a : α), a ∈ l → (f a).length ≤ (l.flatMap f).length
  | b :: l, a, h => by
    rw [List.flatMap_cons, List.length_append]
    rcases List.mem_cons.1 h with rfl | h
    · omega
    · have := flat_mem_len f l a h; omega
theorem flat_count {α : Type} (f : α → List UInt8) (hf : ∀ a, 1 ≤ (f a).length) : ∀ (l : List α), l.length ≤ (l.flatMap f).length
  | [] => by simp
  | b :: l => by
    have h1 := flat_count f hf l
    have h2 := hf b
    rw [List.flatMap_cons, List.length_append, List.length_cons]
    omega
theorem txtP_ge {l : List Int} (h : okP l = true) : l.length ≤ (textP l).length := by
  unfold textP
  rw [if_pos h]
  have h1 := txt_ge (nats l)
  unfold nats at h1 ⊢
  rw [List.length_map] at h1
  exact h1
theorem fit_of {r : Rp} (ho : okR r = true) (hl : (flatR r).length ≤ 1048576) : Fit r := by
  obtain ⟨hs, vs⟩ := r
  simp only [okR, Bool.and_eq_true, List.all_eq_true] at ho
  unfold flatR at hl
  rw [List.length_append] at hl
  dsimp only at hl
  have h1 := flat_count hitL (fun a => by simp [hitL]) hs
  have h2 := flat_count whyL (fun a => by simp [whyL]) vs
  refine ⟨by show hs.length ≤ _; omega, by show vs.length ≤ _; omega, fun a ha => ?_, fun a ha => ?_⟩
  · have h3 := flat_mem_len hitL hs a ha
    have h4 := ho.1 a ha
    simp only [okH, Bool.and_eq_true] at h4
    have h5 := txtP_ge h4.1.2
    have h6 : (textP a.2.1).length ≤ (hitL a).length := by unfold hitL; simp only [List.length_append, List.length_cons, List.length_nil]; omega
    omega
  · have h3 := flat_mem_len whyL vs a ha
    have h4 := ho.2 a ha
    simp only [okV, Bool.and_eq_true] at h4
    have h5 := txtP_ge h4.1
    have h6 : (textP a.1).length ≤ (whyL a).length := by unfold whyL; simp only [List.length_append, List.length_cons, List.length_nil]; omega
    omega
theorem fit_nil : Fit (([], []) : Rp) := ⟨by decide, by decide, fun h hh => by simp at hh, fun h hh => by simp at hh⟩
/-- How much a report holds. -/
def wgt (r : Rp) : Nat := r.1.length + r.2.length + (r.1.map fun h => h.2.1.length).sum + (r.2.map fun v => v.1.length).sum
theorem sum_ge {α : Type} (f : α → Nat) : ∀ (l : List α) (a : α), a ∈ l → f a ≤ (l.map f).sum
  | b :: l, a, h => by
    rw [List.map_cons, List.sum_cons]
    rcases List.mem_cons.1 h with rfl | h
    · omega
    · have := sum_ge f l a h; omega
theorem wgt_fit {r : Rp} (h : wgt r ≤ 1048576) : Fit r := by
  unfold wgt at h
  refine ⟨by omega, by omega, fun a ha => ?_, fun a ha => ?_⟩
  · have := sum_ge (fun h : Ht => h.2.1.length) r.1 a ha
    omega
  · have := sum_ge (fun h : Vd => h.1.length) r.2 a ha
    omega
theorem flat_sum {α : Type} (f : α → List UInt8) (g : α → Nat) : ∀ (l : List α), (∀ a ∈ l, (f a).length ≤ 11 * g a + 40) → (l.flatMap f).length ≤ 11 * (l.map g).sum + 40 * l.length
  | [], _ => by simp
  | b :: l, h => by
    have h1 := flat_sum f g l (fun a ha => h a (List.mem_cons_of_mem _ ha))
    have h2 := h b (by simp)
    rw [List.flatMap_cons, List.length_append, List.length_cons, List.map_cons, List.sum_cons]
    omega
theorem wgt_text {r : Rp} (h : wgt r ≤ 1048576) : (textR r).length ≤ 1000000000 := by
  unfold textR
  split
  · rename_i ho
    simp only [okR, Bool.and_eq_true, List.all_eq_true] at ho
    have h1 := flat_sum hitL (fun h => h.2.1.length) r.1 (fun a ha => hitL_len (ho.1 a ha))
    have h2 := flat_sum whyL (fun h => h.1.length) r.2 (fun a ha => whyL_len (ho.2 a ha))
    unfold wgt at h
    unfold flatR
    rw [List.length_append]
    omega
  · simp
theorem parseR_nil : parseR [] = some ([], []) := by unfold parseR; exact lines_end _
theorem str_beq (S : ByteArray) : (S.toList == S.toList) = true := beq_self_eq_true _
set_option maxHeartbeats 8000000 in
set_option maxRecDepth 100000 in
theorem c_repback (A : Option Addr) (n c : Nat) (A2 : Option Addr) (m c2 : Nat) (r : Rp) (s : ByteArray) (w : World) (hG : Gw w) (h : RepAt w 0 A n c A2 m c2 r) (hu : wgt r ≤ 1048576) (hs : s.size ≤ 1048576) :
    Calls Tryd.prog 10 #[.agg #[.slice A n c, .slice A2 m c2], .string s] w (TrueP w) := by
  have hf := wgt_fit hu
  have ht := wgt_text hu
  obtain ⟨w1, hw1⟩ : ∃ w1, w.alloc (.cells #[.slice A n c, .slice A2 m c2] 36) = w1 := ⟨_, rfl⟩
  obtain ⟨q1, q2, q3⟩ := new_cells hw1
  have HW1 := Lib.hid q1
  obtain ⟨p, hp⟩ : ∃ p, w.heap.size = p := ⟨_, rfl⟩
  rw [hp] at q2 q3
  have HB := Lib.hid q3
  have hn : n ≤ 1048576 ∧ m ≤ 1048576 := ⟨by have := h.1; have := hf.1; omega, by have := h.2.2.1; have := hf.2.1; omega⟩
  have HF := Lib.hid hf
  have HR := Lib.hid (h.below HW1.out)
  have HG := Lib.hid (hG.below HW1.out hG.sz)
  obtain ⟨a0, a1⟩ := two_cells (HB.out w1 (Below.refl _ _))
  obtain ⟨X, hX⟩ : ∃ X : ByteArray, (⟨(textR r).toArray⟩ : ByteArray) = X := ⟨_, rfl⟩
  have HXD := Lib.hid (show X.data.toList = textR r by rw [← hX])
  have HXS := Lib.hid (show X.size ≤ 1000000000 by rw [← hX, size_str]; exact ht)
  obtain ⟨OK, hOK⟩ : ∃ b, okR r = b := ⟨_, rfl⟩
  have HOK := Lib.hid hOK
  have TX := Lib.hid (show ∀ (wa : World) e wb, TextRIs wa r e wb → e = .returned (.tuple #[.string X, .bool OK]) ∧ Below wa.heap.size wa wb from fun wa e wb h => by unfold TextRIs at h; rw [hX, hOK] at h; exact h)
  have HAL := Lib.hid (show ∀ wx, Below w1.heap.size w1 wx → wx.cell? ⟨p, 0, none⟩ = some (.slice A n c) ∧ wx.cell? ⟨p, 1, none⟩ = some (.slice A2 m c2) ∧ RepAt wx 0 A n c A2 m c2 r ∧ Gw wx from fun wx hx => ⟨(two_cells (HB.out wx hx)).1, (two_cells (HB.out wx hx)).2, HR.out.below hx, HG.out.below hx HG.out.sz⟩)
  have C1 := Lib.hid (c_rtext A n c A2 m c2 r w1 HR.out HF.out HG.out)
  -- the second half
  have REST := Lib.hid (show ∀ wx, Below w1.heap.size w1 wx → Calls Tryd.prog 28 #[.string s] wx (ParseRIs wx s.data.toList) from fun wx hx => c_rparse s wx (by omega) (HAL.out wx hx).2.2.2)
  obtain ⟨PV, hPV⟩ : ∃ v, parseR s.data.toList = v := ⟨_, rfl⟩
  obtain ⟨PR, hPR⟩ : ∃ v, PV.getD ([], []) = v := ⟨_, rfl⟩
  obtain ⟨PB, hPB⟩ : ∃ v, PV.isSome = v := ⟨_, rfl⟩
  have PX := Lib.hid (show ∀ (wa : World) e wb, ParseRIs wa s.data.toList e wb → ∃ A n c A2 m c2, e = .returned (.tuple #[.agg #[.slice A n c, .slice A2 m c2], .bool PB]) ∧ Below wa.heap.size wa wb ∧ RepV wb wa.heap.size A n c A2 m c2 PR from fun wa e wb h => by unfold ParseRIs at h; rw [hPV, hPR, hPB] at h; exact h)
  have HPF := Lib.hid (show Fit PR ∧ okR PR = true ∧ (PB = true → (⟨(textR PR).toArray⟩ : ByteArray) = s) from by
    cases hv : parseR s.data.toList with
    | none =>
      rw [hv] at hPV
      subst hPV
      subst hPR
      subst hPB
      exact ⟨fit_nil, rfl, fun h => by cases h⟩
    | some v =>
      rw [hv] at hPV
      subst hPV
      subst hPR
      subst hPB
      obtain ⟨h1, h2⟩ := parse_inv hv
      obtain ⟨h3, h4⟩ := textR_of hv
      refine ⟨fit_of h1 ?_, h1, fun _ => ?_⟩
      · show (flatR v).length ≤ _
        rw [← h2, ← Lib.size_eq]
        exact hs
      · show (⟨(textR v).toArray⟩ : ByteArray) = s
        rw [h4])
  obtain ⟨Y, hY⟩ : ∃ Y : ByteArray, (⟨(textR PR).toArray⟩ : ByteArray) = Y := ⟨_, rfl⟩
  have TY := Lib.hid (show ∀ (wa : World) e wb, TextRIs wa PR e wb → e = .returned (.tuple #[.string Y, .bool true]) ∧ Below wa.heap.size wa wb from fun wa e wb h => by unfold TextRIs at h; rw [hY, HPF.out.2.1] at h; exact h)
  have HYS := Lib.hid (show PB = true → Y = s from fun h => by rw [← hY]; exact HPF.out.2.2 h)
  clear q1 q2 q3 h hG hf hX hOK ht hu hs hPV hPR hPB hY
  have hcs : PB = false ∨ (PB = true ∧ (Y.toList == s.toList) = true) := by
    cases PB with
    | false => exact .inl rfl
    | true => exact .inr ⟨rfl, by rw [HYS.out rfl]; exact str_beq s⟩
  have C3 := Lib.hid (fun (wx : World) (hx : Below w1.heap.size w1 wx) => c_rparse X wx HXS.out (HAL.out wx hx).2.2.2)
  rw [HXD.out] at C3
  cases OK with
  | true =>
    have HPP := Lib.hid (parse_textR HOK.out)
    go_enter Tryd.func10, Tryd.ntmps10
    go_upto_region 3 with (first
      | (go_at_call 24; go_must (refine C1.out.mono ?_); intro e w2 he; obtain ⟨rfl, hb⟩ := TX.out _ _ _ he; have HB2 := Lib.hid hb; clear hb he)
      | (go_at_call 28; go_must (refine (C3.out w2 HB2.out).mono ?_); rintro e w3 ⟨Aq, nq, cq, Aq2, mq, cq2, he, hb, hr⟩; rw [HPP.out] at he hr; subst he; have HB3 := Lib.hid (HB2.out.trans (hb.mono HB2.out.size)); have HR3 := Lib.hid (RepAt.base hr.read (Nat.zero_le _)); clear hb hr))
    clear hp hw1
    obtain ⟨w4, hw4⟩ : ∃ w4, w3.alloc (.cells #[.slice Aq nq cq, .slice Aq2 mq cq2] 36) = w4 := ⟨_, rfl⟩
    obtain ⟨q1, q2, q3⟩ := new_cells hw4
    obtain ⟨b0, b1⟩ := two_cells (q3 w4 (Below.refl _ _))
    have HB4 := Lib.hid (HB3.out.trans (q1.mono HB3.out.size))
    obtain ⟨c0, c1, hr4, _⟩ := HAL.out w4 HB4.out
    have hq4 := HR3.out.below q1
    have hnc : nq = n := by have h1 := hq4.1; have h2 := hr4.1; dsimp only [Option.getD] at h1; omega
    have hmc : mq = m := by have h1 := hq4.2.2.1; have h2 := hr4.2.2.1; dsimp only [Option.getD] at h1; omega
    have C4 := Lib.hid (r_same Aq nq cq Aq2 mq cq2 r A n c A2 m c2 r w4 hq4 hr4 (by omega) (by omega) (by omega) (by omega))
    rw [same_self] at C4
    clear q1 q2 q3 hr4 hq4 hnc hmc
    go_upto_region 5 with (first
      | (go_at_call 26; go_must (refine C4.out.mono ?_); rintro e w5 ⟨rfl, hb⟩; have HB5 := Lib.hid (HB4.out.trans (hb.mono HB4.out.size)); clear hb))
    clear hw4 C4 C3
    have C5 := Lib.hid (REST.out w5 HB5.out)
    go_upto_region 6 with (first
      | (go_at_call 28; go_must (refine C5.out.mono ?_); intro e w6 he; obtain ⟨Ap, np, cp, Ap2, mp, cp2, rfl, hb, hr⟩ := PX.out _ _ _ he; have HB6 := Lib.hid (HB5.out.trans (hb.mono HB5.out.size)); have HR6 := Lib.hid (RepAt.base hr.read (Nat.zero_le _)); clear hb hr he))
    obtain ⟨w7, hw7⟩ : ∃ w7, w6.alloc (.cells #[.slice Ap np cp, .slice Ap2 mp cp2] 36) = w7 := ⟨_, rfl⟩
    obtain ⟨q1, q2, q3⟩ := new_cells hw7
    obtain ⟨d0, d1⟩ := two_cells (q3 w7 (Below.refl _ _))
    have HB7 := Lib.hid (HB6.out.trans (q1.mono HB6.out.size))
    have C7 := Lib.hid (c_rtext _ _ _ _ _ _ PR w7 (HR6.out.below q1) HPF.out.1 (HAL.out w7 HB7.out).2.2.2)
    clear q1 q2 q3 C5
    go_upto_region 7 with (first
      | (go_at_call 24; go_must (refine C7.out.mono ?_); intro e w8 he; obtain ⟨rfl, hb⟩ := TY.out _ _ _ he; have HB8 := Lib.hid (HB7.out.trans (hb.mono HB7.out.size)); clear hb he))
    have C8 := Lib.hid (c_awaker w8 (HAL.out w8 HB8.out).2.2.2)
    rcases hcs with rfl | ⟨rfl, hys⟩
    all_goals go_wp2_with (first
      | (go_at_call 27; go_must (refine C8.out.mono ?_); rintro e w9 ⟨rfl, hb⟩; have HB9 := Lib.hid (HB8.out.trans (hb.mono HB8.out.size)); clear hb))
    all_goals go_ret
    all_goals exact ⟨rfl, HW1.out.trans (HB9.out.mono HW1.out.size)⟩
  | false =>
    have HT0 := Lib.hid (show textR r = [] by unfold textR; rw [HOK.out]; rfl)
    rw [HT0.out] at C3
    have hx0 : (X.toList == []) = true := by rw [ByteArray.toList_eq, HXD.out, HT0.out]; rfl
    go_enter Tryd.func10, Tryd.ntmps10
    go_upto_region 5 with (first
      | (go_at_call 24; go_must (refine C1.out.mono ?_); intro e w2 he; obtain ⟨rfl, hb⟩ := TX.out _ _ _ he; have HB2 := Lib.hid hb; clear hb he)
      | (go_at_call 28; go_must (refine (C3.out w2 HB2.out).mono ?_); rintro e w3 ⟨Aq, nq, cq, Aq2, mq, cq2, he, hb, hr⟩; rw [parseR_nil] at he; subst he; have HB3 := Lib.hid (HB2.out.trans (hb.mono HB2.out.size)); have HB4 := Lib.hid (HB3.out.trans ((al_bel w3 (.cells #[.slice Aq nq cq, .slice Aq2 mq cq2] 36)).mono HB3.out.size)); clear hb hr))
    generalize w3.alloc (.cells #[.slice Aq nq cq, .slice Aq2 mq cq2] 36) = w5 at *
    have HB5 := HB4
    clear C3 hp hw1
    have C5 := Lib.hid (REST.out w5 HB5.out)
    go_upto_region 6 with (first
      | (go_at_call 28; go_must (refine C5.out.mono ?_); intro e w6 he; obtain ⟨Ap, np, cp, Ap2, mp, cp2, rfl, hb, hr⟩ := PX.out _ _ _ he; have HB6 := Lib.hid (HB5.out.trans (hb.mono HB5.out.size)); have HR6 := Lib.hid (RepAt.base hr.read (Nat.zero_le _)); clear hb hr he))
    obtain ⟨w7, hw7⟩ : ∃ w7, w6.alloc (.cells #[.slice Ap np cp, .slice Ap2 mp cp2] 36) = w7 := ⟨_, rfl⟩
    obtain ⟨q1, q2, q3⟩ := new_cells hw7
    obtain ⟨d0, d1⟩ := two_cells (q3 w7 (Below.refl _ _))
    have HB7 := Lib.hid (HB6.out.trans (q1.mono HB6.out.size))
    have C7 := Lib.hid (c_rtext _ _ _ _ _ _ PR w7 (HR6.out.below q1) HPF.out.1 (HAL.out w7 HB7.out).2.2.2)
    clear q1 q2 q3 C5
    go_upto_region 7 with (first
      | (go_at_call 24; go_must (refine C7.out.mono ?_); intro e w8 he; obtain ⟨rfl, hb⟩ := TY.out _ _ _ he; have HB8 := Lib.hid (HB7.out.trans (hb.mono HB7.out.size)); clear hb he))
    have C8 := Lib.hid (c_awaker w8 (HAL.out w8 HB8.out).2.2.2)
    rcases hcs with rfl | ⟨rfl, hys⟩
    all_goals go_wp2_with (first
      | (go_at_call 27; go_must (refine C8.out.mono ?_); rintro e w9 ⟨rfl, hb⟩; have HB9 := Lib.hid (HB8.out.trans (hb.mono HB8.out.size)); clear hb))
    all_goals go_ret
    all_goals exact ⟨rfl, HW1.out.trans (HB9.out.mono HW1.out.size)⟩
end Go.Proofs.YtgjningfpkoooaaDoor.Ro
