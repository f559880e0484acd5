/- What a beginning of parts that were written is cut into (plain). -/
import Derived.Test.YtmalacamfjdimaaBc
namespace Go.Proofs.Ytmalacamfjdimaa.Pt
open Go.RowKit Go.Proofs.Ytmalacamfjdimaa.W

section
variable {W : ByteArray}
theorem m0_fds (W : ByteArray) (B : List Int) : m0 W B B.length = (fds (St.new W) B).1 ∧ (stAt W B B.length).2 = ((fds (St.new W) B).2).foldl addEv [] := by
  obtain ⟨h1, h2, _, _⟩ := fold_fds B (St.new W, []) rfl rfl
  have e : stAt W B B.length = runB W B := by unfold stAt; rw [if_pos (Nat.le_refl _), List.take_length]
  unfold m0
  rw [e]
  exact ⟨h1, h2⟩
theorem fm_two {s : St} (hi : Inv s) : (s.fm []).1 = 2 ↔ (s.step = .behind ∨ s.step = .blanks) := by
  unfold St.fm
  cases hst : s.step
  · simp
  · simp [lkN]
  · have h1 := hi.step
    rw [hst] at h1
    obtain ⟨x, r, hx⟩ : ∃ x r, (strL s.want).drop s.at_ = x :: r := by
      cases hd : (strL s.want).drop s.at_ with
      | nil =>
        have := congrArg List.length hd
        rw [List.length_drop, strL_length] at this
        simp at this
        omega
      | cons x r => exact ⟨x, r, rfl⟩
    simp [hx, lkW]
  · simp [lkD, lkB]
  · simp
  · simp [lkB]
  · simp
theorem whole_two (W : ByteArray) (B : List Int) : (whole W B).2 = (nxt W B B.length).out.foldl addEv (stAt W B B.length).2 := by
  have e : whole W B = stAt W B (B.length + 1) := by rw [stAt, if_neg (by omega)]
  rw [e, stAt_succ (Nat.le_refl _)]
theorem res_over (hW : Wk W) {B : List Int} (hB : Bytes B) {s : St} {ev : List Ev} (hf : fds (St.new W) B = (s, ev)) (hov : s.over = true) : (whole W B).2 = ev.foldl addEv [] ∧ (whole W B).1.reason = 0 := by
  obtain ⟨h1, h2⟩ := m0_fds W B
  rw [hf] at h1 h2
  dsimp only at h1 h2
  have hM := Ms.all hW.pos hW.le hB B.length (Nat.le_refl _)
  have hov1 : (stAt W B B.length).1.over = true := by
    have : (m0 W B B.length).over = true := by rw [h1]; exact hov
    exact this
  have hn : nxt W B B.length = (stAt W B B.length).1.e1 := by
    unfold nxt
    rw [List.getElem?_eq_none (Nat.le_refl _)]
    show (stAt W B B.length).1.fin8 = _
    unfold St.fin8
    rw [if_neg (by rw [hM.ended, hM.told]; simp), if_pos hov1]
  refine ⟨?_, ?_⟩
  · rw [whole_two, hn, h2]; rfl
  · rw [whole_reason hW.pos hW.le hB, whole_over, hn, if_pos (by exact hov1)]
theorem res_delim (hW : Wk W) {B : List Int} (hB : Bytes B) {s : St} {ev : List Ev} (hf : fds (St.new W) B = (s, ev)) (hov : s.over = false) (hst : s.step = .behind ∨ s.step = .blanks) :
    (whole W B).2 = (if s.last then ev.foldl addEv [] else ev.foldl addEv [] ++ [[]]) ∧ (whole W B).1.reason = if s.last then 0 else 33 := by
  obtain ⟨h1, h2⟩ := m0_fds W B
  rw [hf] at h1 h2
  dsimp only at h1 h2
  have hM := Ms.all hW.pos hW.le hB B.length (Nat.le_refl _)
  have hok := hM.ok
  have hd := (delims_fm hok.inv hok.li hok.hc (by rw [hok.want]; exact hW.hd)).1
  rw [decT ((fm_two hok.inv).2 (by rw [h1]; exact hst))] at hd
  have hn := nxt_end hM (by rw [h1]; exact hov) hd
  have hla : (stAt W B B.length).1.last = s.last := by rw [← h1]; rfl
  rw [if_pos rfl] at hn
  refine ⟨?_, ?_⟩
  · rw [whole_two, hn, h2]
    simp only [St.delim, St.fresh, St.e1, hla]
    cases s.last <;> cases (stAt W B B.length).1.opn <;> simp [addEv]
  · rw [whole_reason hW.pos hW.le hB, whole_over, hn]
    simp only [St.delim, St.fresh, St.e1, hla]
    cases s.last <;> rfl
theorem res_free (hW : Wk W) {B : List Int} (hB : Bytes B) {s : St} {ev : List Ev} (hf : fds (St.new W) B = (s, ev)) (hov : s.over = false) (hst : s.step ≠ .behind ∧ s.step ≠ .blanks) :
    (whole W B).2 = (if s.opn then (s.hold.map Ev.by_).foldl addEv (ev.foldl addEv []) else ev.foldl addEv []) ∧ (whole W B).1.reason = 33 := by
  obtain ⟨h1, h2⟩ := m0_fds W B
  rw [hf] at h1 h2
  dsimp only at h1 h2
  have hM := Ms.all hW.pos hW.le hB B.length (Nat.le_refl _)
  have hok := hM.ok
  have hd := (delims_fm hok.inv hok.li hok.hc (by rw [hok.want]; exact hW.hd)).1
  rw [decF (fun e => by
    have := (fm_two hok.inv).1 e
    rw [h1] at this
    rcases this with h | h
    · exact hst.1 h
    · exact hst.2 h)] at hd
  have hn := nxt_end hM (by rw [h1]; exact hov) hd
  have hho : (stAt W B B.length).1.hold = s.hold := by rw [← h1]; rfl
  have hop : (stAt W B B.length).1.opn = s.opn := by rw [← h1]; rfl
  have hov2 : (stAt W B B.length).1.over = false := by have := congrArg St.over h1; rw [hov] at this; exact this
  simp only [Bool.false_eq_true, if_false] at hn
  refine ⟨?_, ?_⟩
  · have hfo : (stAt W B B.length).1.e1.free.out = if s.opn then s.hold.map Ev.by_ else [] := by
      show (if (stAt W B B.length).1.opn then [] ++ (stAt W B B.length).1.hold.map Ev.by_ else []) = _
      rw [hop, hho]
      simp
    rw [whole_two, h2, hn]
    cases hso : s.opn with
    | true =>
      rw [hso] at hfo hop
      rw [if_pos (show (stAt W B B.length).1.e1.free.opn = true from hop)]
      show List.foldl addEv (List.foldl addEv [] ev) ((stAt W B B.length).1.e1.free.out ++ [Ev.cl]) = _
      rw [hfo, List.foldl_append]
      simp [addEv]
    | false =>
      rw [hso] at hfo hop
      rw [if_neg (show ¬ (stAt W B B.length).1.e1.free.opn = true by rw [show (stAt W B B.length).1.e1.free.opn = (stAt W B B.length).1.opn from rfl, hop]; simp), hfo]
      simp
  · have ho : (nxt W B B.length).over = false := by
      rw [hn]
      show (if (stAt W B B.length).1.e1.free.opn = true then _ else _ : St).over = false
      split
      · exact hov2
      · exact hov2
    rw [whole_reason hW.pos hW.le hB, whole_over, ho]
    rfl

/-- What a beginning comes to: z is what is there of the part that was begun. -/
inductive Cutt (ps : List (List Int)) (ls : List (List Int)) (y : List Int) (k : Nat) (off : Nat → Nat) (r : List (List Int)) (why : Int) : Prop
  | begun (i : Nat) (hi : i < ls.length) (ho : off i ≤ k) (hr : r = ps ++ ls.take i ++ [(y.take k).drop (off i)]) (hw : why = 33) (hk : k + 2 ≠ y.length)
  | new (i : Nat) (hi : i ≤ ls.length) (hr : r = ps ++ ls.take i ++ [[]]) (hw : why = 33) (hk : k + 2 ≠ y.length)
  | all (hr : r = ps ++ ls) (hw : why = 0) (hk : k + 2 = y.length)
def offT (n : Nat) : List (List Int) → Nat → Nat
  | _, 0 => 0
  | [], _ + 1 => 0
  | p :: rest, i + 1 => p.length + 4 + n + offT n rest i
theorem infix_no {p q : List Int} {k : Nat} (h : ¬ q <:+: p) {sd c : List Int} (hx : p.take k = sd ++ (c ++ q)) : False := by
  refine h ?_
  have h1 : q <:+: p.take k := ⟨sd ++ c, [], by rw [hx]; simp⟩
  exact h1.trans (List.take_prefix k p).isInfix
/-- A part's beginning, cut off. -/
theorem cut_in (hW : Wk W) {B0 p : List Int} {ev0 : List Ev} {ps : List (List Int)} (hf : fds (St.new W) B0 = (Fr W true, ev0)) (hev : ev0.foldl addEv [] = ps ++ [[]]) (hno : hasW (strL W) p = false) (hin : ¬ strL W <:+: p) {k : Nat} (hk : k ≤ p.length) (hB : Bytes (B0 ++ p.take k)) :
    (whole W (B0 ++ p.take k)).2 = ps ++ [p.take k] ∧ (whole W (B0 ++ p.take k)).1.reason = 33 := by
  have hs := part_sx hW true hno k hk
  have hff : fds (St.new W) (B0 ++ p.take k) = ((fds (Fr W true) (p.take k)).1, ev0 ++ (fds (Fr W true) (p.take k)).2) := by rw [fds_append, hf]
  obtain ⟨hw, ho, hv, he, hout, htold, sd, hx, hevs, hcase⟩ := hs
  have hst : (fds (Fr W true) (p.take k)).1.step ≠ .behind ∧ (fds (Fr W true) (p.take k)).1.step ≠ .blanks := by
    rcases hcase with ⟨e, _⟩ | ⟨e, _⟩ | ⟨q, c, _, hh, _, hc⟩
    · rw [e]; simp
    · rw [e]; simp
    · rw [hh] at hx
      refine ⟨fun e => ?_, fun e => ?_⟩
      · rw [e] at hc
        generalize (fds (Fr W true) (p.take k)).1.at_ = at_ at hc
        generalize (fds (Fr W true) (p.take k)).1.last = la at hc
        cases hc
        exact infix_no hin hx
      · rw [e] at hc
        generalize (fds (Fr W true) (p.take k)).1.at_ = at_ at hc
        generalize (fds (Fr W true) (p.take k)).1.last = la at hc
        cases hc with
        | blanks bl d _ _ =>
          refine hin ?_
          have h1 : strL W <:+: p.take k := ⟨sd ++ q, (if la then [45, 45] else []) ++ bl, by rw [hx]; simp⟩
          exact h1.trans (List.take_prefix k p).isInfix
  have hr := res_free hW hB hff hv hst
  rw [ho] at hr
  refine ⟨?_, hr.2⟩
  rw [hr.1]
  simp only [if_true]
  rw [hevs, List.foldl_append, hev]
  simp only [if_true]
  rw [by_fold, by_fold, List.nil_append, ← hx]
/-- Said all that is held. -/
theorem cut_said (hW : Wk W) {B z : List Int} {s : St} {ev : List Ev} {ps : List (List Int)} {a : List Int} (hB : Bytes B) (hf : fds (St.new W) B = (s, ev)) (hov : s.over = false) (hop : s.opn = true) (hst : s.step ≠ .behind ∧ s.step ≠ .blanks) (hev : ev.foldl addEv [] = ps ++ [a]) (hz : a ++ s.hold = z) :
    (whole W B).2 = ps ++ [z] ∧ (whole W B).1.reason = 33 := by
  have hr := res_free hW hB hf hov hst
  rw [hop] at hr
  refine ⟨?_, hr.2⟩
  rw [hr.1, hev]
  simp only [if_true]
  rw [by_fold, hz]
end
end Go.Proofs.Ytmalacamfjdimaa.Pt
