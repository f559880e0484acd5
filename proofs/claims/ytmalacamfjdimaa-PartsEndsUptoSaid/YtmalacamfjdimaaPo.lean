/- The splitter run over a whole body, as a plain machine: what stays true of its states. -/
import Derived.Test.YtmalacamfjdimaaPh
namespace Go.Proofs.Ytmalacamfjdimaa.Pt
open Go.RowKit Go.Proofs.Ytmalacamfjdimaa.W

def addEv (ps : List (List Int)) : Ev → List (List Int)
  | .op => ps ++ [[]]
  | .by_ b => ps.set (ps.length - 1) (ps.getD (ps.length - 1) [] ++ [b])
  | .cl => ps
theorem addEv_ne {ps : List (List Int)} {e : Ev} (h : ps ≠ []) : addEv ps e ≠ [] := by
  cases e <;> simp [addEv, h]
def St.drain (s : St) : St := { s with told := s.out.length }

/-- What holds between two bytes. -/
structure Inv (s : St) : Prop where
  want0 : 0 < s.want.size
  want : s.want.size ≤ 72
  at_ : s.at_ ≤ 72
  by_ : Bytes s.hold
  step : match s.step with
    | .none => s.hold.length = 0
    | .feed => s.hold.length ≤ 1
    | .border => s.at_ < s.want.size ∧ s.hold.length ≤ 2 + s.at_
    | .behind => s.at_ = 0 ∧ s.hold.length ≤ 2 + s.want.size
    | .dash => s.at_ = 0 ∧ s.hold.length ≤ 3 + s.want.size
    | .blanks => s.at_ ≤ 16 ∧ s.hold.length ≤ 4 + s.want.size + s.at_
    | .close => s.hold.length ≤ 5 + s.want.size + 16

theorem Inv.ok {s : St} (h : Inv s) : s.Ok := by
  obtain ⟨w0, w1, h2, _, h4⟩ := h
  refine ⟨w1, h2, fun hs => ?_, ?_⟩
  · rw [hs] at h4; exact h4.1
  · cases hs : s.step <;> rw [hs] at h4 <;> dsimp only at h4 <;> omega

theorem Inv.new {W : ByteArray} (h0 : 0 < W.size) (h : W.size ≤ 72) : Inv (St.new W) := ⟨h0, h, Nat.zero_le _, (fun x hx => by cases hx), h0, Nat.zero_le _⟩

theorem Inv.delim {s : St} (h0 : 0 < s.want.size) (h : s.want.size ≤ 72) : Inv s.delim := ⟨h0, h, Nat.zero_le _, (fun x hx => by cases hx), h0, Nat.zero_le _⟩
theorem Inv.free {s : St} (h0 : 0 < s.want.size) (h : s.want.size ≤ 72) (ha : s.at_ ≤ 72) : Inv s.free := ⟨h0, h, ha, (fun x hx => by cases hx), rfl⟩
theorem Inv.say {s : St} (h : Inv s) (b : Int) : Inv (s.say b) := by
  unfold St.say
  split
  · exact ⟨h.want0, h.want, h.at_, h.by_, h.step⟩
  · exact h
theorem bytes_snoc {l : List Int} {b : Int} (h : Bytes l) (hb : 0 ≤ b ∧ b < 256) : Bytes (l ++ [b]) := fun x hx => by
  rcases List.mem_append.1 hx with h1 | h1
  · exact h x h1
  · simp at h1; subst h1; exact hb
theorem Inv.tail {s : St} (h : Inv s) (hs : s.hold = []) {b : Int} (hb : 0 ≤ b ∧ b < 256) : Inv (s.tail b) := by
  unfold St.tail
  split
  · exact ⟨h.want0, h.want, h.at_, by rw [hs]; exact bytes_snoc (fun x hx => by cases hx) hb, by simp [hs]⟩
  · split
    · exact ⟨h.want0, h.want, Nat.zero_le _, by simp only [St.rst]; rw [hs]; exact bytes_snoc (fun x hx => by cases hx) hb, by simp [St.rst, hs]; exact h.want0⟩
    · exact h.say b

def RunOk (b : Int) : Verd → St → Prop
  | .goes, s' => Inv { s' with hold := s'.hold ++ [b] }
  | .whole, s' => Inv s'.delim
  | .wrong, s' => Inv s'.free
theorem Inv.blanks {s : St} {b : Int} (hb : 0 ≤ b ∧ b < 256) (h0 : 0 < s.want.size) (h1 : s.want.size ≤ 72) (h2 : s.at_ ≤ 16) (h3 : s.hold.length ≤ 4 + s.want.size + s.at_) (h4 : Bytes s.hold) (hs : s.step = .blanks) {v : Verd} {s' : St} (hr : s.rBlanks b = (v, s')) : RunOk b v s' := by
  unfold St.rBlanks at hr
  unfold RunOk
  split at hr
  · injection hr with e1 e2; subst e1 e2; exact Inv.delim h0 h1
  · split at hr
    · injection hr with e1 e2; subst e1 e2; exact ⟨h0, h1, by show s.at_ ≤ 72; omega, bytes_snoc h4 hb, by simp; omega⟩
    · split at hr
      · rename_i h16
        injection hr with e1 e2; subst e1 e2
        exact ⟨h0, h1, by show s.at_ + 1 ≤ 72; omega, bytes_snoc h4 hb, by simp [hs]; omega⟩
      · injection hr with e1 e2; subst e1 e2; exact Inv.free h0 h1 (by omega)

theorem Inv.run {s : St} (h : Inv s) {b : Int} (hb : 0 ≤ b ∧ b < 256) (hs : s.step ≠ .none) {v : Verd} {s' : St} (hr : s.run b = (v, s')) : RunOk b v s' := by
  obtain ⟨h0, h1, h2, h3, h4⟩ := h
  unfold St.run at hr
  cases hst : s.step with
  | none => exact absurd hst hs
  | feed =>
    rw [hst] at hr h4
    dsimp only at hr h4
    split at hr
    · injection hr with e1 e2; subst e1 e2
      exact ⟨h0, h1, Nat.zero_le _, bytes_snoc h3 hb, by simp [St.rst]; exact ⟨h0, by omega⟩⟩
    · injection hr with e1 e2; subst e1 e2
      exact Inv.free h0 h1 (Nat.zero_le _)
  | border =>
    rw [hst] at hr h4
    dsimp only at hr h4
    unfold St.rBorder at hr
    split at hr
    · injection hr with e1 e2; subst e1 e2
      show Inv _
      split
      · exact ⟨h0, h1, Nat.zero_le _, bytes_snoc h3 hb, by simp; omega⟩
      · exact ⟨h0, h1, by show s.at_ + 1 ≤ 72; omega, bytes_snoc h3 hb, by simp [hst]; omega⟩
    · injection hr with e1 e2; subst e1 e2
      exact Inv.free h0 h1 h2
  | behind =>
    rw [hst] at hr h4
    dsimp only at hr h4
    split at hr
    · injection hr with e1 e2; subst e1 e2
      exact ⟨h0, h1, h2, bytes_snoc h3 hb, by simp; omega⟩
    · exact Inv.blanks (s := { s with step := .blanks }) hb h0 h1 (by show s.at_ ≤ 16; omega) (by show s.hold.length ≤ 4 + s.want.size + s.at_; omega) h3 rfl hr
  | dash =>
    rw [hst] at hr h4
    dsimp only at hr h4
    split at hr
    · injection hr with e1 e2; subst e1 e2
      exact ⟨h0, h1, h2, bytes_snoc h3 hb, by simp; omega⟩
    · injection hr with e1 e2; subst e1 e2
      exact Inv.free h0 h1 h2
  | blanks =>
    rw [hst] at hr h4
    dsimp only at hr h4
    exact Inv.blanks hb h0 h1 h4.1 h4.2 h3 hst hr
  | close =>
    rw [hst] at hr h4
    dsimp only at hr h4
    split at hr
    · injection hr with e1 e2; subst e1 e2; exact Inv.delim h0 h1
    · injection hr with e1 e2; subst e1 e2; exact Inv.free h0 h1 h2

theorem Inv.take {s : St} (h : Inv s) {b : Int} (hb : 0 ≤ b ∧ b < 256) : Inv (s.take b) := by
  by_cases hs : s.step = .none
  · rw [take_none hs]
    have h4 := h.step
    rw [hs] at h4
    exact h.tail (List.eq_nil_of_length_eq_zero h4) hb
  · rw [take_some hs]
    obtain ⟨v, s', hr⟩ : ∃ v s', s.run b = (v, s') := ⟨_, _, rfl⟩
    have := h.run hb hs hr
    rw [hr]
    cases v
    · exact Inv.tail this rfl hb
    · exact this
    · exact this
theorem Inv.reset {s : St} (h : Inv s) : Inv { s with out := [], told := 0 } := ⟨h.want0, h.want, h.at_, h.by_, h.step⟩
theorem Inv.put {s : St} (h : Inv s) {b : Int} (hb : 0 ≤ b ∧ b < 256) : Inv (s.put b).2 := by
  unfold St.put
  split
  · exact h
  · split
    · exact h.reset
    · exact h.reset.take hb
theorem Inv.drain {s : St} (h : Inv s) : Inv s.drain := ⟨h.want0, h.want, h.at_, h.by_, h.step⟩

/-! ### a byte is told of an open part alone -/
theorem say_out (s : St) (b : Int) : (s.say b).out = s.out ∨ s.opn = true := by
  unfold St.say
  cases s.opn
  · exact .inl rfl
  · exact .inr rfl
theorem free_out (s : St) : s.free.out = s.out ∨ s.opn = true := by
  unfold St.free
  cases s.opn
  · exact .inl rfl
  · exact .inr rfl
theorem run_opn (s : St) (b : Int) : (s.run b).2.opn = s.opn := by
  unfold St.run
  split
  · rfl
  · rfl
  · unfold St.rBorder
    split
    · dsimp only
      split <;> rfl
    · rfl
  · split
    · rfl
    · unfold St.rBlanks
      repeat' split
      all_goals rfl
  · rfl
  · unfold St.rBlanks
    repeat' split
    all_goals rfl
  · rfl
def noBy (l : List Ev) : Prop := ∀ b, Ev.by_ b ∉ l
theorem delim_noBy {s : St} (h : s.out = []) : noBy s.delim.out := by
  rw [delim_eq]
  intro b hb
  simp only [St.fresh, St.d2, St.d1, h] at hb
  cases s.opn <;> cases s.last <;> simp at hb
theorem tail_out (s : St) (b : Int) : (s.tail b).out = s.out ∨ s.opn = true := by
  unfold St.tail
  split
  · exact .inl rfl
  · split
    · exact .inl rfl
    · exact say_out s b
theorem take_by {s : St} {b : Int} (h : s.out = []) : noBy (s.take b).out ∨ s.opn = true := by
  have nil : noBy [] := fun b hb => by cases hb
  by_cases hs : s.step = .none
  · rw [take_none hs]
    rcases tail_out s b with h1 | h1
    · left; rw [h1, h]; exact nil
    · exact .inr h1
  · rw [take_some hs]
    have ho := run_opn s b
    have hh := run_hold s b
    obtain ⟨v, s', hr⟩ : ∃ v s', s.run b = (v, s') := ⟨_, _, rfl⟩
    rw [hr] at ho hh ⊢
    dsimp only at ho hh
    cases v
    · rcases tail_out s'.free b with h1 | h1
      · rcases free_out s' with h2 | h2
        · left; dsimp only; rw [h1, h2, hh.2, h]; exact nil
        · right; rw [← ho]; exact h2
      · right; rw [← ho]; exact h1
    · left; dsimp only; rw [hh.2, h]; exact nil
    · left; exact delim_noBy (by rw [hh.2, h])
theorem fin_by {s : St} : noBy s.fin8.out ∨ s.opn = true ∨ s.fin8 = s := by
  unfold St.fin8
  split
  · exact .inr (.inr rfl)
  · split
    · left; intro b hb; cases hb
    · have key : noBy s.e2.out ∨ s.opn = true := by
        unfold St.e2
        split
        · left; exact delim_noBy rfl
        · rcases free_out s.e1 with h1 | h1
          · left; rw [h1]; intro b hb; cases hb
          · right; exact h1
      rcases key with h1 | h1
      · left
        split
        · intro b hb
          rcases List.mem_append.1 hb with h2 | h2
          · exact h1 b h2
          · simp at h2
        · exact h1
      · exact .inr (.inl h1)

/-- The parts that have been told are not none where a part is open. -/
theorem fold_ne {ps : List (List Int)} {l : List Ev} (h : ps ≠ []) : l.foldl addEv ps ≠ [] := by
  induction l generalizing ps with
  | nil => exact h
  | cons e l ih => exact ih (addEv_ne h)
theorem fold_op {ps : List (List Int)} {l : List Ev} (h : Ev.op ∈ l) : l.foldl addEv ps ≠ [] := by
  induction l generalizing ps with
  | nil => cases h
  | cons e l ih =>
    rcases List.mem_cons.1 h with rfl | h
    · exact fold_ne (ps := addEv ps .op) (by simp [addEv])
    · exact ih h
theorem tail_opn (s : St) (b : Int) : (s.tail b).opn = s.opn := by
  unfold St.tail St.say
  repeat' split
  all_goals rfl
theorem take_opn {s : St} {b : Int} (ps : List (List Int)) (h : s.opn = true → ps ≠ []) (ho : (s.take b).opn = true) : (s.take b).out.foldl addEv ps ≠ [] := by
  by_cases hs : s.step = .none
  · rw [take_none hs] at ho ⊢
    rw [tail_opn] at ho
    exact fold_ne (h ho)
  · rw [take_some hs] at ho ⊢
    have hro := run_opn s b
    obtain ⟨v, s', hr⟩ : ∃ v s', s.run b = (v, s') := ⟨_, _, rfl⟩
    rw [hr] at ho hro ⊢
    dsimp only at hro
    cases v
    · dsimp only at ho ⊢
      rw [tail_opn] at ho
      exact fold_ne (h (by rw [← hro]; exact ho))
    · dsimp only at ho ⊢
      exact fold_ne (h (by rw [← hro]; exact ho))
    · dsimp only at ho ⊢
      refine fold_op ?_
      rw [delim_eq] at ho ⊢
      simp only [St.fresh, St.d2] at ho ⊢
      rw [show s'.last = false by simpa using ho]
      simp
end Go.Proofs.Ytmalacamfjdimaa.Pt
