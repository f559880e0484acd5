/- The machine and the reference's look (plain). -/
import Derived.Test.YtmalacamfjdimaaRc
namespace Go.Proofs.Ytmalacamfjdimaa.Pt
open Go.RowKit Go.Proofs.Ytmalacamfjdimaa.W

/-- What look says of the held bytes with y behind. -/
def St.fm (s : St) (y : List Int) : Int × Bool :=
  match s.step with
  | .none => (0, false)
  | .feed => lkN (strL s.want) y
  | .border => lkW y ((strL s.want).drop s.at_)
  | .behind => lkD y
  | .dash => (match y with
    | [] => (1, false)
    | d :: r => if d = 45 then lkB r 0 true else (0, false))
  | .blanks => lkB y s.at_ s.last
  | .close => (match y with
    | [] => (1, s.last)
    | d :: _ => if d = 10 then (3, s.last) else (0, false))
/-- 'last' is known behind the dashes alone. -/
def LI (s : St) : Prop := (s.step = .border ∨ s.step = .behind ∨ s.step = .dash) → s.last = false

def FmOk (s : St) (b : Int) : Verd → St → Prop
  | .goes, s' => (∀ y, s.fm (b :: y) = s'.fm y) ∧ LI s' ∧ s'.step ≠ .none
  | .whole, s' => s.fm [b] = (3, s'.last)
  | .wrong, _ => s.fm [b] = (0, false)

theorem fm_blanks {s : St} {b : Int} (h16 : s.at_ ≤ 16) (hs : s.step = .blanks) {v : Verd} {s' : St} (hr : s.rBlanks b = (v, s')) : FmOk s b v s' := by
  have hfm : ∀ y, s.fm y = lkB y s.at_ s.last := fun y => by unfold St.fm; rw [hs]
  unfold St.rBlanks at hr
  split at hr
  · rename_i h10
    injection hr with e1 e2; subst e1 e2
    show s.fm [b] = _
    rw [hfm, h10]; simp [lkB, lkE]
  · rename_i h10
    split at hr
    · rename_i h13
      injection hr with e1 e2; subst e1 e2
      refine ⟨fun y => ?_, fun h => by simp at h, by simp⟩
      rw [hfm, h13]
      unfold St.fm
      cases y with
      | nil => simp [lkB, lkE]
      | cons d r => simp [lkB, lkE]
    · rename_i h13
      split at hr
      · rename_i hbl
        injection hr with e1 e2; subst e1 e2
        refine ⟨fun y => ?_, fun h => by simp [hs] at h, by simp [hs]⟩
        rw [hfm]
        unfold St.fm
        simp only [hs, lkB]
        rw [if_pos hbl.1, if_neg (by omega)]
      · rename_i hbl
        injection hr with e1 e2; subst e1 e2
        show s.fm [b] = _
        rw [hfm]
        by_cases h9 : b = 9 ∨ b = 32
        · have : s.at_ = 16 := by
            have := fun h => hbl ⟨h9, h⟩
            omega
          simp only [lkB]
          rw [if_pos h9, if_pos this]
        · simp only [lkB]
          rw [if_neg h9]
          simp [lkE, h13, h10]

theorem run_fm {s : St} (hi : Inv s) (hl : LI s) {b : Int} (hs : s.step ≠ .none) {v : Verd} {s' : St} (hr : s.run b = (v, s')) : FmOk s b v s' := by
  obtain ⟨h0, h1, h2, h3, h4⟩ := hi
  unfold St.run at hr
  cases hst : s.step with
  | none => exact absurd hst hs
  | feed =>
    rw [hst] at hr
    dsimp only at hr
    have hfm : ∀ y, s.fm y = lkN (strL s.want) y := fun y => by unfold St.fm; rw [hst]
    split at hr
    · rename_i hb
      injection hr with e1 e2; subst e1 e2
      exact ⟨fun y => by rw [hfm, hb]; rfl, fun _ => rfl, by simp [St.rst]⟩
    · rename_i hb
      injection hr with e1 e2; subst e1 e2
      show s.fm [b] = _
      rw [hfm]
      exact if_neg hb
  | border =>
    rw [hst] at hr h4
    dsimp only at hr h4
    have hfm : ∀ y, s.fm y = lkW y ((strL s.want).drop s.at_) := fun y => by unfold St.fm; rw [hst]
    have hlt : s.at_ < (strL s.want).length := by rw [strL_length]; exact h4.1
    obtain ⟨x, hx⟩ : ∃ x, (strL s.want)[s.at_]? = some x := ⟨_, List.getElem?_eq_getElem hlt⟩
    have hd := drop_cons hx
    unfold St.rBorder at hr
    split at hr
    · rename_i hb
      rw [hx] at hb
      injection hb with hb
      injection hr with e1 e2; subst e1 e2
      have e : ∀ y, s.fm (b :: y) = lkW y ((strL s.want).drop (s.at_ + 1)) := fun y => by
        rw [hfm, hd]
        exact if_pos hb.symm
      show FmOk s b .goes _
      by_cases hsz : s.at_ + 1 = s.want.size
      · rw [if_pos hsz]
        refine ⟨fun y => ?_, fun _ => hl (.inl hst), by simp⟩
        rw [e, show (strL s.want).drop (s.at_ + 1) = [] from List.drop_eq_nil_of_le (by rw [strL_length]; omega)]
        cases y <;> rfl
      · rw [if_neg hsz]
        refine ⟨fun y => ?_, fun _ => hl (.inl hst), by simp [hst]⟩
        rw [e]
        unfold St.fm
        simp only [hst]
    · rename_i hb
      injection hr with e1 e2; subst e1 e2
      show s.fm [b] = _
      rw [hfm, hd]
      exact if_neg (fun e => hb (by rw [hx, e]))
  | behind =>
    rw [hst] at hr h4
    dsimp only at hr h4
    have hla := hl (.inr (.inl hst))
    have hfm : ∀ y, s.fm y = lkD y := fun y => by unfold St.fm; rw [hst]
    split at hr
    · rename_i hb
      injection hr with e1 e2; subst e1 e2
      refine ⟨fun y => ?_, fun _ => hla, by simp⟩
      rw [hfm, hb]
      cases y <;> rfl
    · rename_i hb
      have h5 := fm_blanks (s := { s with step := .blanks }) (b := b) (by show s.at_ ≤ 16; omega) rfl hr
      have e : ∀ y, s.fm (b :: y) = ({ s with step := .blanks } : St).fm (b :: y) := fun y => by
        rw [hfm]
        unfold St.fm
        simp only [lkD, if_neg hb, h4.1, hla]
      unfold FmOk at h5 ⊢
      cases v
      · rw [e]; exact h5
      · exact ⟨fun y => by rw [e]; exact h5.1 y, h5.2⟩
      · rw [e]; exact h5
  | dash =>
    rw [hst] at hr
    dsimp only at hr
    have hfm : ∀ d r, s.fm (d :: r) = if d = 45 then lkB r 0 true else (0, false) := fun d r => by unfold St.fm; rw [hst]
    rw [hst] at h4
    dsimp only at h4
    by_cases hb : b = 45
    · rw [if_pos hb] at hr
      injection hr with e1 e2; subst e1 e2
      refine ⟨fun y => ?_, fun h => by simp at h, by simp⟩
      rw [hfm, if_pos hb]
      unfold St.fm
      simp [hb, h4.1]
    · rw [if_neg hb] at hr
      injection hr with e1 e2; subst e1 e2
      show s.fm [b] = _
      rw [hfm, if_neg hb]
  | blanks =>
    rw [hst] at hr h4
    dsimp only at hr h4
    exact fm_blanks h4.1 hst hr
  | close =>
    rw [hst] at hr
    dsimp only at hr
    have hfm : ∀ d r, s.fm (d :: r) = if d = 10 then (3, s.last) else (0, false) := fun d r => by unfold St.fm; rw [hst]
    split at hr
    · rename_i hb
      injection hr with e1 e2; subst e1 e2
      show s.fm [b] = _
      rw [hfm, if_pos hb]
    · rename_i hb
      injection hr with e1 e2; subst e1 e2
      show s.fm [b] = _
      rw [hfm, if_neg hb]
end Go.Proofs.Ytmalacamfjdimaa.Pt
