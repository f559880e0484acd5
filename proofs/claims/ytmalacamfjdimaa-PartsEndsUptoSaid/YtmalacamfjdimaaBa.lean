/- The machine over a part: what is held and what is said (plain). -/
import Derived.Test.YtmalacamfjdimaaWi
namespace Go.Proofs.Ytmalacamfjdimaa.Pt
open Go.RowKit Go.Proofs.Ytmalacamfjdimaa.W

def core (s : St) : St := { s with out := [], told := 0 }
def fd (s : St) (b : Int) : St × List Ev := if s.over then (core s, []) else (core (s.take b), (s.take b).out)
def fds : St → List Int → St × List Ev
  | s, [] => (s, [])
  | s, b :: r => ((fds (fd s b).1 r).1, (fd s b).2 ++ (fds (fd s b).1 r).2)
theorem fds_append (s : St) : ∀ (a b : List Int), fds s (a ++ b) = ((fds (fds s a).1 b).1, (fds s a).2 ++ (fds (fds s a).1 b).2) := by
  intro a
  induction a generalizing s with
  | nil => intro b; simp [fds]
  | cons x a ih => intro b; simp [fds, ih]

/-- Where a candidate stands: c is what there is of its line. -/
inductive Ph (W : List Int) : Stp → Nat → Bool → List Int → Prop
  | border (k : Nat) (h : k < W.length) : Ph W .border k false (W.take k)
  | behind : Ph W .behind 0 false W
  | dash : Ph W .dash 0 false (W ++ [45])
  | blanks (bl : List Int) (d : Bool) (h : Bl bl) (h16 : bl.length ≤ 16) : Ph W .blanks bl.length d (W ++ ((if d then [45, 45] else []) ++ bl))
  | close (bl : List Int) (k : Nat) (d : Bool) (h : Bl bl) (h16 : bl.length ≤ 16) : Ph W .close k d (W ++ ((if d then [45, 45] else []) ++ (bl ++ [13])))

/-- Behind x, with ev said, and no delimiter met. -/
structure Sx (W : ByteArray) (o : Bool) (x : List Int) (s : St) (ev : List Ev) : Prop where
  want : s.want = W
  opn : s.opn = o
  over : s.over = false
  ended : s.ended = false
  out : s.out = []
  told : s.told = 0
  ex : ∃ sd, x = sd ++ s.hold ∧ ev = (if o then sd.map Ev.by_ else []) ∧
    (s.step = .none ∧ s.hold = [] ∨ s.step = .feed ∧ s.hold = [13] ∨ ∃ p c, Pre p ∧ s.hold = p ++ c ∧ (p = [] → sd = []) ∧ Ph (strL W) s.step s.at_ s.last c)
def Fr (W : ByteArray) (o : Bool) : St := { St.new W with opn := o }
def Ov (W : ByteArray) : St := { St.new W with over := true }
/-- A delimiter has been met with a byte 10 behind x. -/
def Wh (W : ByteArray) (o : Bool) (x : List Int) (s' : St) (ev ev' : List Ev) : Prop :=
  ∃ (sd p c bl : List Int) (d : Bool), Pre p ∧ x = sd ++ (p ++ c) ∧ (p = [] → sd = []) ∧ Bl bl ∧ bl.length ≤ 16 ∧ (c = strL W ++ ((if d then [45, 45] else []) ++ bl) ∨ c = strL W ++ ((if d then [45, 45] else []) ++ (bl ++ [13]))) ∧
    s' = (if d then Ov W else Fr W true) ∧ ev' = ev ++ ((if o then [.cl] else []) ++ (if d then [] else [.op])) ∧ ev = (if o then sd.map Ev.by_ else [])

theorem Ph0 {W : ByteArray} (h0 : 0 < W.size) : Ph (strL W) .border 0 false [] := by simpa using Ph.border (W := strL W) 0 (by rw [strL_length]; exact h0)
theorem Sx.wrong {W : ByteArray} {o : Bool} {x : List Int} {s1 : St} {ev : List Ev} {b : Int} {sd : List Int} (h0 : 0 < W.size) (hw : s1.want = W) (ho : s1.opn = o) (hv : s1.over = false) (he : s1.ended = false) (hout : s1.out = []) (hx : x = sd ++ s1.hold) (hev : ev = (if o then sd.map Ev.by_ else [])) :
    Sx W o (x ++ [b]) (core (s1.free.tail b)) (ev ++ (s1.free.tail b).out) := by
  subst hw ho hx hev
  have hfo : s1.free.out = if s1.opn then s1.hold.map Ev.by_ else [] := by
    unfold St.free
    rw [hout]
    cases s1.opn <;> simp
  have hfh : s1.free.hold = [] := rfl
  have hsay : (if s1.opn then sd.map Ev.by_ else []) ++ s1.free.out = if s1.opn then (sd ++ s1.hold).map Ev.by_ else [] := by
    rw [hfo]
    cases s1.opn <;> simp
  by_cases h13 : b = 13
  · subst h13
    have e : s1.free.tail 13 = { s1.free with step := .feed, hold := [13] } := by unfold St.tail; rw [if_pos rfl, hfh]; rfl
    rw [e]
    exact ⟨rfl, rfl, hv, he, rfl, rfl, sd ++ s1.hold, rfl, hsay, .inr (.inl ⟨rfl, rfl⟩)⟩
  · by_cases h10 : b = 10
    · subst h10
      have e : s1.free.tail 10 = { s1.free.rst with hold := [10] } := by unfold St.tail; rw [if_neg (by decide), if_pos rfl, hfh]; rfl
      rw [e]
      exact ⟨rfl, rfl, hv, he, rfl, rfl, sd ++ s1.hold, rfl, hsay, .inr (.inr ⟨[10], [], .inr (.inl rfl), rfl, (fun h => by cases h), Ph0 h0⟩)⟩
    · have e : s1.free.tail b = s1.free.say b := by unfold St.tail; rw [if_neg h13, if_neg h10]
      rw [e]
      cases hop : s1.opn with
      | false =>
        have e2 : s1.free.say b = s1.free := by unfold St.say; rw [if_neg (show ¬ s1.free.opn = true by rw [show s1.free.opn = s1.opn from rfl, hop]; simp)]
        rw [e2]
        refine ⟨rfl, hop, hv, he, rfl, rfl, sd ++ s1.hold ++ [b], ?_, ?_, .inl ⟨rfl, rfl⟩⟩
        · show _ = _ ++ []
          simp
        · rw [hfo, hop]; rfl
      | true =>
        have e2 : s1.free.say b = { s1.free with out := s1.free.out ++ [.by_ b] } := by unfold St.say; rw [if_pos (show s1.free.opn = true from hop)]
        rw [e2]
        refine ⟨rfl, hop, hv, he, rfl, rfl, sd ++ s1.hold ++ [b], ?_, ?_, .inl ⟨rfl, rfl⟩⟩
        · show _ = _ ++ []
          simp
        · show _ ++ (s1.free.out ++ [.by_ b]) = _
          rw [hfo, hop]
          simp
theorem Sx.goes {W : ByteArray} {o : Bool} {x : List Int} {s1 : St} {ev : List Ev} {b : Int} {sd p c : List Int} (hw : s1.want = W) (ho : s1.opn = o) (hv : s1.over = false) (he : s1.ended = false) (hout : s1.out = []) (hx : x = sd ++ s1.hold) (hev : ev = (if o then sd.map Ev.by_ else []))
    (hp : Pre p) (hh : s1.hold ++ [b] = p ++ c) (hps : p = [] → sd = []) (hc : Ph (strL W) s1.step s1.at_ s1.last c) : Sx W o (x ++ [b]) (core { s1 with hold := s1.hold ++ [b] }) (ev ++ ({ s1 with hold := s1.hold ++ [b] } : St).out) := by
  subst hx
  refine ⟨hw, ho, hv, he, rfl, rfl, sd, ?_, ?_, .inr (.inr ⟨p, c, hp, hh, hps, hc⟩)⟩
  · show sd ++ s1.hold ++ [b] = sd ++ (s1.hold ++ [b])
    simp
  · rw [show ({ s1 with hold := s1.hold ++ [b] } : St).out = s1.out from rfl, hout, List.append_nil, hev]
theorem Sx.whole {W : ByteArray} {o : Bool} {x : List Int} {s1 : St} {ev : List Ev} {sd p c bl : List Int} (hw : s1.want = W) (ho : s1.opn = o) (he : s1.ended = false) (hout : s1.out = []) (hx : x = sd ++ s1.hold) (hev : ev = (if o then sd.map Ev.by_ else []))
    (hp : Pre p) (hh : s1.hold = p ++ c) (hps : p = [] → sd = []) (hbl : Bl bl) (h16 : bl.length ≤ 16) (hc : c = strL W ++ ((if s1.last then [45, 45] else []) ++ bl) ∨ c = strL W ++ ((if s1.last then [45, 45] else []) ++ (bl ++ [13]))) : Wh W o x (core s1.delim) ev (ev ++ s1.delim.out) := by
  subst hw ho
  refine ⟨sd, p, c, bl, s1.last, hp, by rw [hx, hh], hps, hbl, h16, hc, ?_, ?_, hev⟩
  · unfold core St.delim St.fresh
    cases hla : s1.last <;> simp [Fr, Ov, St.new, he]
  · unfold St.delim St.fresh
    rw [hout]
    cases s1.opn <;> cases s1.last <;> simp

theorem Sx.blanks {W : ByteArray} {o : Bool} {x : List Int} {s1 : St} {ev : List Ev} {b : Int} {sd p bl : List Int} (h0 : 0 < W.size) (hw : s1.want = W) (ho : s1.opn = o) (hv : s1.over = false) (he : s1.ended = false) (hout : s1.out = []) (hx : x = sd ++ s1.hold) (hev : ev = (if o then sd.map Ev.by_ else []))
    (hp : Pre p) (hps : p = [] → sd = []) (hst : s1.step = .blanks) (hbl : Bl bl) (h16 : bl.length ≤ 16) (hat : s1.at_ = bl.length) (hh : s1.hold = p ++ (strL W ++ ((if s1.last then [45, 45] else []) ++ bl))) {v : Verd} {s' : St} (hr : s1.rBlanks b = (v, s')) :
    (∀ t, t = (match v with | .goes => { s' with hold := s'.hold ++ [b] } | .whole => s'.delim | .wrong => s'.free.tail b) → (Sx W o (x ++ [b]) (core t) (ev ++ t.out) ∧ (v = .whole → False)) ∨ (b = 10 ∧ Wh W o x (core t) ev (ev ++ t.out))) := by
  intro t ht
  unfold St.rBlanks at hr
  split at hr
  · rename_i h10
    injection hr with e1 e2
    subst e1 e2 ht
    exact .inr ⟨h10, Sx.whole hw ho he hout hx hev hp hh hps hbl h16 (.inl rfl)⟩
  · split at hr
    · rename_i h13
      injection hr with e1 e2
      subst e1 e2 ht
      refine .inl ⟨?_, by simp⟩
      exact Sx.goes (s1 := { s1 with step := .close }) hw ho hv he hout hx hev hp (c := strL W ++ ((if s1.last then [45, 45] else []) ++ (bl ++ [13]))) (by show s1.hold ++ [b] = _; rw [hh, h13]; simp) hps (Ph.close bl _ _ hbl h16)
    · split at hr
      · rename_i h9
        injection hr with e1 e2
        subst e1 e2 ht
        refine .inl ⟨?_, by simp⟩
        refine Sx.goes (s1 := { s1 with at_ := s1.at_ + 1 }) hw ho hv he hout hx hev hp (c := strL W ++ ((if s1.last then [45, 45] else []) ++ (bl ++ [b]))) (by show s1.hold ++ [b] = _; rw [hh]; simp) hps ?_
        have := Ph.blanks (W := strL W) (bl ++ [b]) s1.last (bl_snoc hbl h9.1) (by simp; omega)
        rw [List.length_append, List.length_singleton, ← hat] at this
        rw [show ({ s1 with at_ := s1.at_ + 1 } : St).step = s1.step from rfl, hst]
        exact this
      · injection hr with e1 e2
        subst e1 e2 ht
        exact .inl ⟨Sx.wrong h0 hw ho hv he hout hx hev, by simp⟩

/-- One byte more. -/
theorem Sx.step {W : ByteArray} {o : Bool} {x : List Int} {s : St} {ev : List Ev} (h0 : 0 < W.size) (h : Sx W o x s ev) (b : Int) : Sx W o (x ++ [b]) (fd s b).1 (ev ++ (fd s b).2) ∨ (b = 10 ∧ Wh W o x (fd s b).1 ev (ev ++ (fd s b).2)) := by
  obtain ⟨hw, ho, hv, he, hout, htold, sd, hx, hev, hcase⟩ := h
  have hf : fd s b = (core (s.take b), (s.take b).out) := by unfold fd; rw [hv]; rfl
  rw [hf]
  rcases hcase with ⟨hst, hh⟩ | ⟨hst, hh⟩ | ⟨p, c, hp, hh, hps, hc⟩
  · left
    have hs : s.free = s := by
      unfold St.free
      rw [hh]
      cases s
      simp only at hst hh ⊢
      subst hst hh
      simp
    rw [take_none hst, ← hs]
    exact Sx.wrong h0 hw ho hv he hout hx hev
  · have hs : s.step ≠ .none := by rw [hst]; simp
    rw [take_some hs]
    left
    by_cases h10 : b = 10
    · subst h10
      have hr : s.run 10 = (.goes, s.rst) := by unfold St.run; rw [hst]; rfl
      rw [hr]
      exact Sx.goes (s1 := s.rst) hw ho hv he hout hx hev (p := [13, 10]) (c := []) (.inr (.inr rfl)) (by show s.hold ++ [10] = _; rw [hh]; rfl) (fun h => by cases h) (Ph0 h0)
    · have hr : s.run b = (.wrong, s.rst) := by unfold St.run; rw [hst]; simp [h10]
      rw [hr]
      exact Sx.wrong (s1 := s.rst) h0 hw ho hv he hout hx hev
  · have key : s.step ≠ .none := by intro e; rw [e] at hc; cases hc
    rw [take_some key]
    generalize hstp : s.step = st at hc
    generalize hat : s.at_ = at_ at hc
    generalize hla : s.last = la at hc
    cases hc with
    | border _ hk =>
      left
      by_cases hb : (strL s.want)[s.at_]? = some b
      · have e : (strL W).take (at_ + 1) = (strL W).take at_ ++ [b] := take_snoc' (by rw [← hw, ← hat]; exact hb)
        by_cases hsz : s.at_ + 1 = s.want.size
        · have hr : s.run b = (.goes, { s with step := .behind, at_ := 0 }) := by unfold St.run; rw [hstp]; dsimp only; unfold St.rBorder; rw [if_pos hb, if_pos hsz]
          rw [hr]
          refine Sx.goes (s1 := { s with step := .behind, at_ := 0 }) hw ho hv he hout hx hev hp (c := strL W) ?_ hps ?_
          · show s.hold ++ [b] = p ++ strL W
            rw [hh, List.append_assoc, ← e, List.take_of_length_le (by rw [strL_length, ← hw, ← hat]; omega)]
          · rw [show ({ s with step := .behind, at_ := 0 } : St).last = s.last from rfl, hla]
            exact Ph.behind
        · have hr : s.run b = (.goes, { s with at_ := s.at_ + 1 }) := by unfold St.run; rw [hstp]; dsimp only; unfold St.rBorder; rw [if_pos hb, if_neg hsz, hstp]
          rw [hr]
          refine Sx.goes (s1 := { s with at_ := s.at_ + 1 }) hw ho hv he hout hx hev hp (c := (strL W).take (at_ + 1)) ?_ hps ?_
          · show s.hold ++ [b] = _
            rw [hh, List.append_assoc, ← e]
          · rw [show ({ s with at_ := s.at_ + 1 } : St).step = s.step from rfl, show ({ s with at_ := s.at_ + 1 } : St).last = s.last from rfl, hstp, hla, show ({ s with at_ := s.at_ + 1 } : St).at_ = s.at_ + 1 from rfl, hat]
            refine Ph.border _ ?_
            rw [strL_length, ← hw]
            have hk2 : at_ < s.want.size := by rw [strL_length, ← hw] at hk; exact hk
            omega
      · have hr : s.run b = (.wrong, s) := by unfold St.run; rw [hstp]; dsimp only; unfold St.rBorder; rw [if_neg hb]
        rw [hr]
        exact Sx.wrong h0 hw ho hv he hout hx hev
    | behind =>
      by_cases h45 : b = 45
      · left
        have hr : s.run b = (.goes, { s with step := .dash }) := by unfold St.run; rw [hstp]; dsimp only; rw [if_pos h45]
        rw [hr]
        refine Sx.goes (s1 := { s with step := .dash }) hw ho hv he hout hx hev hp (c := strL W ++ [45]) (by show s.hold ++ [b] = _; rw [hh, h45]; simp) hps ?_
        rw [show ({ s with step := .dash } : St).last = s.last from rfl, show ({ s with step := .dash } : St).at_ = s.at_ from rfl, hla, hat]
        exact Ph.dash
      · obtain ⟨v, s', hr⟩ : ∃ v s', St.rBlanks b { s with step := .blanks } = (v, s') := ⟨_, _, rfl⟩
        have hr2 : s.run b = (v, s') := by unfold St.run; rw [hstp]; dsimp only; rw [if_neg h45]; exact hr
        rw [hr2]
        have := Sx.blanks (s1 := { s with step := .blanks }) (bl := []) h0 hw ho hv he hout hx hev hp hps rfl (fun x hx => by cases hx) (by simp) (by show s.at_ = 0; exact hat) (by show s.hold = _; rw [show ({ s with step := .blanks } : St).last = s.last from rfl, hla, hh]; simp) hr _ rfl
        cases v with
        | goes => exact this.imp (fun h => h.1) id
        | whole => exact this.imp (fun h => h.1) id
        | wrong => exact this.imp (fun h => h.1) id
    | dash =>
      left
      by_cases h45 : b = 45
      · have hr : s.run b = (.goes, { s with last := true, step := .blanks }) := by unfold St.run; rw [hstp]; dsimp only; simp [h45]
        rw [hr]
        refine Sx.goes (s1 := { s with last := true, step := .blanks }) hw ho hv he hout hx hev hp (c := strL W ++ ((if true then [45, 45] else []) ++ [])) (by show s.hold ++ [b] = _; rw [hh, h45]; simp) hps ?_
        rw [show ({ s with last := true, step := .blanks } : St).at_ = s.at_ from rfl, hat]
        exact Ph.blanks (W := strL W) [] true (fun x hx => by cases hx) (by simp)
      · have hr : s.run b = (.wrong, { s with last := false, step := .blanks }) := by unfold St.run; rw [hstp]; dsimp only; simp [h45]
        rw [hr]
        exact Sx.wrong (s1 := { s with last := false, step := .blanks }) h0 hw ho hv he hout hx hev
    | blanks bl d hbl h16 =>
      obtain ⟨v, s', hr⟩ : ∃ v s', s.rBlanks b = (v, s') := ⟨_, _, rfl⟩
      have hr2 : s.run b = (v, s') := by unfold St.run; rw [hstp]; exact hr
      rw [hr2]
      have := Sx.blanks (s1 := s) (bl := bl) h0 hw ho hv he hout hx hev hp hps hstp hbl h16 hat (by rw [hla, hh]) hr _ rfl
      cases v with
      | goes => exact this.imp (fun h => h.1) id
      | whole => exact this.imp (fun h => h.1) id
      | wrong => exact this.imp (fun h => h.1) id
    | close bl k d hbl h16 =>
      by_cases h10 : b = 10
      · right
        have hr : s.run b = (.whole, s) := by unfold St.run; rw [hstp]; simp [h10]
        rw [hr]
        exact ⟨h10, Sx.whole hw ho he hout hx hev hp hh hps hbl h16 (.inr (by rw [hla]))⟩
      · left
        have hr : s.run b = (.wrong, s) := by unfold St.run; rw [hstp]; simp [h10]
        rw [hr]
        exact Sx.wrong h0 hw ho hv he hout hx hev
theorem Sx.start (W : ByteArray) (h0 : 0 < W.size) (o : Bool) : Sx W o [] (Fr W o) [] :=
  ⟨rfl, rfl, rfl, rfl, rfl, rfl, [], rfl, by cases o <;> rfl, .inr (.inr ⟨[], [], .inl rfl, rfl, fun _ => rfl, Ph0 h0⟩)⟩
end Go.Proofs.Ytmalacamfjdimaa.Pt
