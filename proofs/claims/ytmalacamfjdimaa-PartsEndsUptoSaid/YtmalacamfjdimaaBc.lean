/- Parts between other bytes, and with lines that end with a byte 10 alone (plain). -/
import Derived.Test.YtmalacamfjdimaaBb
namespace Go.Proofs.Ytmalacamfjdimaa.Pt
open Go.RowKit Go.Proofs.Ytmalacamfjdimaa.W

section
variable {W : ByteArray}
theorem has_line (hW : Wk W) {a : List Int} (h : ∀ y ∈ a, y ≠ 10 ∧ y ≠ 45) : hasW (strL W) a = false := by
  unfold hasW
  rw [hasF, nl_none (fun y hy => (h y hy).1), if_neg (by omega)]
  unfold tst
  have : (strL W).isPrefixOf a = false := by
    cases hp : (strL W).isPrefixOf a with
    | false => rfl
    | true =>
      have h1 := hW.hd
      obtain ⟨t, ht⟩ := List.isPrefixOf_iff_prefix.1 hp
      obtain ⟨x, r, hx⟩ : ∃ x r, strL W = x :: r := by
        cases hs : strL W with
        | nil => rw [hs] at h1; cases h1
        | cons x r => exact ⟨x, r, rfl⟩
      rw [hx] at h1 ht
      simp at h1
      subst h1
      exact absurd rfl (h 45 (by rw [← ht]; simp)).2
  rw [this]; rfl
/-- What stands ahead: letters and a line's end, or nothing. -/
def ahead (a : List Int) : List Int := if a = [] then [] else a ++ [13, 10]
theorem back_whole (hW : Wk W) (a bh : List Int) (ls : List (List Int)) (ha : ∀ y ∈ a, y ≠ 10 ∧ y ≠ 45) (hls : ∀ q ∈ ls, hasW (strL W) q = false) :
    (whole W (ahead a ++ wall (strL W) ls ++ bh)).2 = ls ∧ (whole W (ahead a ++ wall (strL W) ls ++ bh)).1.reason = 0 := by
  have h1 : ∃ h, fds (St.new W) (ahead a) = ({ Fr W false with hold := h }, []) := by
    unfold ahead
    by_cases ha0 : a = []
    · rw [if_pos ha0]; exact ⟨[], rfl⟩
    · rw [if_neg ha0]
      have := part_crlf hW false (has_line hW ha)
      exact ⟨[13, 10], this⟩
  obtain ⟨h, h1⟩ := h1
  have h2 := wall_run hW h ls hls
  have h3 : fds (St.new W) (ahead a ++ wall (strL W) ls ++ bh) = (Ov W, (fds { Fr W false with hold := h } (wall (strL W) ls)).2) := by
    rw [List.append_assoc, fds_append, h1]
    dsimp only
    rw [fds_append, h2.1, over_run]
    simp
  have h4 := whole_of_over (W := W) (l := ahead a ++ wall (strL W) ls ++ bh) (by rw [h3])
  rw [h3] at h4
  exact ⟨h4.1.trans h2.2, h4.2⟩

theorem free_tail_lf (s : St) : (s.free.tail 10) = { s.free.rst with hold := [10] } := by unfold St.tail; rw [if_neg (by decide), if_pos rfl]; rfl
/-- A part without a line's end, and a byte 10 behind it. -/
theorem part_lf (hW : Wk W) (o : Bool) {p : List Int} (hno : hasW (strL W) p = false) (hp10 : ∀ y ∈ p, y ≠ 10 ∧ y ≠ 13) : fds (Fr W o) (p ++ [10]) = ({ Fr W o with hold := [10] }, if o then p.map Ev.by_ else []) := by
  have h1 := part_sx hW o hno p.length (Nat.le_refl _)
  rw [List.take_length] at h1
  rw [fds_snoc]
  generalize (fds (Fr W o) p).1 = s at h1
  generalize (fds (Fr W o) p).2 = ev at h1
  obtain ⟨hw, ho, hv, he, hout, htold, sd, hx, hev, hcase⟩ := h1
  have fin : ∀ s1 : St, s.take 10 = s1.free.tail 10 → s1.want = W → s1.opn = o → s1.over = false → s1.ended = false → s1.out = [] → s1.hold = s.hold → ((fd s 10).1, ev ++ (fd s 10).2) = ({ Fr W o with hold := [10] }, if o then p.map Ev.by_ else []) := by
    intro s1 ht h1 h2 h3 h4 h5 h6
    rw [fd_live hv, ht, free_tail_lf]
    refine Prod.ext ?_ ?_
    · exact st_eq h1 rfl rfl rfl rfl rfl rfl h2 h3 h4
    · show ev ++ s1.free.out = _
      rw [hev, hx, ← h6]
      have : s1.free.out = if o then s1.hold.map Ev.by_ else [] := by
        unfold St.free
        rw [h5, h2]
        cases o <;> simp
      rw [this]
      cases o <;> simp
  rcases hcase with ⟨hst, hh⟩ | ⟨hst, hh⟩ | ⟨q, c, hp, hh, hps, hc⟩
  · refine fin s ?_ hw ho hv he hout rfl
    have hs : s.free = s := by
      unfold St.free
      rw [hh]
      cases s
      simp only at hst hh ⊢
      subst hst hh
      simp
    rw [take_none hst, hs]
  · exact absurd rfl (hp10 13 (by rw [hx, hh]; simp)).2
  · have key : s.step ≠ .none := by intro e; rw [e] at hc; cases hc
    have hpe : ∀ y ∈ q ++ c, y ≠ 10 ∧ y ≠ 13 := fun y hy => hp10 y (by rw [hx, hh]; exact List.mem_append_right _ hy)
    rw [take_some key] at fin
    generalize hstp : s.step = st at hc
    generalize hat : s.at_ = at_ at hc
    generalize hla : s.last = la at hc
    cases hc with
    | border _ hk =>
      have hb : ¬ (strL s.want)[s.at_]? = some 10 := fun e => (hW.no 10 (by rw [← hw]; exact List.mem_of_getElem? e)).1 rfl
      have hr : s.run 10 = (.wrong, s) := by unfold St.run; rw [hstp]; dsimp only; unfold St.rBorder; rw [if_neg hb]
      rw [hr] at fin
      exact fin s rfl hw ho hv he hout rfl
    | behind =>
      exfalso
      exact last_line hW (bl := []) (d := false) hno hp hps (fun x hx => by cases hx) (by simp) (by rw [hx, hh]; simp)
    | dash =>
      have hr : s.run 10 = (.wrong, { s with last := false, step := .blanks }) := by unfold St.run; rw [hstp]; simp
      rw [hr] at fin
      exact fin { s with last := false, step := .blanks } rfl hw ho hv he hout rfl
    | blanks bl d hbl h16 =>
      exfalso
      exact last_line hW hno hp hps hbl h16 (by rw [hx, hh])
    | close bl k d hbl h16 => exact absurd rfl (hpe 13 (by simp)).2
theorem ldelim_go (o : Bool) (h : List Int) : fds { Fr W o with hold := h, step := .behind } [10] = (Fr W true, (if o then [Ev.cl] else []) ++ [.op]) := by
  cases o <;> simp [fds, fd, St.take, St.run, St.rBlanks, St.delim, St.fresh, core, Fr, St.new]
theorem ldelim_end (o : Bool) (h : List Int) : fds { Fr W o with hold := h, step := .behind } [45, 45, 10] = (Ov W, if o then [Ev.cl] else []) := by
  cases o <;> simp [fds, fd, St.take, St.run, St.rBlanks, St.delim, St.fresh, core, Fr, Ov, St.new]
theorem lborder_go (hW : Wk W) (o : Bool) (h : List Int) : fds { Fr W o with hold := h } (strL W ++ [10]) = (Fr W true, (if o then [Ev.cl] else []) ++ [.op]) := by
  rw [fds_append, border_all hW, ldelim_go]; simp
theorem lborder_end (hW : Wk W) (o : Bool) (h : List Int) : fds { Fr W o with hold := h } (strL W ++ [45, 45, 10]) = (Ov W, if o then [Ev.cl] else []) := by
  rw [fds_append, border_all hW, ldelim_end]; simp
def lwsep (W p : List Int) : List Int := W ++ [10] ++ p ++ [10]
def lwbody (W : List Int) (ls : List (List Int)) : List Int := ls.flatMap (lwsep W)
def lwall (W : List Int) (ls : List (List Int)) : List Int := lwbody W ls ++ (W ++ [45, 45, 10])
/-- An open part p, and what stands behind it. -/
def ltailw (W p : List Int) (rest : List (List Int)) : List Int := p ++ [10] ++ (lwbody W rest ++ (W ++ [45, 45, 10]))
theorem ltail_run (hW : Wk W) : ∀ (rest : List (List Int)) (p : List Int) (ps : List (List Int)), hasW (strL W) p = false → (∀ y ∈ p, y ≠ 10 ∧ y ≠ 13) → (∀ q ∈ rest, hasW (strL W) q = false ∧ ∀ y ∈ q, y ≠ 10 ∧ y ≠ 13) →
    (fds (Fr W true) (ltailw (strL W) p rest)).1 = Ov W ∧ ((fds (Fr W true) (ltailw (strL W) p rest)).2).foldl addEv (ps ++ [[]]) = ps ++ (p :: rest) := by
  intro rest
  induction rest with
  | nil =>
    intro p ps hp hp10 _
    unfold ltailw
    rw [fds_append, part_lf hW true hp hp10]
    show (fds { Fr W true with hold := [10] } ([] ++ (strL W ++ [45, 45, 10]))).1 = _ ∧ _
    rw [List.nil_append, lborder_end hW]
    refine ⟨rfl, ?_⟩
    dsimp only
    rw [show lwbody (strL W) [] ++ (strL W ++ [45, 45, 10]) = strL W ++ [45, 45, 10] from rfl, lborder_end hW, List.foldl_append]
    simp only [if_true]
    rw [by_fold]
    simp [addEv]
  | cons q rest ih =>
    intro p ps hp hp10 hr
    have hq := hr q (by simp)
    have h2 := ih q (ps ++ [p]) hq.1 hq.2 (fun z hz => hr z (List.mem_cons_of_mem _ hz))
    have e : ltailw (strL W) p (q :: rest) = (p ++ [10]) ++ ((strL W ++ [10]) ++ ltailw (strL W) q rest) := by simp [ltailw, lwbody, lwsep]
    rw [e, fds_append, part_lf hW true hp hp10]
    dsimp only
    rw [fds_append, lborder_go hW]
    dsimp only
    refine ⟨h2.1, ?_⟩
    rw [List.foldl_append, List.foldl_append]
    simp only [if_true]
    rw [by_fold]
    have e3 : ([Ev.cl] ++ [Ev.op]).foldl addEv (ps ++ [[] ++ p]) = ps ++ [p] ++ [[]] := by simp [addEv]
    rw [e3, h2.2]
    simp
theorem lwall_run (hW : Wk W) (h : List Int) (ls : List (List Int)) (hls : ∀ q ∈ ls, hasW (strL W) q = false ∧ ∀ y ∈ q, y ≠ 10 ∧ y ≠ 13) : (fds { Fr W false with hold := h } (lwall (strL W) ls)).1 = Ov W ∧ ((fds { Fr W false with hold := h } (lwall (strL W) ls)).2).foldl addEv [] = ls := by
  cases ls with
  | nil =>
    rw [show lwall (strL W) [] = strL W ++ [45, 45, 10] from rfl, lborder_end hW]
    exact ⟨rfl, rfl⟩
  | cons p rest =>
    have e : lwall (strL W) (p :: rest) = (strL W ++ [10]) ++ ltailw (strL W) p rest := by simp [lwall, ltailw, lwbody, lwsep]
    rw [e, fds_append, lborder_go hW]
    dsimp only
    have h2 := ltail_run hW rest p [] (hls p (by simp)).1 (hls p (by simp)).2 (fun z hz => hls z (List.mem_cons_of_mem _ hz))
    refine ⟨h2.1, ?_⟩
    rw [List.foldl_append]
    exact h2.2
theorem lines_whole (hW : Wk W) (ls : List (List Int)) (hls : ∀ q ∈ ls, hasW (strL W) q = false ∧ ∀ y ∈ q, y ≠ 10 ∧ y ≠ 13) : (whole W (lwall (strL W) ls)).2 = ls ∧ (whole W (lwall (strL W) ls)).1.reason = 0 := by
  have h2 := lwall_run hW [] ls hls
  have h4 := whole_of_over (W := W) (l := lwall (strL W) ls) h2.1
  exact ⟨h4.1.trans h2.2, h4.2⟩
/-- Without its bytes 13 what was written has lines that end with a byte 10 alone. -/
def no13 (l : List Int) : List Int := l.filter fun x => decide (x ≠ 13)
theorem no13_self {l : List Int} (h : ∀ y ∈ l, y ≠ 13) : no13 l = l := by
  unfold no13
  rw [List.filter_eq_self]
  intro y hy
  simpa using h y hy
theorem no13_wall (hW : Wk W) : ∀ (ls : List (List Int)), (∀ q ∈ ls, ∀ y ∈ q, y ≠ 13) → no13 (wall (strL W) ls) = lwall (strL W) ls := by
  have hw : no13 (strL W) = strL W := no13_self fun y hy => (hW.no y hy).2
  have happ : ∀ a b, no13 (a ++ b) = no13 a ++ no13 b := fun a b => by simp [no13]
  have hb : ∀ (ls : List (List Int)), (∀ q ∈ ls, ∀ y ∈ q, y ≠ 13) → no13 (wbody (strL W) ls) = lwbody (strL W) ls := by
    intro ls
    induction ls with
    | nil => intro _; rfl
    | cons p ls ih =>
      intro h
      have e1 : wbody (strL W) (p :: ls) = strL W ++ [13, 10] ++ p ++ [13, 10] ++ wbody (strL W) ls := by simp [wbody, wsep]
      have e2 : lwbody (strL W) (p :: ls) = strL W ++ [10] ++ p ++ [10] ++ lwbody (strL W) ls := by simp [lwbody, lwsep]
      rw [e1, e2, happ, happ, happ, happ, hw, ih (fun q hq => h q (List.mem_cons_of_mem _ hq)), no13_self (h p (by simp))]
      rfl
  intro ls h
  unfold wall lwall
  rw [happ, happ, hw, hb ls h]
  rfl
end
end Go.Proofs.Ytmalacamfjdimaa.Pt
