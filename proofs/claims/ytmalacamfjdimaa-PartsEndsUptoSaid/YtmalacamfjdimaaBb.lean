/- Parts that were written are cut again (plain). -/
import Derived.Test.YtmalacamfjdimaaBa
namespace Go.Proofs.Ytmalacamfjdimaa.Pt
open Go.RowKit Go.Proofs.Ytmalacamfjdimaa.W

/-- A boundary's bytes have no line's end, and begin with a dash. -/
structure Wk (W : ByteArray) : Prop where
  pos : 0 < W.size
  le : W.size ≤ 72
  no : ∀ y ∈ strL W, y ≠ 10 ∧ y ≠ 13
  hd : (strL W).head? = some 45
theorem okP_no : ∀ n : _root_.Fin 256, okP (UInt8.ofNat n.val) → n.val ≠ 10 ∧ n.val ≠ 13 := by decide +kernel
theorem Wk.mk' {b : ByteArray} (hv : validB b.data.toList = true) : Wk (⟨#[45, 45]⟩ ++ b) := by
  have hws := want_size hv
  refine ⟨hws.1, hws.2, ?_, want_head b⟩
  intro y hy
  rw [strL_append] at hy
  rcases List.mem_append.1 hy with h | h
  · have : y = 45 := by simpa [strL] using h
    subst this
    decide
  · obtain ⟨x, hx, rfl⟩ := List.mem_map.1 h
    unfold validB at hv
    simp only [Bool.and_eq_true] at hv
    have h1 := List.all_eq_true.1 hv.1.1.1 x hx
    have h2 := okP_no ⟨x.toNat, x.toNat_lt⟩ (by simpa using h1)
    simp only at h2
    omega

theorem last_ten {a : List Int} (h : a.getLast? = some 10) : nl a < a.length := by
  rcases Nat.lt_or_ge (nl a) a.length with h1 | h1
  · exact h1
  · have e : a.take (nl a) = a := List.take_of_length_le h1
    have := nl_not a 10 (by rw [e]; exact List.mem_of_getLast? h)
    exact absurd rfl this
theorem nl_pre {a r : List Int} (h : nl a < a.length) : nl (a ++ r) = nl a := by
  refine nl_eq (fun j x hj hx => ?_) (.inr ?_) (by simp; omega)
  · rw [List.getElem?_append_left (by omega)] at hx
    exact nl_not a x (List.mem_of_getElem? (i := j) (by rw [List.getElem?_take, if_pos hj]; exact hx))
  · rw [List.getElem?_append_left h]; exact nl_at h
theorem nl_ten {c r : List Int} (h : ∀ y ∈ c, y ≠ 10) : nl (c ++ 10 :: r) = c.length := by
  refine nl_eq (fun j x hj hx => ?_) (.inr (by simp)) (by simp)
  rw [List.getElem?_append_left hj] at hx
  exact h x (List.mem_of_getElem? hx)
theorem nl_none {c : List Int} (h : ∀ y ∈ c, y ≠ 10) : nl c = c.length :=
  nl_eq (fun j x hj hx => h x (List.mem_of_getElem? hx)) (.inl rfl) (Nat.le_refl _)
theorem drop_last {a : List Int} {k : Nat} (h : a.getLast? = some 10) : a.drop k = [] ∨ (a.drop k).getLast? = some 10 := by
  by_cases hk : k < a.length
  · right
    rw [List.getLast?_drop, if_neg (by omega)]; exact h
  · left; exact List.drop_eq_nil_of_le (by omega)
theorem hasF_no (W : List Int) : ∀ (g : Nat) (x a c r : List Int), hasF W g x = false → x.length < g → x = a ++ (c ++ 10 :: r) → (a = [] ∨ a.getLast? = some 10) → (∀ y ∈ c, y ≠ 10) → tst W (strip c) = false := by
  intro g
  induction g with
  | zero => intro x a c r _ h; omega
  | succ g ih =>
    intro x a c r hf hlen hx ha hc
    rw [hasF] at hf
    rcases ha with rfl | ha
    · rw [List.nil_append] at hx
      have e : nl x = c.length := by rw [hx]; exact nl_ten hc
      rw [if_pos (by rw [e, hx]; simp)] at hf
      have hf1 := (Bool.or_eq_false_iff.1 hf).1
      rw [e, hx, List.take_left] at hf1
      exact hf1
    · have h1 := last_ten ha
      have e : nl x = nl a := by rw [hx]; exact nl_pre h1
      rw [if_pos (by rw [e, hx]; simp; omega)] at hf
      have hf2 := (Bool.or_eq_false_iff.1 hf).2
      refine ih (x.drop (nl x + 1)) (a.drop (nl x + 1)) c r hf2 (by have hxl := congrArg List.length hx; rw [List.length_append] at hxl; rw [List.length_drop]; omega) ?_ (drop_last ha) hc
      rw [hx, List.drop_append_of_le_length (by rw [← hx, e]; omega)]
theorem hasF_end (W : List Int) : ∀ (g : Nat) (x a c : List Int), hasF W g x = false → x.length < g → x = a ++ c → (a = [] ∨ a.getLast? = some 10) → (∀ y ∈ c, y ≠ 10) → tst W c = false := by
  intro g
  induction g with
  | zero => intro x a c _ h; omega
  | succ g ih =>
    intro x a c hf hlen hx ha hc
    rw [hasF] at hf
    rcases ha with rfl | ha
    · rw [List.nil_append] at hx
      subst hx
      rw [if_neg (by rw [nl_none hc]; omega)] at hf
      exact hf
    · have h1 := last_ten ha
      have e : nl x = nl a := by rw [hx]; exact nl_pre h1
      rw [if_pos (by rw [e, hx]; simp; omega)] at hf
      have hf2 := (Bool.or_eq_false_iff.1 hf).2
      refine ih (x.drop (nl x + 1)) (a.drop (nl x + 1)) c hf2 (by have hxl := congrArg List.length hx; rw [List.length_append] at hxl; rw [List.length_drop]; omega) ?_ (drop_last ha) hc
      rw [hx, List.drop_append_of_le_length (by rw [← hx, e]; omega)]

theorem tst_pre (W r : List Int) : tst W (W ++ r) = tstD r := by
  unfold tst
  rw [List.drop_left]
  have : W.isPrefixOf (W ++ r) = true := List.isPrefixOf_iff_prefix.2 (List.prefix_append W r)
  rw [this, Bool.true_and]
theorem blk_bl {l : List Int} (h : Bl l) : blk l = true := by
  unfold blk
  rw [List.all_eq_true]
  intro x hx
  rcases h x hx with rfl | rfl <;> rfl
theorem tstD_bl {l : List Int} (d : Bool) (h : Bl l) (h16 : l.length ≤ 16) : tstD ((if d then [45, 45] else []) ++ l) = true := by
  cases d with
  | true =>
    unfold tstD
    have : ([45, 45] : List Int).isPrefixOf ([45, 45] ++ l) = true := List.isPrefixOf_iff_prefix.2 (List.prefix_append _ l)
    simp only [if_true, this]
    simp [blk_bl h, h16]
  | false =>
    unfold tstD
    have : ([45, 45] : List Int).isPrefixOf l = false := by
      cases l with
      | nil => rfl
      | cons x l =>
        rcases h x (by simp) with rfl | rfl <;> rfl
    simp [this, blk_bl h, h16]
theorem strip_self {l : List Int} (h : ∀ y ∈ l, y ≠ 13) : strip l = l := by
  unfold strip
  rw [if_neg]
  intro e
  exact h 13 (List.mem_of_getLast? e) rfl
theorem strip_cr (l : List Int) : strip (l ++ [13]) = l := by
  unfold strip
  rw [if_pos (by simp)]
  simp
section
variable {W : ByteArray}
theorem cand_no (hW : Wk W) {bl : List Int} (d : Bool) (hb : Bl bl) : ∀ y ∈ strL W ++ ((if d then [45, 45] else []) ++ bl), y ≠ 10 ∧ y ≠ 13 := by
  intro y hy
  rcases List.mem_append.1 hy with h | h
  · exact hW.no y h
  · rcases List.mem_append.1 h with h | h
    · cases d
      · simp at h
      · simp at h; subst h; decide
    · rcases hb y h with rfl | rfl <;> decide
theorem pre_last {sd p : List Int} (hp : Pre p) (h : p = [] → sd = []) : (sd ++ p = [] ∨ (sd ++ p).getLast? = some 10) := by
  rcases hp with rfl | rfl | rfl
  · left; rw [h rfl]; rfl
  · right; simp
  · right; simp
theorem Wh.has (hW : Wk W) {o : Bool} {x y : List Int} {s' : St} {ev ev' : List Ev} (h : Wh W o x s' ev ev') (hno : hasW (strL W) (x ++ 10 :: y) = false) : False := by
  obtain ⟨sd, p, c, bl, d, hp, hx, hps, hbl, h16, hc, _⟩ := h
  have hcn := cand_no hW d hbl
  have hcond := pre_last hp hps
  have hxe : x ++ 10 :: y = (sd ++ p) ++ (c ++ 10 :: y) := by rw [hx]; simp
  have ht := tst_pre (strL W) ((if d then [45, 45] else []) ++ bl)
  rw [tstD_bl d hbl h16] at ht
  rcases hc with hc | hc
  · have := hasF_no (strL W) _ _ (sd ++ p) c y hno (by omega) hxe hcond (fun z hz => by rw [hc] at hz; exact (hcn z hz).1)
    rw [hc, strip_self (fun z hz => (hcn z hz).2), ht] at this
    cases this
  · have hce : c = (strL W ++ ((if d then [45, 45] else []) ++ bl)) ++ [13] := by rw [hc]; simp
    have := hasF_no (strL W) _ _ (sd ++ p) c y hno (by omega) hxe hcond (fun z hz => by
      rw [hce] at hz
      rcases List.mem_append.1 hz with h | h
      · exact (hcn z h).1
      · simp at h; subst h; decide)
    rw [hce, strip_cr, ht] at this
    cases this
theorem fds_snoc (s : St) (x : List Int) (b : Int) : fds s (x ++ [b]) = ((fd (fds s x).1 b).1, (fds s x).2 ++ (fd (fds s x).1 b).2) := by rw [fds_append]; simp [fds]
theorem part_sx (hW : Wk W) (o : Bool) {p : List Int} (hno : hasW (strL W) p = false) : ∀ k, k ≤ p.length → Sx W o (p.take k) (fds (Fr W o) (p.take k)).1 (fds (Fr W o) (p.take k)).2 := by
  intro k
  induction k with
  | zero => intro _; simpa [fds] using Sx.start W hW.pos o
  | succ k ih =>
    intro hk
    obtain ⟨b, hb⟩ : ∃ b, p[k]? = some b := ⟨_, List.getElem?_eq_getElem (by omega)⟩
    rw [take_snoc' hb, fds_snoc]
    rcases (ih (by omega)).step hW.pos b with h | ⟨h10, h⟩
    · exact h
    · exfalso
      subst h10
      refine h.has hW (y := p.drop (k + 1)) ?_
      rw [← drop_cons hb, List.take_append_drop]
      exact hno
theorem tst_cand (W : List Int) {bl : List Int} (d : Bool) (hb : Bl bl) (h16 : bl.length ≤ 16) : tst W (W ++ ((if d then [45, 45] else []) ++ bl)) = true := by rw [tst_pre]; exact tstD_bl d hb h16
theorem last_line (hW : Wk W) {p sd q bl : List Int} {d : Bool} (hno : hasW (strL W) p = false) (hp : Pre q) (hps : q = [] → sd = []) (hb : Bl bl) (h16 : bl.length ≤ 16) (hx : p = sd ++ (q ++ (strL W ++ ((if d then [45, 45] else []) ++ bl)))) : False := by
  have h1 := hasF_end (strL W) _ _ (sd ++ q) (strL W ++ ((if d then [45, 45] else []) ++ bl)) hno (by omega) (by rw [hx]; simp) (pre_last hp hps) (fun y hy => (cand_no hW d hb y hy).1)
  rw [tst_cand (strL W) d hb h16] at h1
  cases h1
theorem st_eq {s : St} {o : Bool} {h : List Int} (hw : s.want = W) (hs : s.step = .border) (ha : s.at_ = 0) (hl : s.last = false) (hh : s.hold = h) (hout : s.out = []) (ht : s.told = 0) (ho : s.opn = o) (hv : s.over = false) (he : s.ended = false) : s = { Fr W o with hold := h } := by
  cases s
  simp only at hw hs ha hl hh hout ht ho hv he
  subst hw hs ha hl hh hout ht ho hv he
  rfl
theorem fd_live {s : St} (h : s.over = false) (b : Int) : fd s b = (core (s.take b), (s.take b).out) := by unfold fd; rw [h]; rfl
theorem free_tail_cr (s : St) : (s.free.tail 13).step = .feed := by unfold St.tail; rw [if_pos rfl]
theorem Sx.cr (hW : Wk W) {o : Bool} {p : List Int} {s : St} {ev : List Ev} (h : Sx W o p s ev) (hno : hasW (strL W) p = false) : Sx W o (p ++ [13]) (fd s 13).1 (ev ++ (fd s 13).2) ∧ (fd s 13).1.step = .feed := by
  refine ⟨?_, ?_⟩
  · rcases h.step hW.pos 13 with h1 | ⟨h1, _⟩
    · exact h1
    · omega
  obtain ⟨hw, ho, hv, he, hout, htold, sd, hx, hev, hcase⟩ := h
  rw [fd_live hv]
  show (s.take 13).step = .feed
  rcases hcase with ⟨hst, hh⟩ | ⟨hst, hh⟩ | ⟨q, c, hp, hh, hps, hc⟩
  · rw [take_none hst]; unfold St.tail; rw [if_pos rfl]
  · rw [take_some (by rw [hst]; simp)]
    have hr : s.run 13 = (.wrong, s.rst) := by unfold St.run; rw [hst]; simp
    rw [hr]; exact free_tail_cr _
  · have key : s.step ≠ .none := by intro e; rw [e] at hc; cases hc
    rw [take_some key]
    generalize hstp : s.step = st at hc
    generalize hat : s.at_ = at_ at hc
    generalize hla : s.last = la at hc
    cases hc with
    | border _ hk =>
      have hb : ¬ (strL s.want)[s.at_]? = some 13 := fun e => (hW.no 13 (by rw [← hw]; exact List.mem_of_getElem? e)).2 rfl
      have hr : s.run 13 = (.wrong, s) := by unfold St.run; rw [hstp]; dsimp only; unfold St.rBorder; rw [if_neg hb]
      rw [hr]; exact free_tail_cr _
    | behind =>
      exfalso
      exact last_line hW (bl := []) (d := false) hno hp hps (fun x hx => by cases hx) (by simp) (by rw [hx, hh]; simp)
    | dash =>
      have hr : s.run 13 = (.wrong, { s with last := false, step := .blanks }) := by unfold St.run; rw [hstp]; simp
      rw [hr]; exact free_tail_cr _
    | blanks bl d hbl h16 =>
      exfalso
      exact last_line hW hno hp hps hbl h16 (by rw [hx, hh])
    | close bl k d hbl h16 =>
      have hr : s.run 13 = (.wrong, s) := by unfold St.run; rw [hstp]; simp
      rw [hr]; exact free_tail_cr _
/-- A part, and the line's end behind it. -/
theorem part_crlf (hW : Wk W) (o : Bool) {p : List Int} (hno : hasW (strL W) p = false) : fds (Fr W o) (p ++ [13, 10]) = ({ Fr W o with hold := [13, 10] }, if o then p.map Ev.by_ else []) := by
  have h1 := part_sx hW o hno p.length (Nat.le_refl _)
  rw [List.take_length] at h1
  obtain ⟨h2, h3⟩ := h1.cr hW hno
  rw [show p ++ [13, 10] = (p ++ [13]) ++ [10] by simp, fds_snoc, fds_snoc]
  generalize (fd (fds (Fr W o) p).1 13).1 = s2 at h2 h3
  generalize (fds (Fr W o) p).2 ++ (fd (fds (Fr W o) p).1 13).2 = ev2 at h2
  obtain ⟨hw, ho, hv, he, hout, htold, sd, hx, hev, hcase⟩ := h2
  have hh : s2.hold = [13] := by
    rcases hcase with ⟨e, _⟩ | ⟨_, e⟩ | ⟨q, c, _, _, _, hc⟩
    · rw [h3] at e; cases e
    · exact e
    · rw [h3] at hc; cases hc
  rw [hh] at hx
  have hsd : sd = p := (List.append_inj_left' hx rfl).symm
  subst hsd
  have hr : s2.run 10 = (.goes, s2.rst) := by unfold St.run; rw [h3]; rfl
  have ht : s2.take 10 = { s2.rst with hold := s2.rst.hold ++ [10] } := by rw [take_some (by rw [h3]; simp), hr]
  rw [fd_live hv, ht]
  refine Prod.ext ?_ ?_
  · exact st_eq hw rfl rfl rfl (by show s2.hold ++ [10] = _; rw [hh]; rfl) rfl rfl ho hv he
  · show ev2 ++ s2.out = _
    rw [hout, List.append_nil]; exact hev

/-- The boundary, behind a line's end. -/
theorem border_run (hW : Wk W) (o : Bool) (h : List Int) : ∀ k, k < (strL W).length → fds { Fr W o with hold := h } ((strL W).take k) = ({ Fr W o with hold := h ++ (strL W).take k, at_ := k }, []) := by
  intro k
  induction k with
  | zero => intro _; simp [fds, Fr, St.new]
  | succ k ih =>
    intro hk
    obtain ⟨b, hb⟩ : ∃ b, (strL W)[k]? = some b := ⟨_, List.getElem?_eq_getElem (by omega)⟩
    rw [take_snoc' hb, fds_snoc, ih (by omega), fd_live (by rfl)]
    have hr : ({ Fr W o with hold := h ++ (strL W).take k, at_ := k } : St).run b = (.goes, { Fr W o with hold := h ++ (strL W).take k, at_ := k + 1 }) := by
      show St.rBorder b { Fr W o with hold := h ++ (strL W).take k, at_ := k } = _
      unfold St.rBorder
      rw [if_pos (by exact hb), if_neg (by show ¬ k + 1 = W.size; rw [strL_length] at hk; omega)]
    have ht : ({ Fr W o with hold := h ++ (strL W).take k, at_ := k } : St).take b = { Fr W o with hold := h ++ (strL W).take k ++ [b], at_ := k + 1 } := by
      rw [take_some (by show Stp.border ≠ Stp.none; simp), hr]
    rw [ht]
    simp [core, Fr, St.new]
theorem border_all (hW : Wk W) (o : Bool) (h : List Int) : fds { Fr W o with hold := h } (strL W) = ({ Fr W o with hold := h ++ strL W, step := .behind }, []) := by
  have hl : (strL W).length = W.size := strL_length W
  have hp := hW.pos
  obtain ⟨k, hk⟩ : ∃ k, W.size = k + 1 := ⟨W.size - 1, by omega⟩
  obtain ⟨b, hb⟩ : ∃ b, (strL W)[k]? = some b := ⟨_, List.getElem?_eq_getElem (by omega)⟩
  have e : strL W = (strL W).take k ++ [b] := by rw [← take_snoc' hb, List.take_of_length_le (by omega)]
  conv => lhs; arg 2; rw [e]
  rw [fds_snoc, border_run hW o h k (by omega), fd_live (by rfl)]
  have hr : ({ Fr W o with hold := h ++ (strL W).take k, at_ := k } : St).run b = (.goes, { Fr W o with hold := h ++ (strL W).take k, step := .behind, at_ := 0 }) := by
    show St.rBorder b { Fr W o with hold := h ++ (strL W).take k, at_ := k } = _
    unfold St.rBorder
    rw [if_pos (by exact hb), if_pos (by show k + 1 = W.size; omega)]
  have ht : ({ Fr W o with hold := h ++ (strL W).take k, at_ := k } : St).take b = { Fr W o with hold := h ++ (strL W).take k ++ [b], step := .behind, at_ := 0 } := by
    rw [take_some (by show Stp.border ≠ Stp.none; simp), hr]
  rw [ht]
  have e2 : h ++ (strL W).take k ++ [b] = h ++ strL W := by rw [List.append_assoc, ← e]
  simp only [core, Fr, St.new, e2, List.append_nil]
theorem delim_go (o : Bool) (h : List Int) : fds { Fr W o with hold := h, step := .behind } [13, 10] = (Fr W true, (if o then [Ev.cl] else []) ++ [.op]) := by
  cases o <;> simp [fds, fd, St.take, St.run, St.rBlanks, St.delim, St.fresh, core, Fr, St.new]
theorem delim_end (o : Bool) (h : List Int) : fds { Fr W o with hold := h, step := .behind } [45, 45, 13, 10] = (Ov W, if o then [Ev.cl] else []) := by
  cases o <;> simp [fds, fd, St.take, St.run, St.rBlanks, St.delim, St.fresh, core, Fr, Ov, St.new]
theorem border_go (hW : Wk W) (o : Bool) (h : List Int) : fds { Fr W o with hold := h } (strL W ++ [13, 10]) = (Fr W true, (if o then [Ev.cl] else []) ++ [.op]) := by
  rw [fds_append, border_all hW, delim_go]; simp
theorem border_end (hW : Wk W) (o : Bool) (h : List Int) : fds { Fr W o with hold := h } (strL W ++ [45, 45, 13, 10]) = (Ov W, if o then [Ev.cl] else []) := by
  rw [fds_append, border_all hW, delim_end]; simp
theorem over_run : ∀ (l : List Int), fds (Ov W) l = (Ov W, []) := by
  intro l
  induction l with
  | nil => rfl
  | cons b l ih =>
    have e : fd (Ov W) b = (Ov W, []) := rfl
    simp [fds, e, ih]
theorem by_fold : ∀ (l : List Int) (ps : List (List Int)) (x : List Int), (l.map Ev.by_).foldl addEv (ps ++ [x]) = ps ++ [x ++ l] := by
  intro l
  induction l with
  | nil => intro ps x; simp
  | cons b l ih =>
    intro ps x
    have e : addEv (ps ++ [x]) (.by_ b) = ps ++ [x ++ [b]] := by
      simp only [addEv, List.length_append, List.length_singleton, Nat.add_sub_cancel]
      rw [List.getD_eq_getElem?_getD]
      simp
    rw [List.map_cons, List.foldl_cons, e, ih]
    simp
/-- An open part p, and what stands behind it. -/
def tailw (W p : List Int) (rest : List (List Int)) : List Int := p ++ [13, 10] ++ (wbody W rest ++ (W ++ [45, 45, 13, 10]))
theorem tail_run (hW : Wk W) : ∀ (rest : List (List Int)) (p : List Int) (ps : List (List Int)), hasW (strL W) p = false → (∀ q ∈ rest, hasW (strL W) q = false) →
    (fds (Fr W true) (tailw (strL W) p rest)).1 = Ov W ∧ ((fds (Fr W true) (tailw (strL W) p rest)).2).foldl addEv (ps ++ [[]]) = ps ++ (p :: rest) := by
  intro rest
  induction rest with
  | nil =>
    intro p ps hp _
    unfold tailw
    rw [fds_append, part_crlf hW true hp]
    show (fds { Fr W true with hold := [13, 10] } ([] ++ (strL W ++ [45, 45, 13, 10]))).1 = _ ∧ _
    rw [List.nil_append, border_end hW]
    refine ⟨rfl, ?_⟩
    dsimp only
    rw [show wbody (strL W) [] ++ (strL W ++ [45, 45, 13, 10]) = strL W ++ [45, 45, 13, 10] from rfl, border_end hW, List.foldl_append]
    simp only [if_true]
    rw [by_fold]
    simp [addEv]
  | cons q rest ih =>
    intro p ps hp hr
    have hq := hr q (by simp)
    have h2 := ih q (ps ++ [p]) hq (fun z hz => hr z (List.mem_cons_of_mem _ hz))
    have e : tailw (strL W) p (q :: rest) = (p ++ [13, 10]) ++ ((strL W ++ [13, 10]) ++ tailw (strL W) q rest) := by simp [tailw, wbody, wsep]
    rw [e, fds_append, part_crlf hW true hp]
    dsimp only
    rw [fds_append, border_go hW]
    dsimp only
    refine ⟨h2.1, ?_⟩
    rw [List.foldl_append, List.foldl_append]
    simp only [if_true]
    rw [by_fold]
    have e3 : ([Ev.cl] ++ [Ev.op]).foldl addEv (ps ++ [[] ++ p]) = ps ++ [p] ++ [[]] := by simp [addEv]
    rw [e3, h2.2]
    simp
theorem wall_run (hW : Wk W) (h : List Int) (ls : List (List Int)) (hls : ∀ q ∈ ls, hasW (strL W) q = false) : (fds { Fr W false with hold := h } (wall (strL W) ls)).1 = Ov W ∧ ((fds { Fr W false with hold := h } (wall (strL W) ls)).2).foldl addEv [] = ls := by
  cases ls with
  | nil =>
    rw [show wall (strL W) [] = strL W ++ [45, 45, 13, 10] from rfl, border_end hW]
    exact ⟨rfl, rfl⟩
  | cons p rest =>
    have e : wall (strL W) (p :: rest) = (strL W ++ [13, 10]) ++ tailw (strL W) p rest := by simp [wall, tailw, wbody, wsep]
    rw [e, fds_append, border_go hW]
    dsimp only
    have h2 := tail_run hW rest p [] (hls p (by simp)) (fun z hz => hls z (List.mem_cons_of_mem _ hz))
    refine ⟨h2.1, ?_⟩
    rw [List.foldl_append]
    exact h2.2
/-- The machine's fold, by its cores. -/
theorem fold_fds : ∀ (l : List Int) (x : St × List (List Int)), x.1.ended = false → x.1.told = x.1.out.length →
    core (l.foldl stepB x).1 = (fds (core x.1) l).1 ∧ (l.foldl stepB x).2 = ((fds (core x.1) l).2).foldl addEv x.2 ∧ (l.foldl stepB x).1.ended = false ∧ (l.foldl stepB x).1.told = (l.foldl stepB x).1.out.length := by
  intro l
  induction l with
  | nil => intro x he ht; exact ⟨rfl, rfl, he, ht⟩
  | cons b l ih =>
    intro x he ht
    have hp := put_eq b he ht
    have h1 : (stepB x b).1.ended = false := by
      show (x.1.put b).2.drain.ended = false
      rw [hp]
      split
      · exact he
      · show (St.take b { x.1 with out := [], told := 0 }).ended = false
        rw [(take_told _ _).2]; exact he
    have h2 : core (stepB x b).1 = (fd (core x.1) b).1 ∧ (stepB x b).2 = ((fd (core x.1) b).2).foldl addEv x.2 := by
      show core ((x.1.put b).2.drain) = _ ∧ (x.1.put b).2.out.foldl addEv x.2 = _
      rw [hp]
      unfold fd
      rw [show (core x.1).over = x.1.over from rfl]
      by_cases hov : x.1.over = true
      · rw [if_pos hov, if_pos hov]; exact ⟨rfl, rfl⟩
      · rw [if_neg hov, if_neg hov]; exact ⟨rfl, rfl⟩
    have h3 := ih (stepB x b) h1 rfl
    rw [List.foldl_cons]
    refine ⟨?_, ?_, h3.2.2⟩
    · rw [h3.1, h2.1]; rfl
    · rw [h3.2.1, h2.1, h2.2]
      simp [fds, List.foldl_append]
theorem whole_of_over {l : List Int} (h : (fds (St.new W) l).1 = Ov W) : (whole W l).2 = ((fds (St.new W) l).2).foldl addEv [] ∧ (whole W l).1.reason = 0 := by
  obtain ⟨h1, h2, h3, h4⟩ := fold_fds l (St.new W, []) rfl rfl
  rw [show core (St.new W) = St.new W from rfl] at h1 h2
  have hov : (runB W l).1.over = true := by
    have : (core (runB W l).1).over = true := by
      show (core (l.foldl stepB (St.new W, [])).1).over = true
      rw [h1, h]; rfl
    exact this
  have hf : (runB W l).1.fin8 = (runB W l).1.e1 := by
    unfold St.fin8
    rw [if_neg (by rw [show (runB W l).1.ended = false from h3, show (runB W l).1.told = (runB W l).1.out.length from h4]; simp), if_pos hov]
  have hw : whole W l = stepE (runB W l) := rfl
  rw [hw]
  unfold stepE
  rw [hf]
  refine ⟨h2, ?_⟩
  show St.reason (runB W l).1.e1.drain = 0
  unfold St.reason
  rw [if_pos (by rw [show (runB W l).1.e1.drain.over = (runB W l).1.over from rfl, hov]; simp)]
end
end Go.Proofs.Ytmalacamfjdimaa.Pt
