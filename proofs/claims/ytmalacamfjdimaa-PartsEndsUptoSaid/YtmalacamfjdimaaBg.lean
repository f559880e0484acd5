/- What a beginning of parts that were written is cut into, at every place (plain). -/
import Derived.Test.YtmalacamfjdimaaBf
namespace Go.Proofs.Ytmalacamfjdimaa.Pt
open Go.RowKit Go.Proofs.Ytmalacamfjdimaa.W

section
variable {W : ByteArray}
theorem delim_cr (o : Bool) (h : List Int) : ∃ s, fds { Fr W o with hold := h, step := .behind } [13] = (s, []) ∧ s.over = false ∧ s.opn = o ∧ s.step = .close ∧ s.hold = h ++ [13] :=
  ⟨_, by simp only [fds]; rfl, rfl, rfl, rfl, rfl⟩
theorem delim_dash (o : Bool) (h : List Int) : ∃ s, fds { Fr W o with hold := h, step := .behind } [45] = (s, []) ∧ s.over = false ∧ s.opn = o ∧ s.step = .dash ∧ s.hold = h ++ [45] :=
  ⟨_, by simp only [fds]; rfl, rfl, rfl, rfl, rfl⟩
theorem delim_dash2 (o : Bool) (h : List Int) : ∃ s, fds { Fr W o with hold := h, step := .behind } [45, 45] = (s, []) ∧ s.over = false ∧ s.opn = o ∧ s.step = .blanks ∧ s.last = true :=
  ⟨_, by simp only [fds]; rfl, rfl, rfl, rfl, rfl⟩
theorem delim_dash3 (o : Bool) (h : List Int) : ∃ s, fds { Fr W o with hold := h, step := .behind } [45, 45, 13] = (s, []) ∧ s.over = false ∧ s.opn = o ∧ s.step = .close ∧ s.hold = h ++ [45, 45, 13] :=
  ⟨_, by simp only [fds]; rfl, rfl, rfl, rfl, by simp [fds, fd, St.take, St.run, St.rBlanks, St.delim, St.fresh, core, Fr, St.new]⟩
theorem take_add' (a b : List Int) (j : Nat) : (a ++ b).take (a.length + j) = a ++ b.take j := by
  rw [List.take_append, List.take_of_length_le (by omega)]
  congr 2
  omega

/-- What a beginning comes to. -/
inductive Cut (ps : List (List Int)) (ls : List (List Int)) (y : List Int) (k : Nat) (off : Nat → Nat) (r : List (List Int)) (why : Int) : Prop
  | begun (i : Nat) (hi : i < ls.length) (ho : off i ≤ k) (hr : r = ps ++ ls.take i ++ [(y.take k).drop (off i)]) (hw : why = 33) (hk : k + 2 ≠ y.length)
  | new (i : Nat) (hi : i ≤ ls.length) (ho : off i ≤ k + 2) (hr : r = ps ++ ls.take i ++ [[]]) (hw : why = 33) (hk : k + 2 ≠ y.length)
  | all (hr : r = ps ++ ls) (hw : why = 0) (hk : k + 2 = y.length)
theorem bytes_take {B y : List Int} (h : Bytes (B ++ y)) (k : Nat) : Bytes (B ++ y.take k) := fun z hz => by
  rcases List.mem_append.1 hz with h1 | h1
  · exact h z (List.mem_append.2 (.inl h1))
  · exact h z (List.mem_append.2 (.inr (List.mem_of_mem_take h1)))
theorem take3 (a b c U : List Int) (j : Nat) : (a ++ (b ++ (c ++ U))).take (a.length + (b.length + (c.length + j))) = a ++ (b ++ (c ++ U.take j)) := by rw [take_add', take_add', take_add']
theorem at_border (hW : Wk W) {B0 p X : List Int} {ev0 ev : List Ev} {s : St} (hf : fds (St.new W) B0 = (Fr W true, ev0)) (hno : hasW (strL W) p = false) (h : fds { Fr W true with hold := [13, 10] } X = (s, ev)) :
    fds (St.new W) (B0 ++ (p ++ ([13, 10] ++ X))) = (s, ev0 ++ (p.map Ev.by_ ++ ev)) := by
  rw [show p ++ ([13, 10] ++ X) = (p ++ [13, 10]) ++ X by simp, fds_append, hf]
  dsimp only
  rw [fds_append, part_crlf hW true hno]
  dsimp only
  rw [h]
  rfl
theorem at_fold {p : List Int} {ev0 ev : List Ev} {ps : List (List Int)} (hev : ev0.foldl addEv [] = ps ++ [[]]) : (ev0 ++ (p.map Ev.by_ ++ ev)).foldl addEv [] = ev.foldl addEv (ps ++ [p]) := by
  rw [List.foldl_append, hev, List.foldl_append, by_fold, List.nil_append]
theorem at_behind (hW : Wk W) (o : Bool) (h V : List Int) {ev : List Ev} {s : St} (hs : fds { Fr W o with hold := h ++ strL W, step := .behind } V = (s, ev)) : fds { Fr W o with hold := h } (strL W ++ V) = (s, ev) := by
  rw [fds_append, border_all hW]
  dsimp only
  rw [hs]
  rfl
/-- As far as the delimiter's border. -/
theorem head_cut (hW : Wk W) {B0 p U : List Int} {ev0 : List Ev} {ps rest : List (List Int)} {k : Nat} (hf : fds (St.new W) B0 = (Fr W true, ev0)) (hev : ev0.foldl addEv [] = ps ++ [[]]) (hno : hasW (strL W) p = false) (hin : ¬ strL W <:+: p) (hU : 4 ≤ U.length) (hk : k ≤ p.length + (2 + (strL W).length))
    (hB : Bytes (B0 ++ (p ++ ([13, 10] ++ (strL W ++ U))))) :
    Cut ps (p :: rest) (p ++ ([13, 10] ++ (strL W ++ U))) k (offT (strL W).length (p :: rest)) (whole W (B0 ++ (p ++ ([13, 10] ++ (strL W ++ U))).take k)).2 (whole W (B0 ++ (p ++ ([13, 10] ++ (strL W ++ U))).take k)).1.reason := by
  have hB2 := bytes_take hB k
  have hl : (p ++ ([13, 10] ++ (strL W ++ U))).length = p.length + (2 + ((strL W).length + U.length)) := by simp; omega
  have hne : k + 2 ≠ (p ++ ([13, 10] ++ (strL W ++ U))).length := by rw [hl]; omega
  have fin : ∀ z, (p ++ ([13, 10] ++ (strL W ++ U))).take k = z → ((whole W (B0 ++ z)).2 = ps ++ [z] ∧ (whole W (B0 ++ z)).1.reason = 33) → Cut ps (p :: rest) (p ++ ([13, 10] ++ (strL W ++ U))) k (offT (strL W).length (p :: rest)) (whole W (B0 ++ (p ++ ([13, 10] ++ (strL W ++ U))).take k)).2 (whole W (B0 ++ (p ++ ([13, 10] ++ (strL W ++ U))).take k)).1.reason := by
    intro z hz h
    refine .begun 0 (by simp) (by simp [offT]) ?_ ?_ hne
    · rw [hz, h.1]; simp [offT]
    · rw [hz, h.2]
  rcases Nat.lt_or_ge p.length k with h | h
  · obtain ⟨j, rfl⟩ : ∃ j, k = p.length + (1 + j) := ⟨k - p.length - 1, by omega⟩
    cases j with
    | zero =>
      have ht : (p ++ ([13, 10] ++ (strL W ++ U))).take (p.length + (1 + 0)) = p ++ [13] := by rw [take_add']; rfl
      rw [ht] at hB2
      have h1 := part_sx hW true hno p.length (Nat.le_refl _)
      rw [List.take_length] at h1
      obtain ⟨h2, h3⟩ := h1.cr hW hno
      have hff : fds (St.new W) (B0 ++ (p ++ [13])) = ((fd (fds (Fr W true) p).1 13).1, ev0 ++ ((fds (Fr W true) p).2 ++ (fd (fds (Fr W true) p).1 13).2)) := by
        rw [fds_append, hf]
        dsimp only
        rw [fds_snoc]
      generalize (fd (fds (Fr W true) p).1 13).1 = s2 at h2 h3 hff
      generalize (fds (Fr W true) p).2 ++ (fd (fds (Fr W true) p).1 13).2 = ev2 at h2 hff
      obtain ⟨hw, ho, hv, he, hout, htold, sd, hx, hevs, _⟩ := h2
      exact fin _ ht (cut_said hW (a := sd) hB2 hff hv ho ⟨by rw [h3]; simp, by rw [h3]; simp⟩ (by rw [List.foldl_append, hev, hevs, if_pos rfl, by_fold, List.nil_append]) hx.symm)
    | succ j =>
      have ht : (p ++ ([13, 10] ++ (strL W ++ U))).take (p.length + (1 + (j + 1))) = p ++ ([13, 10] ++ (strL W ++ U).take j) := by
        rw [take_add', show 1 + (j + 1) = ([13, 10] : List Int).length + j by simp; omega, take_add']
      rcases Nat.lt_or_ge j (strL W).length with hj | hj
      · rw [show (strL W ++ U).take j = (strL W).take j from List.take_append_of_le_length (by omega)] at ht
        rw [ht] at hB2
        have hff := at_border hW hf hno (border_run hW true [13, 10] j hj)
        refine fin _ ht (cut_said hW (a := p) hB2 hff rfl rfl ⟨by simp [Fr, St.new], by simp [Fr, St.new]⟩ (by rw [at_fold hev]; rfl) ?_)
        rfl
      · obtain rfl : j = (strL W).length := by omega
        rw [List.take_left] at ht
        rw [ht] at hB2
        have hff := at_border hW hf hno (border_all hW true [13, 10])
        have hr := res_delim hW hB2 hff rfl (.inl rfl)
        rw [if_neg (by simp [Fr, St.new]), if_neg (by simp [Fr, St.new]), at_fold hev] at hr
        refine .new 1 (by simp) (by simp [offT]; omega) ?_ ?_ hne
        · rw [ht, hr.1]; simp
        · rw [ht, hr.2]
  · have ht : (p ++ ([13, 10] ++ (strL W ++ U))).take k = p.take k := by rw [List.take_append_of_le_length (by omega)]
    rw [ht] at hB2
    exact fin _ ht (cut_in hW hf hev hno hin h hB2)
theorem tail_cut (hW : Wk W) : ∀ (rest : List (List Int)) (p : List Int) (ps : List (List Int)) (B0 : List Int) (ev0 : List Ev) (k : Nat), fds (St.new W) B0 = (Fr W true, ev0) → ev0.foldl addEv [] = ps ++ [[]] →
    (∀ q ∈ p :: rest, hasW (strL W) q = false ∧ ¬ strL W <:+: q) → k < (tailw (strL W) p rest).length → Bytes (B0 ++ tailw (strL W) p rest) →
    Cut ps (p :: rest) (tailw (strL W) p rest) k (offT (strL W).length (p :: rest)) (whole W (B0 ++ (tailw (strL W) p rest).take k)).2 (whole W (B0 ++ (tailw (strL W) p rest).take k)).1.reason := by
  intro rest
  induction rest with
  | nil =>
    intro p ps B0 ev0 k hf hev hno hk hB
    obtain ⟨hn1, hn2⟩ := hno p (by simp)
    have hy : tailw (strL W) p [] = p ++ ([13, 10] ++ (strL W ++ [45, 45, 13, 10])) := by simp [tailw, wbody]
    rw [hy] at hk hB ⊢
    rcases Nat.lt_or_ge (p.length + (2 + (strL W).length)) k with h | h
    · obtain ⟨j, rfl⟩ : ∃ j, k = p.length + (([13, 10] : List Int).length + ((strL W).length + (j + 1))) := ⟨k - (p.length + (2 + (strL W).length)) - 1, by simp; omega⟩
      have hB2 := bytes_take hB (p.length + (([13, 10] : List Int).length + ((strL W).length + (j + 1))))
      have hl : (p ++ ([13, 10] ++ (strL W ++ [45, 45, 13, 10]))).length = p.length + (2 + ((strL W).length + 4)) := by simp; omega
      have h2l : ([13, 10] : List Int).length = 2 := rfl
      have ht := take3 p [13, 10] (strL W) [45, 45, 13, 10] (j + 1)
      have hj : j = 0 ∨ j = 1 ∨ j = 2 := by omega
      rw [ht] at hB2
      rcases hj with rfl | rfl | rfl
      · obtain ⟨s, hs, s1, s2, s3, s4⟩ := delim_dash (W := W) true ([13, 10] ++ strL W)
        have hff := at_border hW hf hn1 (at_behind hW true [13, 10] _ hs)
        have hr := cut_said hW (a := p) (z := p ++ ([13, 10] ++ (strL W ++ [45]))) hB2 hff s1 s2 ⟨by rw [s3]; simp, by rw [s3]; simp⟩ (by rw [at_fold hev]; rfl) (by rw [s4]; simp)
        refine .begun 0 (by simp) (by simp [offT]) ?_ ?_ (by rw [hl]; omega)
        · rw [ht]; refine hr.1.trans ?_; simp [offT]
        · rw [ht]; exact hr.2
      · obtain ⟨s, hs, s1, s2, s3, s4⟩ := delim_dash2 (W := W) true ([13, 10] ++ strL W)
        have hff := at_border hW hf hn1 (at_behind hW true [13, 10] _ hs)
        have hr := res_delim hW hB2 hff s1 (.inr s3)
        rw [if_pos s4, if_pos s4, at_fold hev] at hr
        refine .all ?_ ?_ (by rw [hl]; omega)
        · rw [ht]; exact hr.1
        · rw [ht]; exact hr.2
      · obtain ⟨s, hs, s1, s2, s3, s4⟩ := delim_dash3 (W := W) true ([13, 10] ++ strL W)
        have hff := at_border hW hf hn1 (at_behind hW true [13, 10] _ hs)
        have hr := cut_said hW (a := p) (z := p ++ ([13, 10] ++ (strL W ++ [45, 45, 13]))) hB2 hff s1 s2 ⟨by rw [s3]; simp, by rw [s3]; simp⟩ (by rw [at_fold hev]; rfl) (by rw [s4]; simp)
        refine .begun 0 (by simp) (by simp [offT]) ?_ ?_ (by rw [hl]; omega)
        · rw [ht]; refine hr.1.trans ?_; simp [offT]
        · rw [ht]; exact hr.2
    · exact head_cut hW hf hev hn1 hn2 (by simp) h hB
  | cons q rest ih =>
    intro p ps B0 ev0 k hf hev hno hk hB
    obtain ⟨hn1, hn2⟩ := hno p (by simp)
    have hy : tailw (strL W) p (q :: rest) = p ++ ([13, 10] ++ (strL W ++ ([13, 10] ++ tailw (strL W) q rest))) := by simp [tailw, wbody, wsep]
    have htl : 4 ≤ (tailw (strL W) q rest).length := by simp [tailw]; omega
    rw [hy] at hk hB ⊢
    rcases Nat.lt_or_ge (p.length + (2 + (strL W).length)) k with h | h
    · obtain ⟨j, rfl⟩ : ∃ j, k = p.length + (([13, 10] : List Int).length + ((strL W).length + (1 + j))) := ⟨k - (p.length + (2 + (strL W).length)) - 1, by simp; omega⟩
      have hB2 := bytes_take hB (p.length + (([13, 10] : List Int).length + ((strL W).length + (1 + j))))
      have hl : (p ++ ([13, 10] ++ (strL W ++ ([13, 10] ++ tailw (strL W) q rest)))).length = p.length + (2 + ((strL W).length + (2 + (tailw (strL W) q rest).length))) := by simp; omega
      have h2l : ([13, 10] : List Int).length = 2 := rfl
      have ht := take3 p [13, 10] (strL W) ([13, 10] ++ tailw (strL W) q rest) (1 + j)
      rw [ht] at hB2
      cases j with
      | zero =>
        obtain ⟨s, hs, s1, s2, s3, s4⟩ := delim_cr (W := W) true ([13, 10] ++ strL W)
        have hff := at_border hW hf hn1 (at_behind hW true [13, 10] _ hs)
        have hr := cut_said hW (a := p) (z := p ++ ([13, 10] ++ (strL W ++ [13]))) hB2 hff s1 s2 ⟨by rw [s3]; simp, by rw [s3]; simp⟩ (by rw [at_fold hev]; rfl) (by rw [s4]; simp)
        refine .begun 0 (by simp) (by simp [offT]) ?_ ?_ (by rw [hl]; omega)
        · rw [ht]; refine hr.1.trans ?_; simp [offT]
        · rw [ht]; exact hr.2
      | succ j =>
        have ht2 : ([13, 10] ++ tailw (strL W) q rest).take (1 + (j + 1)) = [13, 10] ++ (tailw (strL W) q rest).take j := by rw [show 1 + (j + 1) = ([13, 10] : List Int).length + j by simp; omega, take_add']
        have hff := at_border hW hf hn1 (at_behind hW true [13, 10] _ (delim_go true ([13, 10] ++ strL W)))
        have hfold : (ev0 ++ (p.map Ev.by_ ++ ((if true = true then [Ev.cl] else []) ++ [Ev.op]))).foldl addEv [] = (ps ++ [p]) ++ [[]] := by rw [at_fold hev]; rfl
        have e1 : ∀ T, B0 ++ (p ++ ([13, 10] ++ (strL W ++ ([13, 10] ++ T)))) = (B0 ++ (p ++ ([13, 10] ++ (strL W ++ [13, 10])))) ++ T := fun T => by simp
        have e2 : ∀ T, p ++ ([13, 10] ++ (strL W ++ ([13, 10] ++ T))) = (p ++ ([13, 10] ++ (strL W ++ [13, 10]))) ++ T := fun T => by simp
        have e3 : (p ++ ([13, 10] ++ (strL W ++ [13, 10]))).length = p.length + 4 + (strL W).length := by simp; omega
        have hc := ih q (ps ++ [p]) (B0 ++ (p ++ ([13, 10] ++ (strL W ++ [13, 10])))) _ j hff hfold (fun x hx => hno x (List.mem_cons_of_mem _ hx)) (by omega) (by rw [← e1]; exact hB)
        rw [← e1] at hc
        rw [ht2] at ht
        rw [ht]
        have ht3 := ht
        rw [e2 ((tailw (strL W) q rest).take j)] at ht3
        rcases hc with ⟨i, hi, ho, hr, hw, hne⟩ | ⟨i, hi, ho, hr, hw, hne⟩ | ⟨hr, hw, hne⟩
        · refine .begun (i + 1) (by simpa using hi) (by simp only [offT]; omega) ?_ hw (by rw [hl]; omega)
          rw [ht3, hr]
          simp only [offT]
          rw [← e3, ← List.drop_drop, List.drop_left]
          simp
        · refine .new (i + 1) (by simpa using hi) (by simp only [offT]; omega) ?_ hw (by rw [hl]; omega)
          rw [hr]
          simp
        · refine .all ?_ hw (by rw [hl]; omega)
          rw [hr]
          simp
    · exact head_cut hW hf hev hn1 hn2 (by simp; omega) h hB
theorem res_none (hW : Wk W) {B : List Int} (hB : Bytes B) {s : St} (hf : fds (St.new W) B = (s, [])) (hov : s.over = false) (hop : s.opn = false) (hst : s.step ≠ .behind ∧ s.step ≠ .blanks) : (whole W B).2 = [] ∧ (whole W B).1.reason = 33 := by
  have hr := res_free hW hB hf hov hst
  rw [hop] at hr
  exact ⟨by rw [hr.1]; rfl, hr.2⟩
def offW (n : Nat) (ls : List (List Int)) (i : Nat) : Nat := n + 2 + offT n ls i
theorem wall_cut (hW : Wk W) (ls : List (List Int)) (k : Nat) (hno : ∀ q ∈ ls, hasW (strL W) q = false ∧ ¬ strL W <:+: q) (hk : k < (wall (strL W) ls).length) (hB : Bytes (wall (strL W) ls)) :
    ((whole W ((wall (strL W) ls).take k)).2 = [] ∧ (whole W ((wall (strL W) ls).take k)).1.reason = 33 ∧ k + 2 ≠ (wall (strL W) ls).length) ∨
    Cut [] ls (wall (strL W) ls) k (offW (strL W).length ls) (whole W ((wall (strL W) ls).take k)).2 (whole W ((wall (strL W) ls).take k)).1.reason := by
  have hFr : ({ Fr W false with hold := [] } : St) = St.new W := rfl
  obtain ⟨U, hx, hU⟩ : ∃ U, wall (strL W) ls = strL W ++ U ∧ 4 ≤ U.length := by
    cases ls with
    | nil => exact ⟨[45, 45, 13, 10], rfl, by simp⟩
    | cons p rest => exact ⟨[13, 10] ++ tailw (strL W) p rest, by simp [wall, tailw, wbody, wsep], by simp [tailw]; omega⟩
  have hB2 : Bytes ((wall (strL W) ls).take k) := fun z hz => hB z (List.mem_of_mem_take hz)
  have hl : (wall (strL W) ls).length = (strL W).length + U.length := by rw [hx]; simp
  rcases Nat.lt_or_ge k (strL W).length with h | h
  · left
    have ht : (wall (strL W) ls).take k = (strL W).take k := by rw [hx, List.take_append_of_le_length (by omega)]
    rw [ht] at hB2 ⊢
    have hf := border_run hW false [] k h
    rw [hFr] at hf
    have hr := res_none hW hB2 hf rfl rfl ⟨by simp [Fr, St.new], by simp [Fr, St.new]⟩
    exact ⟨hr.1, hr.2, by omega⟩
  · obtain ⟨j, rfl⟩ : ∃ j, k = (strL W).length + j := ⟨k - (strL W).length, by omega⟩
    have ht : (wall (strL W) ls).take ((strL W).length + j) = strL W ++ U.take j := by rw [hx, take_add']
    rw [ht] at hB2 ⊢
    cases j with
    | zero =>
      right
      rw [List.take_zero, List.append_nil] at hB2 ⊢
      have hf := border_all hW false []
      rw [hFr] at hf
      have hr := res_delim hW hB2 hf rfl (.inl rfl)
      rw [if_neg (by simp [Fr, St.new]), if_neg (by simp [Fr, St.new])] at hr
      refine .new 0 (Nat.zero_le _) (by simp [offW, offT]) ?_ ?_ (by omega)
      · rw [hr.1]; rfl
      · rw [hr.2]
    | succ j =>
      cases ls with
      | nil =>
        have hU4 : U = [45, 45, 13, 10] := List.append_cancel_left (hx.symm.trans rfl)
        subst hU4
        have hj : j = 0 ∨ j = 1 ∨ j = 2 := by simp at hl; omega
        rcases hj with rfl | rfl | rfl
        · left
          obtain ⟨s, hs, s1, s2, s3, s4⟩ := delim_dash (W := W) false ([] ++ strL W)
          have hf := at_behind hW false [] _ hs
          rw [hFr] at hf
          have hr := res_none hW hB2 hf s1 s2 ⟨by rw [s3]; simp, by rw [s3]; simp⟩
          exact ⟨hr.1, hr.2, by simp at hl; omega⟩
        · right
          obtain ⟨s, hs, s1, s2, s3, s4⟩ := delim_dash2 (W := W) false ([] ++ strL W)
          have hf := at_behind hW false [] _ hs
          rw [hFr] at hf
          have hr := res_delim hW hB2 hf s1 (.inr s3)
          rw [if_pos s4, if_pos s4] at hr
          exact .all (by rw [hr.1]; rfl) hr.2 (by simp at hl; omega)
        · left
          obtain ⟨s, hs, s1, s2, s3, s4⟩ := delim_dash3 (W := W) false ([] ++ strL W)
          have hf := at_behind hW false [] _ hs
          rw [hFr] at hf
          have hr := res_none hW hB2 hf s1 s2 ⟨by rw [s3]; simp, by rw [s3]; simp⟩
          exact ⟨hr.1, hr.2, by simp at hl; omega⟩
      | cons p rest =>
        have hU4 : U = [13, 10] ++ tailw (strL W) p rest := List.append_cancel_left (hx.symm.trans (by simp [wall, tailw, wbody, wsep]))
        subst hU4
        have htl : 4 ≤ (tailw (strL W) p rest).length := by simp [tailw]; omega
        have hl2 : ([13, 10] ++ tailw (strL W) p rest).length = 2 + (tailw (strL W) p rest).length := by simp; omega
        cases j with
        | zero =>
          left
          obtain ⟨s, hs, s1, s2, s3, s4⟩ := delim_cr (W := W) false ([] ++ strL W)
          have hf := at_behind hW false [] _ hs
          rw [hFr] at hf
          have hr := res_none hW hB2 hf s1 s2 ⟨by rw [s3]; simp, by rw [s3]; simp⟩
          exact ⟨hr.1, hr.2, by omega⟩
        | succ j =>
          right
          have ht2 : ([13, 10] ++ tailw (strL W) p rest).take (j + 1 + 1) = [13, 10] ++ (tailw (strL W) p rest).take j := rfl
          have e1 : ∀ T, strL W ++ ([13, 10] ++ T) = (strL W ++ [13, 10]) ++ T := fun T => by simp
          have hf := border_go hW false []
          rw [hFr] at hf
          have hc := tail_cut hW rest p [] (strL W ++ [13, 10]) _ j hf rfl hno (by omega) (by rw [← e1, ← hx]; exact hB)
          rw [← e1] at hc
          rw [ht2] at ht ⊢
          have e3 : (strL W ++ [13, 10]).length = (strL W).length + 2 := by simp
          rw [e1 ((tailw (strL W) p rest).take j)] at ht
          rcases hc with ⟨i, hi, ho, hr, hw, hne⟩ | ⟨i, hi, ho, hr, hw, hne⟩ | ⟨hr, hw, hne⟩
          · refine .begun i hi (by simp only [offW]; omega) ?_ hw (by rw [hl]; omega)
            rw [ht, hr]
            simp only [offW]
            rw [← e3, ← List.drop_drop, List.drop_left]
          · exact .new i hi (by simp only [offW]; omega) hr hw (by rw [hl]; omega)
          · exact .all hr hw (by rw [hl]; omega)
end
end Go.Proofs.Ytmalacamfjdimaa.Pt
