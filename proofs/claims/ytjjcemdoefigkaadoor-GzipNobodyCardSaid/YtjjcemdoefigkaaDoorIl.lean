/- The making of a table: what New makes. -/
import Derived.Test.YtjjcemdoefigkaaDoorIk
import Derived.StillTailTactics
import Derived.Carry
namespace Go.Proofs.YtjjcemdoefigkaaDoor.Hf
set_option linter.unusedVariables false
set_option linter.unusedSimpArgs false
open Go.RowKit Go.Proofs.YtjjcemdoefigkaaDoor.W

/-- A table's cells. -/
def tabC (cv mv : Value) (F C : List Nat) : List Value := cv :: mv :: (ints F ++ ints C)
theorem ints_length (l : List Nat) : (ints l).length = l.length := by simp [ints]
theorem ints_get {l : List Nat} {i n : Nat} (h : l[i]? = some n) : (ints l)[i]? = some (.int .i64 (n : Nat)) := by simp [ints, h]
theorem ints_set (l : List Nat) (i n : Nat) : (ints l).set i (.int .i64 (n : Nat)) = ints (l.set i n) := by simp [ints, List.map_set]
theorem tabC_F {cv mv : Value} {F C : List Nat} {i n : Nat} (h : F[i]? = some n) : (tabC cv mv F C)[2 + i]? = some (.int .i64 (n : Nat)) := by
  unfold tabC
  rw [show 2 + i = i + 1 + 1 by omega, List.getElem?_cons_succ, List.getElem?_cons_succ, List.getElem?_append_left (by rw [ints_length]; exact (List.getElem?_eq_some_iff.1 h).1)]
  exact ints_get h
theorem tabC_C {cv mv : Value} {F C : List Nat} (hF : F.length = 17) {i n : Nat} (h : C[i]? = some n) : (tabC cv mv F C)[19 + i]? = some (.int .i64 (n : Nat)) := by
  unfold tabC
  rw [show 19 + i = 17 + i + 1 + 1 by omega, List.getElem?_cons_succ, List.getElem?_cons_succ, List.getElem?_append_right (by rw [ints_length]; omega), ints_length, hF, Nat.add_sub_cancel_left]
  exact ints_get h
theorem tabC_setF {cv mv : Value} {F C : List Nat} {i n : Nat} (h : i < F.length) : (tabC cv mv F C).toArray.setIfInBounds (2 + i) (.int .i64 (n : Nat)) = (tabC cv mv (F.set i n) C).toArray := by
  rw [List.setIfInBounds_toArray]
  congr 1
  unfold tabC
  rw [show 2 + i = i + 1 + 1 by omega, List.set_cons_succ, List.set_cons_succ, List.set_append_left _ _ (by rw [ints_length]; exact h), ints_set]
theorem tabC_setC {cv mv : Value} {F C : List Nat} (hF : F.length = 17) {i n : Nat} : (tabC cv mv F C).toArray.setIfInBounds (19 + i) (.int .i64 (n : Nat)) = (tabC cv mv F (C.set i n)).toArray := by
  rw [List.setIfInBounds_toArray]
  congr 1
  unfold tabC
  rw [show 19 + i = 17 + i + 1 + 1 by omega, List.set_cons_succ, List.set_cons_succ, List.set_append_right _ _ (by rw [ints_length]; omega), ints_length, hF, Nat.add_sub_cancel_left, ints_set]
def z17 : List Nat := List.replicate 17 0
theorem codeE : Tryd.prog.underlying 79 = some (.slice 84) := by kernel_rfl
theorem codeI : (Tryd.prog.info? 84).map (fun i => (i.zero, i.size, i.bytes)) = some (some (.agg #[.int .i64 0, .int .u32 0]), 2, 16) := by kernel_rfl
def NewPost2 (w : World) (ls : List Nat) (e : Ending) (w' : World) : Prop :=
  (newOk ls = true ∧ ∃ t, e = .returned (.tuple #[.pointer (some ⟨t, 0, none⟩), .int .i64 0]) ∧ (∀ S, (∀ k ∈ S, k < w.heap.size) → Tb w' S t ls) ∧ Kp [] w w') ∨
  (newOk ls = false ∧ ∃ er : Int, e = .returned (.tuple #[.pointer none, .int .i64 er]) ∧ er ≠ 0 ∧ Kp [] w w')
/-- What New has made. -/
structure Nw (w0 w : World) (t g b L : Nat) (F C : List Nat) (M : List (Value × Value)) : Prop where
  tab : w.heap[t]? = some (.cells (tabC (.slice (some ⟨g, 0, none⟩) L L) (.map (some b)) F C).toArray 82 (0, 0))
  cd : ∃ cs, w.heap[g]? = some (.cells cs 84 (0, 0)) ∧ cs.size = L * 2
  mp : Ms w b M
  kp : Kp [] w0 w
  fl : F.length = 17
  cl : C.length = 17
  tg : ¬ t = g
  tb : ¬ t = b
  gb : ¬ g = b
  t0 : w0.heap.size ≤ t
  g0 : w0.heap.size ≤ g
  b0 : w0.heap.size ≤ b
section
variable {w0 w : World} {t g b L : Nat} {F C : List Nat} {M : List (Value × Value)}
theorem Nw.fz (h : Nw w0 w t g b L F C M) : ∀ i, w.frozen? ⟨t, i, none⟩ = false := fun i => frozen_of_row w t i _ _ h.tab
theorem Nw.lt (h : Nw w0 w t g b L F C M) : t < w.heap.size := (Array.getElem?_eq_some_iff.1 h.tab).1
theorem Nw.ltg (h : Nw w0 w t g b L F C M) : g < w.heap.size := by obtain ⟨cs, h1, _⟩ := h.cd; exact (Array.getElem?_eq_some_iff.1 h1).1
theorem Nw.c0 (h : Nw w0 w t g b L F C M) : w.cell? ⟨t, 0, none⟩ = some (.slice (some ⟨g, 0, none⟩) L L) := cell_of_row w t 0 _ _ _ h.tab
theorem Nw.c1 (h : Nw w0 w t g b L F C M) : w.cell? ⟨t, 1, none⟩ = some (.map (some b)) := cell_of_row w t 1 _ _ _ h.tab
theorem Nw.cF (h : Nw w0 w t g b L F C M) {i n : Nat} (hi : F[i]? = some n) : w.cell? ⟨t, 2 + i, none⟩ = some (.int .i64 (n : Nat)) := by
  rw [cell_of_row w t (2 + i) _ _ _ h.tab, List.getElem?_toArray]; exact tabC_F hi
theorem Nw.cC (h : Nw w0 w t g b L F C M) {i n : Nat} (hi : C[i]? = some n) : w.cell? ⟨t, 19 + i, none⟩ = some (.int .i64 (n : Nat)) := by
  rw [cell_of_row w t (19 + i) _ _ _ h.tab, List.getElem?_toArray]; exact tabC_C h.fl hi
theorem Nw.drew (h : Nw w0 w t g b L F C M) : Nw w0 w.drew t g b L F C M := ⟨h.tab, h.cd, h.mp, h.kp.drew, h.fl, h.cl, h.tg, h.tb, h.gb, h.t0, h.g0, h.b0⟩
theorem Nw.setC (h : Nw w0 w t g b L F C M) {i : Nat} (n : Nat) : Nw w0 (w.setCell ⟨t, 19 + i, none⟩ (.int .i64 (n : Nat))) t g b L F (C.set i n) M := by
  obtain ⟨cs, h1, h2⟩ := h.cd
  obtain ⟨es, ck, h3, h4⟩ := h.mp
  refine ⟨(heap_set h.tab _ _).trans (by rw [tabC_setC h.fl]), ⟨cs, (Below.heap_setCell w _ _ g (fun e => h.tg e.symm)).trans h1, h2⟩, ⟨es, ck, (Below.heap_setCell w _ _ b (fun e => h.tb e.symm)).trans h3, h4⟩, h.kp.setCell (.inr h.t0) _, h.fl, by rw [List.length_set]; exact h.cl, h.tg, h.tb, h.gb, h.t0, h.g0, h.b0⟩
theorem Nw.setF (h : Nw w0 w t g b L F C M) {i : Nat} (hi : i < 17) (n : Nat) : Nw w0 (w.setCell ⟨t, 2 + i, none⟩ (.int .i64 (n : Nat))) t g b L (F.set i n) C M := by
  obtain ⟨cs, h1, h2⟩ := h.cd
  obtain ⟨es, ck, h3, h4⟩ := h.mp
  refine ⟨(heap_set h.tab _ _).trans (by rw [tabC_setF (by rw [h.fl]; exact hi)]), ⟨cs, (Below.heap_setCell w _ _ g (fun e => h.tg e.symm)).trans h1, h2⟩, ⟨es, ck, (Below.heap_setCell w _ _ b (fun e => h.tb e.symm)).trans h3, h4⟩, h.kp.setCell (.inr h.t0) _, by rw [List.length_set]; exact h.fl, h.cl, h.tg, h.tb, h.gb, h.t0, h.g0, h.b0⟩
end
/-- .. and the next numbers beside it. -/
structure Nx (w0 w : World) (t g b L : Nat) (F C : List Nat) (M : List (Value × Value)) (x : Nat) (X : List Nat) : Prop where
  nw : Nw w0 w t g b L F C M
  nx : w.heap[x]? = some (.cells (ints X).toArray 80 (0, 0))
  xt : ¬ x = t
  xg : ¬ x = g
  xb : ¬ x = b
  x0 : w0.heap.size ≤ x
  xl : X.length = 17
section
variable {w0 w : World} {t g b L x : Nat} {F C X : List Nat} {M : List (Value × Value)}
theorem Nx.fx (h : Nx w0 w t g b L F C M x X) : ∀ i, w.frozen? ⟨x, i, none⟩ = false := fun i => frozen_of_row w x i _ _ h.nx
theorem Nx.lx (h : Nx w0 w t g b L F C M x X) : x < w.heap.size := (Array.getElem?_eq_some_iff.1 h.nx).1
theorem Nx.cX (h : Nx w0 w t g b L F C M x X) {i n : Nat} (hi : X[i]? = some n) : w.cell? ⟨x, i, none⟩ = some (.int .i64 (n : Nat)) := by
  rw [cell_of_row w x i _ _ _ h.nx, List.getElem?_toArray]; exact ints_get hi
theorem Nx.drew (h : Nx w0 w t g b L F C M x X) : Nx w0 w.drew t g b L F C M x X := ⟨h.nw.drew, h.nx, h.xt, h.xg, h.xb, h.x0, h.xl⟩
theorem Nx.setF (h : Nx w0 w t g b L F C M x X) {i : Nat} (hi : i < 17) (n : Nat) : Nx w0 (w.setCell ⟨t, 2 + i, none⟩ (.int .i64 (n : Nat))) t g b L (F.set i n) C M x X :=
  ⟨h.nw.setF hi n, (Below.heap_setCell w _ _ x (fun e => h.xt e)).trans h.nx, h.xt, h.xg, h.xb, h.x0, h.xl⟩
theorem Nx.setX (h : Nx w0 w t g b L F C M x X) {i : Nat} (n : Nat) : Nx w0 (w.setCell ⟨x, i, none⟩ (.int .i64 (n : Nat))) t g b L F C M x (X.set i n) := by
  obtain ⟨cs, h1, h2⟩ := h.nw.cd
  obtain ⟨es, ck, h3, h4⟩ := h.nw.mp
  refine ⟨⟨(Below.heap_setCell w _ _ t (fun e => h.xt e.symm)).trans h.nw.tab, ⟨cs, (Below.heap_setCell w _ _ g (fun e => h.xg e.symm)).trans h1, h2⟩, ⟨es, ck, (Below.heap_setCell w _ _ b (fun e => h.xb e.symm)).trans h3, h4⟩, h.nw.kp.setCell (.inr h.x0) _, h.nw.fl, h.nw.cl, h.nw.tg, h.nw.tb, h.nw.gb, h.nw.t0, h.nw.g0, h.nw.b0⟩, (heap_set h.nx _ _).trans (by rw [List.setIfInBounds_toArray, ints_set]), h.xt, h.xg, h.xb, h.x0, by rw [List.length_set]; exact h.xl⟩
theorem Nx.setG (h : Nx w0 w t g b L F C M x X) (i : Nat) (v : Value) : Nx w0 (w.setCell ⟨g, i, none⟩ v) t g b L F C M x X := by
  obtain ⟨cs, h1, h2⟩ := h.nw.cd
  obtain ⟨es, ck, h3, h4⟩ := h.nw.mp
  exact ⟨⟨(Below.heap_setCell w _ _ t (fun e => h.nw.tg e)).trans h.nw.tab, ⟨cs.setIfInBounds i v, heap_set h1 i v, by rw [Array.size_setIfInBounds]; exact h2⟩, ⟨es, ck, (Below.heap_setCell w _ _ b (fun e => h.nw.gb e.symm)).trans h3, h4⟩, h.nw.kp.setCell (.inr h.nw.g0) _, h.nw.fl, h.nw.cl, h.nw.tg, h.nw.tb, h.nw.gb, h.nw.t0, h.nw.g0, h.nw.b0⟩, (Below.heap_setCell w _ _ x (fun e => h.xg e)).trans h.nx, h.xt, h.xg, h.xb, h.x0, h.xl⟩
theorem Nx.mapped {w' : World} {M' : List (Value × Value)} (h : Nx w0 w t g b L F C M x X) (hg : w.grownBy w' (some b)) (hm : Ms w' b M') : Nx w0 w' t g b L F C M' x X := by
  obtain ⟨cs, h1, h2⟩ := h.nw.cd
  have lg := h.nw.ltg
  have lt := h.nw.lt
  have lx := h.lx
  exact ⟨⟨(hg.block t lt (fun e => h.nw.tb (Option.some.inj e))).trans h.nw.tab, ⟨cs, (hg.block g lg (fun e => h.nw.gb (Option.some.inj e))).trans h1, h2⟩, hm, h.nw.kp.grown hg (fun k hk => .inr (by rw [← Option.some.inj hk]; exact h.nw.b0)), h.nw.fl, h.nw.cl, h.nw.tg, h.nw.tb, h.nw.gb, h.nw.t0, h.nw.g0, h.nw.b0⟩, (hg.block x lx (fun e => h.xb (Option.some.inj e))).trans h.nx, h.xt, h.xg, h.xb, h.x0, h.xl⟩
end
/-- The first codes of lengths below n. -/
def fstL (ls : List Nat) (n : Nat) : List Nat := (List.range 17).map fun i => if i < n then fst_ ls i else 0
theorem fstL_get (ls : List Nat) (n : Nat) {i : Nat} (h : i < 17) : (fstL ls n)[i]? = some (if i < n then fst_ ls i else 0) := by simp [fstL, h]
theorem fstL_one (ls : List Nat) : fstL ls 1 = z17 := by
  apply List.ext_getElem?
  intro i
  by_cases hi : i < 17
  · rw [fstL_get ls 1 hi]
    have : (if i < 1 then fst_ ls i else 0) = 0 := by
      split
      · rw [show i = 0 by omega]; rfl
      · rfl
    rw [this]
    unfold z17
    rw [List.getElem?_replicate, if_pos hi]
  · rw [List.getElem?_eq_none (by simp [fstL]; omega), List.getElem?_eq_none (by simp [z17]; omega)]
theorem fstL_set (ls : List Nat) {n : Nat} (h : n < 17) : (fstL ls n).set n (fst_ ls n) = fstL ls (n + 1) := by
  apply List.ext_getElem?
  intro i
  rw [List.getElem?_set]
  by_cases hi : i < 17
  · rw [fstL_get _ _ hi, fstL_get _ _ hi]
    by_cases hn : n = i
    · subst hn
      rw [if_pos rfl, if_pos (by simp [fstL]; exact hi), if_pos (by omega)]
    · rw [if_neg hn]
      by_cases h1 : i < n
      · rw [if_pos h1, if_pos (by omega)]
      · rw [if_neg h1, if_neg (by omega)]
  · have h1 : (fstL ls n)[i]? = none := List.getElem?_eq_none (by simp [fstL]; omega)
    have h2 : (fstL ls (n + 1))[i]? = none := List.getElem?_eq_none (by simp [fstL]; omega)
    rw [h2, if_neg (by omega)]
    exact h1
def cntL (ls : List Nat) : List Nat := (List.range 17).map (cnt ls)
theorem cntL_get (ls : List Nat) {i : Nat} (h : i < 17) : (cntL ls)[i]? = some (cnt ls i) := by simp [cntL, h]
theorem take_snoc {ls : List Nat} {k n : Nat} (h : ls[k]? = some n) : ls.take (k + 1) = ls.take k ++ [n] := by
  obtain ⟨h1, h2⟩ := List.getElem?_eq_some_iff.1 h
  rw [List.take_succ_eq_append_getElem h1, h2]
theorem cnt_snoc {ls : List Nat} {k n : Nat} (h : ls[k]? = some n) (m : Nat) : cnt (ls.take (k + 1)) m = cnt (ls.take k) m + if n = m ∧ 0 < m then 1 else 0 := by
  rw [take_snoc h]
  unfold cnt
  rw [List.filter_append, List.length_append]
  by_cases h1 : n = m ∧ 0 < m
  · rw [if_pos h1]; simp [h1]
  · rw [if_neg h1]; simp [h1]
theorem usedN_snoc {ls : List Nat} {k n : Nat} (h : ls[k]? = some n) : usedN (ls.take (k + 1)) = usedN (ls.take k) + if 0 < n then 1 else 0 := by
  rw [take_snoc h]
  unfold usedN
  rw [List.filter_append, List.length_append]
  by_cases h1 : 0 < n
  · rw [if_pos h1]; simp [h1]
  · rw [if_neg h1]; simp [h1]
theorem cntL_set {ls : List Nat} {k n : Nat} (h : ls[k]? = some n) (h0 : 0 < n) : (cntL (ls.take k)).set n (cnt (ls.take k) n + 1) = cntL (ls.take (k + 1)) := by
  apply List.ext_getElem?
  intro i
  rw [List.getElem?_set]
  by_cases hi : i < 17
  · rw [cntL_get _ hi, cntL_get _ hi, cnt_snoc h]
    by_cases hn : n = i
    · subst hn
      rw [if_pos rfl, if_pos (by simp [cntL]; exact hi), if_pos ⟨rfl, h0⟩]
    · rw [if_neg hn, if_neg (fun h => hn h.1)]; rfl
  · have h1 : (cntL (ls.take k))[i]? = none := List.getElem?_eq_none (by simp [cntL]; omega)
    have h2 : (cntL (ls.take (k + 1)))[i]? = none := List.getElem?_eq_none (by simp [cntL]; omega)
    rw [h2]
    split
    · split
      · rename_i h3 h4; rw [h3] at h4; simp [cntL] at h4; omega
      · rfl
    · exact h1
theorem cntL_skip {ls : List Nat} {k n : Nat} (h : ls[k]? = some n) (h0 : n = 0) : cntL (ls.take (k + 1)) = cntL (ls.take k) := by
  unfold cntL
  refine List.map_congr_left fun m _ => ?_
  rw [cnt_snoc h, if_neg (by omega)]
  rfl
theorem cntL_zero (ls : List Nat) : cntL (ls.take 0) = z17 := by rw [List.take_zero]; decide
/-- The next numbers when the first s symbols have theirs. -/
def nxtL (ls : List Nat) (s : Nat) : List Nat := (List.range 17).map fun i => (if i < 16 then fst_ ls i else 0) + cnt (ls.take s) i
theorem nxtL_get (ls : List Nat) (s : Nat) {i : Nat} (h : i < 17) : (nxtL ls s)[i]? = some ((if i < 16 then fst_ ls i else 0) + cnt (ls.take s) i) := by simp [nxtL, h]
theorem nxtL_zero (ls : List Nat) : nxtL ls 0 = fstL ls 16 := by
  unfold nxtL fstL
  refine List.map_congr_left fun i _ => ?_
  rw [List.take_zero]
  rfl
theorem nxtL_skip {ls : List Nat} {k : Nat} (h : ls[k]? = some 0) : nxtL ls (k + 1) = nxtL ls k := by
  unfold nxtL
  refine List.map_congr_left fun m _ => ?_
  rw [cnt_snoc h, if_neg (show ¬ (0 = m ∧ 0 < m) by omega)]
  rfl
theorem nxtL_set {ls : List Nat} {k n : Nat} (h : ls[k]? = some n) (h0 : 0 < n) (h15 : n ≤ 15) : (nxtL ls k).set n (fst_ ls n + cnt (ls.take k) n + 1) = nxtL ls (k + 1) := by
  apply List.ext_getElem?
  intro i
  rw [List.getElem?_set]
  by_cases hi : i < 17
  · rw [nxtL_get _ _ hi, nxtL_get _ _ hi, cnt_snoc h]
    by_cases hn : n = i
    · subst hn
      rw [if_pos rfl, if_pos (by simp [nxtL]; exact hi), if_pos (show n < 16 by omega), if_pos ⟨rfl, h0⟩, Nat.add_assoc]
    · rw [if_neg hn, if_neg (show ¬ (n = i ∧ 0 < i) from fun h => hn h.1)]; rfl
  · have h1 : (nxtL ls k)[i]? = none := List.getElem?_eq_none (by simp [nxtL]; omega)
    have h2 : (nxtL ls (k + 1))[i]? = none := List.getElem?_eq_none (by simp [nxtL]; omega)
    rw [h2, if_neg (by omega)]
    exact h1
theorem symL_skip {ls : List Nat} {k : Nat} (h : ls[k]? = some 0) : symL ls (k + 1) = symL ls k := by
  rw [symL, getD_of h, if_neg (by omega), List.append_nil]
theorem symL_add {ls : List Nat} {k n : Nat} (h : ls[k]? = some n) (h0 : 0 < n) : symL ls (k + 1) = symL ls k ++ [(keyV n (codeN ls k), .int .i64 (k : Nat))] := by
  rw [symL, getD_of h, if_pos h0]
theorem cnt_le (ls : List Nat) (m : Nat) : cnt ls m ≤ ls.length := by unfold cnt; exact List.length_filter_le ..
theorem usedN_le (ls : List Nat) : usedN ls ≤ ls.length := by unfold usedN; exact List.length_filter_le ..
end Go.Proofs.YtjjcemdoefigkaaDoor.Hf
