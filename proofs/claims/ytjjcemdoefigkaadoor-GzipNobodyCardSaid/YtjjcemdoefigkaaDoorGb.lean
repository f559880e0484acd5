/- The walker of gzip files over bytes: what is told of each (plain). -/
import Derived.Test.YtjjcemdoefigkaaDoorGa
namespace Go.Proofs.YtjjcemdoefigkaaDoor.Hf
set_option linter.unusedVariables false
set_option linter.unusedSimpArgs false
open Go.RowKit Go.Proofs.YtjjcemdoefigkaaDoor.W

/-- At rest: all is told, and no end was said. -/
structure Rz (z : Z) : Prop where
  ok : Zok z
  zr : Zr z
  has : z.has = false
  ended : z.ended = false
theorem Rz.z0 : Rz z0 := ⟨Zok.z0, fun h => (by cases h), rfl, rfl⟩
theorem Dr.kept {z z' : Z} {es : List Ev} (h : Dr z z' es) : Zok z → Zr z → Zok z' ∧ Zr z' := by
  induction h with
  | rest _ => exact fun h1 h2 => ⟨h1, h2⟩
  | more _ _ ih => exact fun h1 _ => ih h1.next.1 h1.next.2
theorem over_ended (z : Z) : z.over.ended = z.ended := by unfold Z.over; split <;> rfl
theorem settle_ended (z : Z) : z.settle.ended = z.ended := by
  unfold Z.settle
  split
  · rfl
  · split
    · rfl
    · exact over_ended z
theorem Dr.ended {z z' : Z} {es : List Ev} (h : Dr z z' es) : z'.ended = z.ended := by
  induction h with
  | rest _ => rfl
  | more _ _ ih => rw [ih]; exact settle_ended _
theorem drain_ex {z : Z} (h : Zok z) : ∃ z' es, Dr z z' es := by
  cases hh : z.has with
  | false => exact ⟨z, [], .rest hh⟩
  | true =>
    cases hd : z.data with
    | false =>
      have e : z.next = { z with ev := ev0, has := false } := by unfold Z.next Z.settle; rw [if_pos (.inl hd)]
      exact ⟨_, _, .more hh (by rw [e]; exact .rest rfl)⟩
    | true =>
      obtain ⟨r, hr⟩ := h.pre hd
      exact ⟨_, _, .more hh (Dr.data (z := { z with ev := ev0, has := false }) hd rfl rfl hr.symm)⟩
open Classical in
/-- A byte is put in, and all that is known is told. -/
noncomputable def bz (z : Z) (x : Int) : Z × List Ev := if h : z.why = 0 ∧ ∃ p : Z × List Ev, Dr (z.put x) p.1 p.2 then Classical.choose h.2 else (z, [])
theorem bz_eq {z z' : Z} {x : Int} {es : List Ev} (h0 : z.why = 0) (hd : Dr (z.put x) z' es) : bz z x = (z', es) := by
  have h : z.why = 0 ∧ ∃ p : Z × List Ev, Dr (z.put x) p.1 p.2 := ⟨h0, (z', es), hd⟩
  unfold bz
  rw [dif_pos h]
  obtain ⟨e1, e2⟩ := (Classical.choose_spec h.2).uniq hd
  exact Prod.ext e1 e2
theorem bz_stop {z : Z} (x : Int) (h0 : z.why ≠ 0) : bz z x = (z, []) := by unfold bz; rw [dif_neg fun h => h0 h.1]
theorem bz_dr {z : Z} {x : Int} (h : Rz z) (h0 : z.why = 0) (hx : Bt x) : Dr (z.put x) (bz z x).1 (bz z x).2 := by
  obtain ⟨z', es, hd⟩ := drain_ex (h.ok.put h0 hx).1
  rw [bz_eq h0 hd]
  exact hd
theorem open_ended (z : Z) : z.open_.ended = z.ended := rfl
theorem summed_ended (z : Z) : z.summed.ended = z.ended := by unfold Z.summed; split <;> rfl
theorem commented_ended (z : Z) : z.commented.ended = z.ended := by
  unfold Z.commented
  split
  · exact summed_ended _
  · rfl
theorem named_ended (z : Z) : z.named.ended = z.ended := by
  unfold Z.named
  split
  · exact commented_ended _
  · rfl
theorem extra_ended (z : Z) : z.extra.ended = z.ended := by
  unfold Z.extra
  split
  · exact named_ended _
  · rfl
theorem step_ended (z : Z) (x : Int) : (z.step x).ended = z.ended := by
  unfold Z.step
  split
  · unfold Z.first; repeat' split
    all_goals rfl
  · unfold Z.nought; split <;> rfl
  · have e : (Z.fix1 (z.hd x) x).ended = z.ended := by unfold Z.fix1; repeat' split
                                                       all_goals rfl
    unfold Z.fixed Z.fix2
    split
    · rw [extra_ended]; exact e
    · exact e
  · unfold Z.exLen
    split
    · unfold Z.exl2
      split
      · rfl
      · split
        · rw [named_ended]; rfl
        · rfl
    · rfl
  · unfold Z.exBytes
    split
    · rw [named_ended]; rfl
    · rfl
  · unfold Z.nameB
    split
    · rw [commented_ended]; rfl
    · split <;> rfl
  · unfold Z.comB
    split
    · rw [summed_ended]; rfl
    · split <;> rfl
  · unfold Z.hSum
    split
    · unfold Z.hSum2; split <;> rfl
    · rfl
  · rfl
  · unfold Z.sums
    split
    · unfold Z.sums2; split <;> rfl
    · rfl
  · unfold Z.sizes
    split
    · unfold Z.sizes2; split <;> rfl
    · rfl
theorem Rz.bz {z : Z} {x : Int} (h : Rz z) (hx : Bt x) : Rz (bz z x).1 := by
  by_cases h0 : z.why = 0
  · have hd := bz_dr h h0 hx
    obtain ⟨h1, h2⟩ := h.ok.put h0 hx
    obtain ⟨h3, h4⟩ := hd.kept h1 h2
    exact ⟨h3, h4, hd.has, by rw [hd.ended, Z.put, settle_ended, step_ended]; exact h.ended⟩
  · rw [bz_stop x h0]
    exact h
/-- Over bytes, from a time on. -/
noncomputable def runL (z : Z) (t : Nat) : List Int → Z × List (Nat × Ev)
  | [] => (z, [])
  | x :: l => ((runL (bz z x).1 (t + 1) l).1, (bz z x).2.map (fun e => (t, e)) ++ (runL (bz z x).1 (t + 1) l).2)
theorem runL_append : ∀ (a b : List Int) (z : Z) (t : Nat), runL z t (a ++ b) = ((runL (runL z t a).1 (t + a.length) b).1, (runL z t a).2 ++ (runL (runL z t a).1 (t + a.length) b).2) := by
  intro a
  induction a with
  | nil => intro b z t; simp [runL]
  | cons x a ih =>
    intro b z t
    rw [List.cons_append]
    simp only [runL]
    rw [ih, List.length_cons, show t + 1 + a.length = t + (a.length + 1) by omega, List.append_assoc]
theorem runL_snoc (a : List Int) (x : Int) (z : Z) (t : Nat) : runL z t (a ++ [x]) = ((bz (runL z t a).1 x).1, (runL z t a).2 ++ (bz (runL z t a).1 x).2.map (fun e => (t + a.length, e))) := by
  rw [runL_append]
  simp [runL]
theorem Rz.run {z : Z} (h : Rz z) : ∀ (l : List Int) (t : Nat), Bytes l → Rz (runL z t l).1 := by
  intro l
  induction l generalizing z with
  | nil => intro t _; exact h
  | cons x l ih => intro t hb; exact ih (h.bz (hb x (List.mem_cons_self ..))) (t + 1) (fun y hy => hb y (List.mem_cons_of_mem _ hy))
/-- What is stopped stays so. -/
theorem run_stop {z : Z} (h0 : z.why ≠ 0) : ∀ (l : List Int) (t : Nat), runL z t l = (z, []) := by
  intro l
  induction l with
  | nil => intro t; rfl
  | cons x l ih => intro t; simp only [runL, bz_stop x h0, ih]; rfl
/-- The walker behind the first i bytes; what it told. -/
noncomputable def zAt (l : List Int) (i : Nat) : Z := (runL z0 0 (l.take i)).1
noncomputable def eAt (l : List Int) (i : Nat) : List (Nat × Ev) := (runL z0 0 (l.take i)).2
noncomputable def evs (l : List Int) (i : Nat) : List Ev := match l[i]? with
  | some x => (bz (zAt l i) x).2
  | none => []
theorem zAt_zero (l : List Int) : zAt l 0 = z0 := rfl
theorem eAt_zero (l : List Int) : eAt l 0 = [] := rfl
theorem at_succ {l : List Int} {i : Nat} {x : Int} (h : l[i]? = some x) : zAt l (i + 1) = (bz (zAt l i) x).1 ∧ eAt l (i + 1) = eAt l i ++ (bz (zAt l i) x).2.map (fun e => (i, e)) := by
  obtain ⟨h1, h2⟩ := List.getElem?_eq_some_iff.1 h
  unfold zAt eAt
  rw [List.take_succ_eq_append_getElem h1, h2, runL_snoc]
  refine ⟨rfl, ?_⟩
  rw [List.length_take, Nat.min_eq_left (by omega), Nat.zero_add]
theorem at_add (l : List Int) (i n : Nat) (h : i ≤ l.length) : zAt l (i + n) = (runL (zAt l i) i ((l.drop i).take n)).1 ∧ eAt l (i + n) = eAt l i ++ (runL (zAt l i) i ((l.drop i).take n)).2 := by
  unfold zAt eAt
  rw [List.take_add, runL_append, List.length_take, Nat.min_eq_left h, Nat.zero_add]
  exact ⟨rfl, rfl⟩
theorem at_all (l : List Int) {i : Nat} (h : i ≤ l.length) : zAt l l.length = (runL (zAt l i) i (l.drop i)).1 ∧ eAt l l.length = eAt l i ++ (runL (zAt l i) i (l.drop i)).2 := by
  have h1 := at_add l i (l.length - i) h
  rw [show i + (l.length - i) = l.length by omega, List.take_of_length_le (by rw [List.length_drop]; omega)] at h1
  exact h1
theorem Rz.at_ {l : List Int} (hb : Bytes l) (i : Nat) : Rz (zAt l i) := Rz.z0.run _ _ (fun x hx => hb x (List.mem_of_mem_take hx))
/-! ### a byte outside of what is deflated -/
def Zq (y : Z) : Z × List Ev := if y.has = true then ({ y with ev := ev0, has := false }, [y.ev]) else (y, [])
def Op (y : Z) : Prop := y.data = true → y.has = true ∧ y.l = [] ∧ y.ol = [] ∧ y.why = 0
theorem Op.no {y : Z} (h : y.data = false) : Op y := fun h2 => by rw [h] at h2; cases h2
theorem op_open {y : Z} (h : y.why = 0) : Op y.open_ := fun _ => ⟨rfl, rfl, rfl, h⟩
theorem op_summed {y : Z} (h : y.why = 0) (hd : y.data = false) : Op y.summed := by
  unfold Z.summed
  split
  · exact op_open h
  · exact .no hd
theorem op_commented {y : Z} (h : y.why = 0) (hd : y.data = false) : Op y.commented := by
  unfold Z.commented
  split
  · exact op_summed h hd
  · exact .no hd
theorem op_named {y : Z} (h : y.why = 0) (hd : y.data = false) : Op y.named := by
  unfold Z.named
  split
  · exact op_commented h hd
  · exact .no hd
theorem op_extra {y : Z} (h : y.why = 0) (hd : y.data = false) : Op y.extra := by
  unfold Z.extra
  split
  · exact op_named h hd
  · exact .no hd
theorem op_step {z : Z} {x : Int} (h : z.why = 0) (hd : z.data = false) (hp : z.ph ≠ .defl) : Op (z.step x) := by
  unfold Z.step
  split
  · unfold Z.first; repeat' split
    all_goals exact .no hd
  · unfold Z.nought; split <;> exact .no hd
  · have e : (Z.fix1 (z.hd x) x).data = z.data := by unfold Z.fix1; repeat' split
                                                     all_goals rfl
    unfold Z.fixed Z.fix2
    split
    · rename_i h9
      exact op_extra h9.2 (by show (Z.fix1 (z.hd x) x).data = false; rw [e]; exact hd)
    · exact .no (by show (Z.fix1 (z.hd x) x).data = false; rw [e]; exact hd)
  · unfold Z.exLen
    split
    · unfold Z.exl2
      split
      · exact .no hd
      · split
        · exact op_named h hd
        · exact .no hd
    · exact .no hd
  · unfold Z.exBytes
    split
    · exact op_named h hd
    · exact .no hd
  · unfold Z.nameB
    split
    · exact op_commented h hd
    · split <;> exact .no hd
  · unfold Z.comB
    split
    · exact op_summed h hd
    · split <;> exact .no hd
  · unfold Z.hSum
    split
    · unfold Z.hSum2
      split
      · exact op_open h
      · exact .no hd
    · exact .no hd
  · rename_i h9; exact absurd h9 hp
  · unfold Z.sums
    split
    · unfold Z.sums2; split <;> exact .no hd
    · exact .no hd
  · unfold Z.sizes
    split
    · unfold Z.sizes2
      split
      · exact .no rfl
      · exact .no hd
    · exact .no hd
theorem over_st0 {z : Z} (hl : z.l = []) (h0 : z.why = 0) : z.over = z := by
  have hm : (F z.l).m = m0 := by rw [hl, F_nil]; rfl
  unfold Z.over
  rw [hm, if_neg (by intro h; cases h)]
  show { z with why := 0 } = z
  rw [← h0]
theorem dr_zq {y : Z} (h : Op y) : Dr y.settle (Zq y).1 (Zq y).2 := by
  unfold Zq
  cases hh : y.has with
  | false =>
    have hd : y.data = false := by
      cases hd : y.data with
      | false => rfl
      | true => rw [(h hd).1] at hh; cases hh
    have e : y.settle = y := by unfold Z.settle; rw [if_pos (.inl hd)]
    rw [e]
    exact .rest hh
  | true =>
    have e : y.settle = y := by unfold Z.settle; rw [if_pos (.inr hh)]
    rw [e]
    refine .more hh ?_
    have e2 : y.next = { y with ev := ev0, has := false } := by
      unfold Z.next Z.settle
      cases hd : y.data with
      | false => rw [if_pos (.inl rfl)]
      | true =>
        obtain ⟨_, h2, h3, h4⟩ := h hd
        rw [if_neg (by simp)]
        dsimp only
        rw [h2, h3, F_nil]
        exact over_st0 (z := { y with ev := ev0, has := false, data := true, l := [], ol := [] }) rfl h4 |>.trans (by cases y; dsimp only at *)
    rw [e2]
    exact .rest rfl
theorem bz_head {z : Z} {x : Int} (h0 : z.why = 0) (hd : z.data = false) (hp : z.ph ≠ .defl) : bz z x = Zq (z.step x) := bz_eq h0 (dr_zq (op_step h0 hd hp))
theorem Rz.nodefl {z : Z} (h : Rz z) (hd : z.data = false) : z.ph ≠ .defl := fun h2 => by rw [h.ok.dt.1 h2] at hd; cases hd
/-- A byte of what is deflated. -/
theorem bz_data {z : Z} {x : Int} (h : Rz z) (h0 : z.why = 0) (hd : z.data = true) : ∃ r, (F (z.l ++ [x])).out = z.ol ++ r ∧ bz z x = (Z.over { z with l := z.l ++ [x], ol := z.ol ++ r }, r.map evByte) := by
  obtain ⟨h1, _, _⟩ := h.zr hd h.has
  obtain ⟨r, hr⟩ := F_out z.l x
  rw [← h1] at hr
  refine ⟨r, hr.symm, bz_eq h0 ?_⟩
  have hp := h.ok.dt.2 hd
  have e0 : z.step x = z.defl x := by
    unfold Z.step
    split <;> first | rfl | (rename_i h9; rw [hp] at h9; cases h9)
  have e : z.put x = Z.settle { z with l := z.l ++ [x] } := by unfold Z.put; rw [e0]; rfl
  rw [e]
  exact Dr.data (z := { z with l := z.l ++ [x] }) hd h.has (h.ok.e0 h.has) hr.symm
end Go.Proofs.YtjjcemdoefigkaaDoor.Hf
