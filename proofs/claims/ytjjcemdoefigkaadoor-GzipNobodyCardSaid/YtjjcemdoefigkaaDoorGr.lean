/- What the events of a gzip file say of its members (plain). -/
import Derived.Test.YtjjcemdoefigkaaDoorGd
namespace Go.Proofs.YtjjcemdoefigkaaDoor.Hf
set_option linter.unusedVariables false
set_option linter.unusedSimpArgs false
open Go.RowKit Go.Proofs.YtjjcemdoefigkaaDoor.W

/-- The members with one event more. -/
def addE (ps : List (List Int)) (e : Ev) : List (List Int) := if e.kd = 1 then ps ++ [[]] else if e.kd = 2 then ps.set (ps.length - 1) (ps.getD (ps.length - 1) [] ++ [e.by_]) else ps
def partsE (E : List (Nat × Ev)) : List (List Int) := (E.map Prod.snd).foldl addE []
def opn (es : List Ev) : Nat := (es.filter fun e => decide (e.kd = 1)).length
def byn (es : List Ev) : Nat := (es.filter fun e => decide (e.kd = 2)).length
/-- How many bytes are told. -/
def bytesN (E : List (Nat × Ev)) : Nat := byn (E.map Prod.snd)
theorem byn_append (a b : List Ev) : byn (a ++ b) = byn a + byn b := by unfold byn; rw [List.filter_append, List.length_append]
theorem opn_append (a b : List Ev) : opn (a ++ b) = opn a + opn b := by unfold opn; rw [List.filter_append, List.length_append]
theorem bytesN_append (a b : List (Nat × Ev)) : bytesN (a ++ b) = bytesN a + bytesN b := by unfold bytesN; rw [List.map_append, byn_append]
theorem partsE_append (a b : List (Nat × Ev)) : partsE (a ++ b) = (b.map Prod.snd).foldl addE (partsE a) := by unfold partsE; rw [List.map_append, List.foldl_append]
theorem snd_map (i : Nat) (es : List Ev) : (es.map fun e => (i, e)).map Prod.snd = es := by rw [List.map_map]; exact List.map_id' _
/-- No byte is told ahead of a member. -/
def Es : List (List Int) → List Ev → Prop
  | _, [] => True
  | ps, e :: es => (e.kd = 2 → ps ≠ [] ∧ e = evByte e.by_) ∧ Es (addE ps e) es
theorem addE_ne {ps : List (List Int)} (h : ps ≠ []) (e : Ev) : addE ps e ≠ [] := by
  unfold addE
  split
  · simp
  · split
    · intro h2
      apply h
      have := congrArg List.length h2
      rw [List.length_set] at this
      exact List.eq_nil_of_length_eq_zero this
    · exact h
theorem addE_len (ps : List (List Int)) (e : Ev) : (addE ps e).length = ps.length + opn [e] := by
  unfold addE opn
  split
  · rename_i h; simp [h]
  · rename_i h
    split
    · rename_i h2; simp [h2]
    · simp [h]
theorem foldE_len : ∀ (es : List Ev) (ps : List (List Int)), (es.foldl addE ps).length = ps.length + opn es := by
  intro es
  induction es with
  | nil => intro ps; rfl
  | cons e es ih => intro ps; rw [List.foldl_cons, ih, addE_len, Nat.add_assoc, ← opn_append]; rfl
theorem Es.bytes : ∀ (r : List Int) {ps : List (List Int)}, ps ≠ [] → Es ps (r.map evByte) ∧ (r.map evByte).foldl addE ps ≠ [] ∧ opn (r.map evByte) = 0 ∧ byn (r.map evByte) = r.length := by
  intro r
  induction r with
  | nil => intro ps h; exact ⟨trivial, h, rfl, rfl⟩
  | cons b r ih =>
    intro ps h
    obtain ⟨h1, h2, h3, h4⟩ := ih (addE_ne h (evByte b))
    refine ⟨⟨fun _ => ⟨h, rfl⟩, h1⟩, h2, ?_, ?_⟩
    · rw [List.map_cons, show evByte b :: r.map evByte = [evByte b] ++ r.map evByte from rfl, opn_append, h3]; rfl
    · rw [List.map_cons, show evByte b :: r.map evByte = [evByte b] ++ r.map evByte from rfl, byn_append, h4, List.length_cons, Nat.add_comm]; rfl
theorem Es.behind : ∀ (a : List Ev) {b : List Ev} {ps : List (List Int)}, Es ps (a ++ b) → Es (a.foldl addE ps) b := by
  intro a
  induction a with
  | nil => intro b ps h; exact h
  | cons e a ih => intro b ps h; exact ih h.2
theorem addE_row {ps : List (List Int)} {M : Nat} (h : ∀ r ∈ ps, r.length ≤ M) (e : Ev) : ∀ r ∈ addE ps e, r.length ≤ M + byn [e] := by
  intro r hr
  unfold addE at hr
  split at hr
  · rcases List.mem_append.1 hr with h1 | h1
    · exact Nat.le_add_right_of_le (h r h1)
    · rw [List.mem_singleton.1 h1]; exact Nat.zero_le _
  · rename_i h1
    split at hr
    · rename_i h2
      have hb : byn [e] = 1 := by unfold byn; simp [h2]
      rw [hb]
      rcases List.mem_or_eq_of_mem_set hr with h3 | h3
      · exact Nat.le_succ_of_le (h r h3)
      · rw [h3, List.length_append]
        have : (ps.getD (ps.length - 1) []).length ≤ M := by
          rw [List.getD_eq_getElem?_getD]
          cases hx : ps[ps.length - 1]? with
          | none => exact Nat.zero_le _
          | some r => exact h r (List.mem_of_getElem? hx)
        exact Nat.add_le_add_right this 1
    · exact Nat.le_add_right_of_le (h r hr)
theorem foldE_row : ∀ (es : List Ev) {ps : List (List Int)} {M : Nat}, (∀ r ∈ ps, r.length ≤ M) → ∀ r ∈ es.foldl addE ps, r.length ≤ M + byn es := by
  intro es
  induction es with
  | nil => intro ps M h; exact h
  | cons e es ih =>
    intro ps M h r hr
    have h1 := ih (addE_row h e) r hr
    have h2 : byn (e :: es) = byn [e] + byn es := byn_append [e] es
    omega
theorem partsE_row (E : List (Nat × Ev)) : ∀ r ∈ partsE E, r.length ≤ bytesN E := fun r hr => by
  have := foldE_row (E.map Prod.snd) (ps := []) (M := 0) (fun r hr => by cases hr) r hr
  rw [Nat.zero_add] at this
  exact this
/-- What a step outside of what is deflated may tell. -/
def Tl (y : Z) : Prop := (y.has = true → y.ev.kd = 1 ∨ y.ev.kd = 3) ∧ (y.data = true → y.ev.kd = 1)
theorem Tl.no {y : Z} (hh : y.has = false) (hd : y.data = false) : Tl y := ⟨fun h => (by rw [hh] at h; cases h), fun h => (by rw [hd] at h; cases h)⟩
theorem tl_open (y : Z) : Tl y.open_ := ⟨fun _ => .inl rfl, fun _ => rfl⟩
theorem tl_summed {y : Z} (hh : y.has = false) (hd : y.data = false) : Tl y.summed := by
  unfold Z.summed
  split
  · exact tl_open y
  · exact .no hh hd
theorem tl_commented {y : Z} (hh : y.has = false) (hd : y.data = false) : Tl y.commented := by
  unfold Z.commented
  split
  · exact tl_summed (y := { y with cnt := 0 }) hh hd
  · exact .no hh hd
theorem tl_named {y : Z} (hh : y.has = false) (hd : y.data = false) : Tl y.named := by
  unfold Z.named
  split
  · exact tl_commented hh hd
  · exact .no hh hd
theorem tl_extra {y : Z} (hh : y.has = false) (hd : y.data = false) : Tl y.extra := by
  unfold Z.extra
  split
  · exact tl_named hh hd
  · exact .no hh hd
theorem tl_step {z : Z} {x : Int} (hh : z.has = false) (hd : z.data = false) (hp : z.ph ≠ .defl) : Tl (z.step x) := by
  unfold Z.step
  split
  · unfold Z.first; repeat' split
    all_goals exact .no hh hd
  · unfold Z.nought; split <;> exact .no hh hd
  · have e : (Z.fix1 (z.hd x) x).data = z.data ∧ (Z.fix1 (z.hd x) x).has = z.has := by
      unfold Z.fix1
      repeat' split
      all_goals exact ⟨rfl, rfl⟩
    unfold Z.fixed Z.fix2
    split
    · exact tl_extra (by show (Z.fix1 (z.hd x) x).has = false; rw [e.2]; exact hh) (by show (Z.fix1 (z.hd x) x).data = false; rw [e.1]; exact hd)
    · exact .no (by show (Z.fix1 (z.hd x) x).has = false; rw [e.2]; exact hh) (by show (Z.fix1 (z.hd x) x).data = false; rw [e.1]; exact hd)
  · unfold Z.exLen
    split
    · unfold Z.exl2
      split
      · exact .no hh hd
      · split
        · exact tl_named (y := { Z.num (z.hd x) x with cnt := (Z.num (z.hd x) x).val, ph := .exBytes }) hh hd
        · exact .no hh hd
    · exact .no hh hd
  · unfold Z.exBytes
    split
    · exact tl_named (y := { z.hd x with cnt := 0 }) hh hd
    · exact .no hh hd
  · unfold Z.nameB
    split
    · exact tl_commented (y := z.hd x) hh hd
    · split <;> exact .no hh hd
  · unfold Z.comB
    split
    · exact tl_summed (y := z.hd x) hh hd
    · split <;> exact .no hh hd
  · unfold Z.hSum
    split
    · unfold Z.hSum2
      split
      · exact tl_open _
      · exact .no hh hd
    · exact .no hh hd
  · rename_i h9; exact absurd h9 hp
  · unfold Z.sums
    split
    · unfold Z.sums2; split <;> exact .no hh hd
    · exact .no hh hd
  · unfold Z.sizes
    split
    · unfold Z.sizes2
      split
      · exact ⟨fun _ => .inr rfl, fun h => (by cases h)⟩
      · exact .no hh hd
    · exact .no hh hd
theorem byte_good {z : Z} {x : Int} (h : Rz z) {ps : List (List Int)} (hp : z.data = true → ps ≠ []) : Es ps (bz z x).2 ∧ opn (bz z x).2 ≤ 1 ∧ ((bz z x).1.data = true → (bz z x).2.foldl addE ps ≠ []) := by
  by_cases h0 : z.why = 0
  · cases hd : z.data with
    | false =>
      have ht := tl_step (x := x) h.has hd (h.nodefl hd)
      rw [bz_head h0 hd (h.nodefl hd)]
      unfold Zq
      cases hh : (z.step x).has with
      | false =>
        rw [if_neg (by simp)]
        refine ⟨trivial, Nat.zero_le _, fun h2 => ?_⟩
        have := (op_step h0 hd (h.nodefl hd) h2).1
        rw [hh] at this
        cases this
      | true =>
        rw [if_pos rfl]
        obtain ⟨t1, t2⟩ := ht
        have hk := t1 hh
        refine ⟨⟨fun h2 => (by exfalso; omega), trivial⟩, ?_, fun h2 => ?_⟩
        · unfold opn
          exact List.length_filter_le _ _
        · have h3 := t2 h2
          show addE ps (z.step x).ev ≠ []
          unfold addE
          rw [if_pos h3]
          simp
    | true =>
      obtain ⟨r, _, hbz⟩ := bz_data (x := x) h h0 hd
      rw [hbz]
      obtain ⟨h1, h2, h3, _⟩ := Es.bytes r (hp hd)
      exact ⟨h1, by rw [h3]; exact Nat.zero_le _, fun _ => h2⟩
  · rw [bz_stop x h0]
    exact ⟨trivial, Nat.zero_le _, hp⟩
theorem at_good {l : List Int} (hb : Bytes l) : ∀ i, i ≤ l.length → ((zAt l i).data = true → partsE (eAt l i) ≠ []) ∧ (partsE (eAt l i)).length ≤ i := by
  intro i
  induction i with
  | zero => intro _; exact ⟨fun h => (by cases h), Nat.le_refl _⟩
  | succ i ih =>
    intro hi
    obtain ⟨h1, h2⟩ := ih (by omega)
    have hx : l[i]? = some l[i] := List.getElem?_eq_getElem (by omega)
    obtain ⟨e1, e2⟩ := at_succ hx
    obtain ⟨g1, g2, g3⟩ := byte_good (x := l[i]) (Rz.at_ hb i) h1
    rw [e1, e2, partsE_append, snd_map]
    exact ⟨g3, by rw [foldE_len]; omega⟩
/-- What is told, at most so many bytes. -/
inductive GzR (l : List Int) (n : Nat) : List (Nat × Ev) → Nat → Prop where
  | all (h : bytesN (eAt l l.length) ≤ n) : GzR l n (eAt l l.length) (zAt l l.length).end_.why
  | much {pre post : List (Nat × Ev)} {t : Nat} {b : Int} (h : eAt l l.length = pre ++ (t, evByte b) :: post) (hn : bytesN pre = n) : GzR l n pre 62
theorem cut_uniq : ∀ {pre pre' post post' : List (Nat × Ev)} {t t' : Nat} {b b' : Int}, pre ++ (t, evByte b) :: post = pre' ++ (t', evByte b') :: post' → bytesN pre = bytesN pre' → pre = pre' := by
  intro pre
  induction pre with
  | nil =>
    intro pre' post post' t t' b b' h hn
    cases pre' with
    | nil => rfl
    | cons p pre' =>
      injection h with h1 _
      exfalso
      have h2 : bytesN (p :: pre') = bytesN [p] + bytesN pre' := bytesN_append [p] pre'
      rw [← h1] at h2
      have h3 : bytesN [(t, evByte b)] = 1 := rfl
      have h4 : bytesN ([] : List (Nat × Ev)) = 0 := rfl
      rw [h1] at h2 h3
      omega
  | cons q pre ih =>
    intro pre' post post' t t' b b' h hn
    cases pre' with
    | nil =>
      injection h with h1 _
      exfalso
      have h2 : bytesN (q :: pre) = bytesN [q] + bytesN pre := bytesN_append [q] pre
      have h3 : bytesN [q] = 1 := by rw [h1]; rfl
      have h4 : bytesN ([] : List (Nat × Ev)) = 0 := rfl
      omega
    | cons p pre' =>
      injection h with h1 h2
      subst h1
      have h3 : bytesN (q :: pre) = bytesN [q] + bytesN pre := bytesN_append [q] pre
      have h4 : bytesN (q :: pre') = bytesN [q] + bytesN pre' := bytesN_append [q] pre'
      rw [ih h2 (by omega)]
theorem GzR.uniq {l : List Int} {n : Nat} {E E' : List (Nat × Ev)} {y y' : Nat} (h : GzR l n E y) (h' : GzR l n E' y') : E = E' ∧ y = y' := by
  have hno : ∀ {pre post : List (Nat × Ev)} {t : Nat} {b : Int}, eAt l l.length = pre ++ (t, evByte b) :: post → bytesN pre = n → ¬ bytesN (eAt l l.length) ≤ n := fun h hn h2 => by
    rw [h, bytesN_append] at h2
    have h3 : ∀ (t : Nat) (b : Int) (post : List (Nat × Ev)), bytesN ((t, evByte b) :: post) = 1 + bytesN post := fun t b post => bytesN_append [(t, evByte b)] post
    rw [h3] at h2
    omega
  cases h with
  | all h =>
    cases h' with
    | all => exact ⟨rfl, rfl⟩
    | much h1 h2 => exact absurd h (hno h1 h2)
  | much h1 h2 =>
    cases h' with
    | all h => exact absurd h (hno h1 h2)
    | much h3 h4 => exact ⟨cut_uniq (h1.symm.trans h3) (h2.trans h4.symm), rfl⟩
end Go.Proofs.YtjjcemdoefigkaaDoor.Hf
