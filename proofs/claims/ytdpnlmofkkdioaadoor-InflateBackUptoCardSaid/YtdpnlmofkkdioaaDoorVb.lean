/- What is written: lengths of codes, and how they are told (plain). -/
import Derived.Test.YtdpnlmofkkdioaaDoorVa
namespace Go.Proofs.YtdpnlmofkkdioaaDoor.Hf
set_option linter.unusedVariables false
set_option linter.unusedSimpArgs false
open Go.RowKit Go.Proofs.YtdpnlmofkkdioaaDoor.W

/-! ### lengths for the symbols that are used -/
def nU (u : List Bool) : Nat := (u.filter fun b => b).length
def fillU : Nat → List Bool → List Bool
  | 0, u => u
  | _ + 1, [] => []
  | m + 1, true :: u => true :: fillU (m + 1) u
  | m + 1, false :: u => true :: fillU m u
def klog (n : Nat) : Nat := ((List.range 10).find? fun k => decide (n < 2 * 2 ^ k)).getD 9
def fullGo (k : Nat) (big : Bool) : List Bool → Nat → List Nat
  | [], _ => []
  | false :: u, sh => 0 :: fullGo k big u sh
  | true :: u, sh => if 0 < sh ∧ big = true then k :: fullGo k big u (sh - 1) else (k + 1) :: fullGo k big u sh
def fullU (u : List Bool) (least : Nat) : List Bool := fillU (least - nU u) u
def fullL (u : List Bool) (least : Nat) : List Nat := fullGo (klog (nU (fullU u least))) (decide (1 < nU (fullU u least))) (fullU u least) (2 * 2 ^ klog (nU (fullU u least)) - nU (fullU u least))
theorem klog_tab : ∀ n : _root_.Fin 321, n.val < 2 * 2 ^ klog n.val ∧ (2 ≤ n.val → 1 ≤ klog n.val ∧ 2 ^ klog n.val ≤ n.val) ∧ (n.val ≤ 1 → klog n.val = 0) ∧ klog n.val ≤ 8 := by decide +kernel
theorem klog_ok {n : Nat} (h : n ≤ 320) : n < 2 * 2 ^ klog n ∧ (2 ≤ n → 1 ≤ klog n ∧ 2 ^ klog n ≤ n) ∧ (n ≤ 1 → klog n = 0) ∧ klog n ≤ 8 := klog_tab ⟨n, by omega⟩
theorem nU_cons (b : Bool) (u : List Bool) : nU (b :: u) = (if b then 1 else 0) + nU u := by
  unfold nU
  cases b
  · simp
  · simp; omega
theorem nU_le (u : List Bool) : nU u ≤ u.length := List.length_filter_le _ _
theorem fillU_length : ∀ m u, (fillU m u).length = u.length := by
  intro m u
  induction u generalizing m with
  | nil => cases m <;> rfl
  | cons b u ih =>
    cases m with
    | zero => rfl
    | succ m => cases b <;> simp [fillU, ih]
theorem fillU_keeps : ∀ m (u : List Bool) (i : Nat), u[i]? = some true → (fillU m u)[i]? = some true := by
  intro m u
  induction u generalizing m with
  | nil => intro i h; simp at h
  | cons b u ih =>
    intro i h
    cases m with
    | zero => exact h
    | succ m =>
      cases i with
      | zero => cases b <;> simp [fillU]
      | succ i =>
        simp only [List.getElem?_cons_succ] at h
        cases b <;> simp only [fillU, List.getElem?_cons_succ]
        · exact ih m i h
        · exact ih (m + 1) i h
theorem fillU_nU : ∀ m (u : List Bool), m + nU u ≤ u.length → nU (fillU m u) = m + nU u := by
  intro m u
  induction u generalizing m with
  | nil => intro h; simp [nU] at h; subst h; rfl
  | cons b u ih =>
    intro h
    cases m with
    | zero => simp [fillU]
    | succ m =>
      rw [nU_cons] at h
      simp only [List.length_cons] at h
      cases b
      · simp only [fillU, nU_cons, Bool.false_eq_true, ↓reduceIte] at h ⊢
        rw [ih m (by omega)]
        omega
      · simp only [fillU, nU_cons, ↓reduceIte] at h ⊢
        rw [ih (m + 1) (by omega)]
        omega
theorem fullGo_length (k : Nat) (big : Bool) : ∀ u sh, (fullGo k big u sh).length = u.length := by
  intro u
  induction u with
  | nil => intro sh; rfl
  | cons b u ih =>
    intro sh
    cases b
    · simp [fullGo, ih]
    · unfold fullGo
      split <;> simp [ih]
theorem fullGo_le (k : Nat) (big : Bool) : ∀ u sh, ∀ x ∈ fullGo k big u sh, x ≤ k + 1 := by
  intro u
  induction u with
  | nil => intro sh x hx; cases hx
  | cons b u ih =>
    intro sh x hx
    cases b
    · rcases List.mem_cons.1 hx with rfl | hx
      · omega
      · exact ih _ x hx
    · unfold fullGo at hx
      split at hx <;> rcases List.mem_cons.1 hx with rfl | hx
      · omega
      · exact ih _ x hx
      · omega
      · exact ih _ x hx
theorem fullGo_has (k : Nat) (big : Bool) (hk : big = true → 0 < k) : ∀ u sh i, u[i]? = some true → Has (fullGo k big u sh) i := by
  intro u
  induction u with
  | nil => intro sh i h; simp at h
  | cons b u ih =>
    intro sh i h
    have lift : ∀ (x : Nat) (l : List Nat), Has l (i - 1) → 0 < i → Has (x :: l) i := fun x l hh hi => by
      obtain ⟨j, rfl⟩ : ∃ j, i = j + 1 := ⟨i - 1, by omega⟩
      obtain ⟨n, h1, h2⟩ := hh
      exact ⟨n, h1, by simpa using h2⟩
    cases i with
    | zero =>
      simp at h
      subst h
      unfold fullGo
      split
      · rename_i hc; exact ⟨k, hk hc.2, rfl⟩
      · exact ⟨k + 1, by omega, rfl⟩
    | succ i =>
      simp only [List.getElem?_cons_succ] at h
      cases b
      · exact lift _ _ (ih _ _ h) (by omega)
      · unfold fullGo
        split
        · exact lift _ _ (ih _ _ h) (by omega)
        · exact lift _ _ (ih _ _ h) (by omega)
theorem kraft_cons (m : Nat) (l : List Nat) : kraft (m :: l) = (if 0 < m then 2 ^ (15 - m) else 0) + kraft l := by simp [kraft]
theorem fullGo_kraft (k : Nat) (hk : 0 < k) (hk2 : k ≤ 13) : ∀ u sh, kraft (fullGo k true u sh) = (nU u + min sh (nU u)) * 2 ^ (14 - k) := by
  have e1 : 2 ^ (15 - k) = 2 * 2 ^ (14 - k) := by rw [show 15 - k = (14 - k) + 1 by omega, Nat.pow_succ]; omega
  have e2 : 15 - (k + 1) = 14 - k := by omega
  intro u
  induction u with
  | nil => intro sh; simp [fullGo, kraft, nU]
  | cons b u ih =>
    intro sh
    cases b
    · unfold fullGo
      rw [kraft_cons, ih, nU_cons]
      simp
    · unfold fullGo
      rw [nU_cons]
      simp only [↓reduceIte]
      by_cases hs : 0 < sh
      · rw [if_pos ⟨hs, trivial⟩, kraft_cons, if_pos hk, ih, e1, show min sh (1 + nU u) = 1 + min (sh - 1) (nU u) by omega]
        rw [show 1 + nU u + (1 + min (sh - 1) (nU u)) = 2 + (nU u + min (sh - 1) (nU u)) by omega, Nat.add_mul 2]
      · rw [if_neg (fun h => hs h.1), kraft_cons, if_pos (by omega), ih, e2, show min sh (1 + nU u) = 0 by omega, show min sh (nU u) = 0 by omega]
        rw [Nat.add_zero, Nat.add_zero, Nat.add_mul 1, Nat.one_mul]
theorem fullGo_few (sh : Nat) : ∀ u, kraft (fullGo 0 false u sh) = nU u * 16384 ∧ usedN (fullGo 0 false u sh) = nU u ∧ cnt (fullGo 0 false u sh) 1 = nU u := by
  intro u
  induction u with
  | nil => exact ⟨rfl, rfl, rfl⟩
  | cons b u ih =>
    obtain ⟨h1, h2, h3⟩ := ih
    cases b
    · unfold fullGo
      refine ⟨?_, ?_, ?_⟩
      · rw [kraft_cons, h1, nU_cons]; simp
      · rw [nU_cons, ← h2]; simp [usedN]
      · rw [nU_cons, ← h3, cnt_cons]; simp
    · unfold fullGo
      rw [if_neg (by simp)]
      refine ⟨?_, ?_, ?_⟩
      · rw [kraft_cons, h1, nU_cons]; simp; omega
      · rw [nU_cons, ← h2]; simp [usedN]; omega
      · rw [nU_cons, ← h3, cnt_cons]; simp
section
variable {u : List Bool} {least : Nat}
theorem fullL_length : (fullL u least).length = u.length := by unfold fullL fullU; rw [fullGo_length, fillU_length]
theorem fullL_has (hl : u.length ≤ 320) {i : Nat} (h : u[i]? = some true) : Has (fullL u least) i := by
  unfold fullL
  have hn : nU (fullU u least) ≤ 320 := Nat.le_trans (nU_le _) (by unfold fullU; rw [fillU_length]; exact hl)
  exact fullGo_has _ _ (fun hb => ((klog_ok hn).2.1 (of_decide_eq_true hb)).1) _ _ _ (fillU_keeps _ _ _ h)
theorem fullL_le (hl : u.length ≤ 320) : ∀ x ∈ fullL u least, x ≤ 9 := fun x hx => by
  have hn : nU (fullU u least) ≤ 320 := Nat.le_trans (nU_le _) (by unfold fullU; rw [fillU_length]; exact hl)
  have h1 := fullGo_le _ _ _ _ x hx
  have h2 := (klog_ok hn).2.2.2
  omega
theorem fullL_kraft (hl : u.length ≤ 320) (h2 : 2 ≤ nU (fullU u least)) : kraft (fullL u least) = 32768 := by
  have hn : nU (fullU u least) ≤ 320 := Nat.le_trans (nU_le _) (by unfold fullU; rw [fillU_length]; exact hl)
  unfold fullL
  generalize fullU u least = u' at *
  obtain ⟨k1, k2, _, k4⟩ := klog_ok hn
  obtain ⟨k5, k6⟩ := k2 h2
  rw [decide_eq_true (show 1 < nU u' by omega), fullGo_kraft _ (by omega) (by omega)]
  generalize klog (nU u') = k at *
  rw [show nU u' + min (2 * 2 ^ k - nU u') (nU u') = 2 ^ k * 2 by omega]
  have : 2 ^ k * 2 * 2 ^ (14 - k) = 2 ^ (k + 1 + (14 - k)) := by rw [Nat.pow_add, Nat.pow_succ]
  rw [this, show k + 1 + (14 - k) = 15 by omega]
theorem fullL_ok (hl : u.length ≤ 320) : newOk (fullL u least) = true := by
  have hn : nU (fullU u least) ≤ 320 := Nat.le_trans (nU_le _) (by unfold fullU; rw [fillU_length]; exact hl)
  by_cases h2 : 2 ≤ nU (fullU u least)
  · exact newOk_full (fullL_kraft hl h2)
  · obtain ⟨_, _, k3, _⟩ := klog_ok hn
    unfold fullL
    rw [k3 (by omega), decide_eq_false (by omega)]
    obtain ⟨h3, h4, h5⟩ := fullGo_few (2 * 2 ^ 0 - nU (fullU u least)) (fullU u least)
    unfold newOk
    rw [h3, h4, h5]
    generalize nU (fullU u least) = n at *
    have : n = 0 ∨ n = 1 := by omega
    rcases this with rfl | rfl <;> simp
theorem fullU_two (h : 2 ≤ u.length) (hl : least = 2) : 2 ≤ nU (fullU u least) := by
  unfold fullU
  subst hl
  rcases Nat.lt_or_ge (nU u) 2 with h1 | h1
  · rw [fillU_nU _ _ (by omega)]; omega
  · rw [show 2 - nU u = 0 by omega]
    rw [show fillU 0 u = u by cases u <;> rfl]
    exact h1
end

/-! ### how a row of lengths is told -/
structure Say where
  sym : Nat
  v : Nat
  n : Nat
def encSay (first : List Nat) (s : Say) : List Bool := code first s.sym ++ bitsOf s.n s.v
def encSays (first : List Nat) (l : List Say) : List Bool := l.flatMap (encSay first)
inductive Says (row : List Nat) : Nat → List Say → Nat → Prop where
  | nil (i : Nat) : Says row i [] i
  | one {i j x : Nat} {l : List Say} (h : row[i]? = some x) (t : Says row (i + 1) l j) : Says row i (⟨x, 0, 0⟩ :: l) j
  | long {i j n : Nat} {l : List Say} (h1 : 11 ≤ n) (h2 : n ≤ 138) (h3 : ∀ k, k < n → row[i + k]? = some 0) (t : Says row (i + n) l j) : Says row i (⟨18, n - 11, 7⟩ :: l) j
  | zero {i j n : Nat} {l : List Say} (h1 : 3 ≤ n) (h2 : n ≤ 10) (h3 : ∀ k, k < n → row[i + k]? = some 0) (t : Says row (i + n) l j) : Says row i (⟨17, n - 3, 3⟩ :: l) j
  | same {i j n : Nat} {x : Nat} {l : List Say} (h1 : 3 ≤ n) (h2 : n ≤ 6) (h0 : 0 < i) (hx : row[i - 1]? = some x) (h3 : ∀ k, k < n → row[i + k]? = some x) (t : Says row (i + n) l j) : Says row i (⟨16, n - 3, 2⟩ :: l) j
theorem take_rep {row : List Nat} {x : Nat} : ∀ (n i : Nat), (∀ k, k < n → row[i + k]? = some x) → row.take i ++ List.replicate n x = row.take (i + n) := by
  intro n
  induction n with
  | zero => intro i _; simp
  | succ n ih =>
    intro i h
    have h0 := h n (by omega)
    obtain ⟨h1, h2⟩ := List.getElem?_eq_some_iff.1 h0
    rw [List.replicate_succ', ← List.append_assoc, ih i (fun k hk => h k (by omega)), show i + (n + 1) = (i + n) + 1 by omega, List.take_succ_eq_append_getElem h1, h2]
/-- What the machine stands at while a row is told. -/
structure Tell (row first : List Nat) (a : Nat) (m : M) (i : Nat) : Prop where
  live : Live m
  st : (i < row.length ∧ m.ph = .len ∧ m.cd = first ∧ m.row = row.take i ∧ m.lits = a ∧ m.wanted = row.length) ∨ (i = row.length ∧ m.ph = .lit ∧ m.lt = row.take a ∧ m.ds = row.drop a)
section
variable {bs : List Bool} {row first : List Nat} {a : Nat} {out : List Int}
theorem Tell.lay {m : M} {i n x : Nat} (hok : newOk (row.take a) = true ∧ newOk (row.drop a) = true ∧ row.getD 256 0 ≠ 0) (hl : Live m) (hcd : m.cd = first) (hr : m.row = row.take i) (hli : m.lits = a) (hw : m.wanted = row.length) (hi : i ≤ row.length) (hn : 1 ≤ n) (h3 : ∀ k, k < n → row[i + k]? = some x) :
    Tell row first a (layM m n x) (i + n) ∧ (layM m n x).last = m.last := by
  have hin : i + n ≤ row.length := by
    have := (List.getElem?_eq_some_iff.1 (h3 (n - 1) (by omega))).1
    omega
  have hrl : (row.take i).length = i := by rw [List.length_take]; omega
  have htk := take_rep n i h3
  unfold layM
  rw [hr, hw, hli, hrl, if_neg (by omega), htk]
  dsimp only
  rw [List.length_take, Nat.min_eq_left hin]
  by_cases hlt : i + n < row.length
  · rw [if_pos hlt]
    exact ⟨⟨hl, .inl ⟨hlt, rfl, hcd, rfl, rfl, rfl⟩⟩, rfl⟩
  · rw [if_neg hlt]
    have e : i + n = row.length := by omega
    rw [e, List.take_length, hok.1, hok.2.1, decide_eq_true hok.2.2, if_pos (by rfl)]
    exact ⟨⟨hl, .inr ⟨rfl, rfl, rfl, rfl⟩⟩, rfl⟩
theorem Reach.tell (hok : newOk (row.take a) = true ∧ newOk (row.drop a) = true ∧ row.getD 256 0 ≠ 0) (ht : Tab first) (h9 : ∀ x ∈ row, x ≤ 9) {l : List Say} {i j : Nat} (h : Says row i l j) :
    ∀ (m : M) (pos : Nat) (rest : List Bool), Reach bs m out pos → Tell row first a m i → (∀ s ∈ l, Has first s.sym) → bs.drop pos = encSays first l ++ rest →
    ∃ m', Reach bs m' out (pos + (encSays first l).length) ∧ Tell row first a m' j ∧ m'.last = m.last := by
  have hsplit : ∀ s l, encSays first (s :: l) = encSay first s ++ encSays first l := fun s l => by unfold encSays; rw [List.flatMap_cons]
  -- a symbol, and what stands behind it
  have hrep : ∀ (m : M) (pos i n y v b x : Nat) (l : List Say) (rest : List Bool), Reach bs m out pos → Tell row first a m i → Has first y → 16 ≤ y → (y = 16 → 0 < i ∧ row[i - 1]? = some x) → (y ≠ 16 → x = 0) → repMore y = b → repLeast y + v = n → v < 2 ^ b → 1 ≤ n → (∀ k, k < n → row[i + k]? = some x) → bs.drop pos = (code first y ++ bitsOf b v) ++ rest →
      ∃ m', Reach bs m' out (pos + (code first y ++ bitsOf b v).length) ∧ Tell row first a m' (i + n) ∧ m'.last = m.last := by
    intro m pos i n y v b x l rest hr hT hu hy h16 h17 hb hn hv hn1 h3 hbs
    have hin := (List.getElem?_eq_some_iff.1 (h3 0 (by omega))).1
    rcases hT.st with ⟨c1, c2, c3, c4, c5, c6⟩ | ⟨c1, _⟩
    · rw [List.append_assoc] at hbs
      have p1 := drop_more hbs
      have hrl : (row.take i).length = i := by rw [List.length_take]; omega
      have r1 : Reach bs { m with sym := y, ph := .rep } out (pos + (code first y).length) := hr.step0 hT.live (by
        rw [step_len c2, c3, hbs, hu.dec ht]
        dsimp only
        unfold lenM
        rw [if_neg (by omega), if_neg (by rw [c4, hrl]; intro hc; have := h16 hc.1; omega), c3])
      obtain ⟨n1, n2⟩ := num_bits p1 hv
      have hx : repX ({ m with sym := y, ph := .rep } : M) = x := by
        unfold repX
        dsimp only
        by_cases hc : y = 16
        · obtain ⟨k1, k2⟩ := h16 hc
          rw [if_pos hc, c4, hrl, List.getD_eq_getElem?_getD, List.getElem?_take, if_pos (by omega), k2]
          rfl
        · rw [if_neg hc, h17 hc]
      obtain ⟨q1, q2⟩ := Tell.lay (m := ({ m with sym := y, ph := .rep } : M)) hok hT.live c3 c4 c5 c6 (by omega) hn1 h3
      have r2 : Reach bs (layM { m with sym := y, ph := .rep } n x) out (pos + (code first y).length + b) := r1.step0 hT.live (by
        rw [step_rep rfl]
        dsimp only
        rw [hb, if_pos n1, n2, hx, hn])
      refine ⟨_, ?_, q1, q2⟩
      rw [List.length_append, bitsOf_length, ← Nat.add_assoc]
      exact r2
    · omega
  induction h with
  | nil i => intro m pos rest hr hT _ _; exact ⟨m, hr, hT, rfl⟩
  | @one i j x l hx _ ih =>
    intro m pos rest hr hT hu hb
    rw [hsplit] at hb ⊢
    rw [List.append_assoc] at hb
    have hin := (List.getElem?_eq_some_iff.1 hx).1
    have hx9 := h9 x (List.mem_of_getElem? hx)
    rcases hT.st with ⟨c1, c2, c3, c4, c5, c6⟩ | ⟨c1, _⟩
    · have e0 : encSay first ⟨x, 0, 0⟩ = code first x := by unfold encSay; show _ ++ [] = _; rw [List.append_nil]
      rw [e0] at hb ⊢
      obtain ⟨q1, q2⟩ := Tell.lay (n := 1) (x := x) hok hT.live c3 c4 c5 c6 (by omega) (Nat.le_refl _) (fun k hk => by rw [show k = 0 by omega]; exact hx)
      have r1 : Reach bs (layM m 1 x) out (pos + (code first x).length) := hr.step0 hT.live (by
        rw [step_len c2, c3, hb, (hu _ (List.mem_cons_self ..)).dec ht]
        dsimp only
        unfold lenM
        rw [if_pos (by omega)])
      obtain ⟨m', k1, k2, k3⟩ := ih _ _ rest r1 q1 (fun s hs => hu s (List.mem_cons_of_mem _ hs)) (drop_more hb)
      refine ⟨m', ?_, k2, k3.trans q2⟩
      rw [List.length_append, ← Nat.add_assoc]
      exact k1
    · omega
  | @long i j n l h1 h2 h3 _ ih =>
    intro m pos rest hr hT hu hb
    rw [hsplit] at hb ⊢
    rw [List.append_assoc] at hb
    obtain ⟨m1, r1, r2, r3⟩ := hrep m pos i n 18 (n - 11) 7 0 l _ hr hT (hu _ (List.mem_cons_self ..)) (by omega) (fun h => by omega) (fun _ => rfl) rfl (by show 11 + (n - 11) = n; omega) (by omega) (by omega) h3 hb
    obtain ⟨m', k1, k2, k3⟩ := ih _ _ rest r1 r2 (fun s hs => hu s (List.mem_cons_of_mem _ hs)) (drop_more hb)
    refine ⟨m', ?_, k2, k3.trans r3⟩
    rw [List.length_append, ← Nat.add_assoc]
    exact k1
  | @zero i j n l h1 h2 h3 _ ih =>
    intro m pos rest hr hT hu hb
    rw [hsplit] at hb ⊢
    rw [List.append_assoc] at hb
    obtain ⟨m1, r1, r2, r3⟩ := hrep m pos i n 17 (n - 3) 3 0 l _ hr hT (hu _ (List.mem_cons_self ..)) (by omega) (fun h => by omega) (fun _ => rfl) rfl (by show 3 + (n - 3) = n; omega) (by omega) (by omega) h3 hb
    obtain ⟨m', k1, k2, k3⟩ := ih _ _ rest r1 r2 (fun s hs => hu s (List.mem_cons_of_mem _ hs)) (drop_more hb)
    refine ⟨m', ?_, k2, k3.trans r3⟩
    rw [List.length_append, ← Nat.add_assoc]
    exact k1
  | @same i j n x l h1 h2 h0 hx h3 _ ih =>
    intro m pos rest hr hT hu hb
    rw [hsplit] at hb ⊢
    rw [List.append_assoc] at hb
    obtain ⟨m1, r1, r2, r3⟩ := hrep m pos i n 16 (n - 3) 2 x l _ hr hT (hu _ (List.mem_cons_self ..)) (by omega) (fun h => ⟨h0, hx⟩) (fun h => absurd rfl h) rfl (by show 3 + (n - 3) = n; omega) (by omega) (by omega) h3 hb
    obtain ⟨m', k1, k2, k3⟩ := ih _ _ rest r1 r2 (fun s hs => hu s (List.mem_cons_of_mem _ hs)) (drop_more hb)
    refine ⟨m', ?_, k2, k3.trans r3⟩
    rw [List.length_append, ← Nat.add_assoc]
    exact k1
end
end Go.Proofs.YtdpnlmofkkdioaaDoor.Hf
