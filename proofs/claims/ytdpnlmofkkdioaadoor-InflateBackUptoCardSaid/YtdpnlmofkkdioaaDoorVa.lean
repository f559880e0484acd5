/- What is written: codes, numbers, copies, against the machine (plain). -/
import Derived.Test.YtdpnlmofkkdioaaDoorTn
namespace Go.Proofs.YtdpnlmofkkdioaaDoor.Hf
set_option linter.unusedVariables false
set_option linter.unusedSimpArgs false
open Go.RowKit Go.Proofs.YtdpnlmofkkdioaaDoor.W

/-! ### a code that is written is read -/
theorem fst_grow (lens : List Nat) (k : Nat) : ∀ j, (fst_ lens k + cnt lens k) * 2 ^ (j + 1) ≤ fst_ lens (k + (j + 1)) := by
  intro j
  induction j with
  | zero => show _ ≤ 2 * (fst_ lens k + cnt lens k); omega
  | succ j ih =>
    show _ ≤ 2 * (fst_ lens (k + (j + 1)) + cnt lens (k + (j + 1)))
    rw [Nat.pow_succ, ← Nat.mul_assoc]
    omega
theorem dec_code {lens : List Nat} (ht : Tab lens) {s k : Nat} (hk : 0 < k) (hs : lens[s]? = some k) (rest : List Bool) : dec lens (code lens s ++ rest) = .got s k := by
  have hl := code_length hs
  have hm := code_mnum ht hk hs
  refine decG_hit ht hk (by rw [List.length_append, hl]; omega) hs (by rw [List.take_left' hl]) (fun k' h1 h2 => ?_) k 0 _ (by omega) (by rw [List.length_append, hl]; omega)
  unfold hit
  rw [List.take_append_of_le_length (by rw [hl]; omega)]
  have e := mnum_append ((code lens s).take k') ((code lens s).drop k')
  rw [List.take_append_drop, hm, List.length_drop, hl] at e
  have hd := mnum_lt ((code lens s).drop k')
  rw [List.length_drop, hl] at hd
  obtain ⟨j, rfl⟩ : ∃ j, k = k' + (j + 1) := ⟨k - k' - 1, by omega⟩
  have hg := fst_grow lens k' j
  rw [show k' + (j + 1) - k' = j + 1 by omega] at e hd
  intro hh
  have h3 := Nat.mul_le_mul_right (2 ^ (j + 1)) (show mnum ((code lens s).take k') + 1 ≤ fst_ lens k' + cnt lens k' by omega)
  rw [Nat.add_mul] at h3
  omega
def Has (lens : List Nat) (s : Nat) : Prop := ∃ k, 0 < k ∧ lens[s]? = some k
theorem Has.dec {lens : List Nat} (ht : Tab lens) {s : Nat} (h : Has lens s) (rest : List Bool) : dec lens (code lens s ++ rest) = .got s (code lens s).length := by
  obtain ⟨k, hk, hs⟩ := h
  rw [dec_code ht hk hs, code_length hs]
theorem Has.pos {lens : List Nat} {s : Nat} (h : Has lens s) : 0 < (code lens s).length := by
  obtain ⟨k, hk, hs⟩ := h
  rw [code_length hs]
  exact hk

/-! ### symbols of lengths and distances -/
def lsy (L : Nat) : Nat := ((List.range 28).find? fun s => decide (L < lL.getD s 0 + 2 ^ mL.getD s 0 ∧ L ≠ 258)).getD 28
def dsy (D : Nat) : Nat := ((List.range 30).find? fun s => decide (D < lB.getD s 0 + 2 ^ mB.getD s 0)).getD 29
theorem lsy_tab : ∀ L : _root_.Fin 259, 3 ≤ L.val → lsy L.val ≤ 28 ∧ lL.getD (lsy L.val) 0 ≤ L.val ∧ L.val < lL.getD (lsy L.val) 0 + 2 ^ mL.getD (lsy L.val) 0 := by decide +kernel
theorem dsy_tab : ∀ D : _root_.Fin 201, 1 ≤ D.val → dsy D.val ≤ 15 ∧ lB.getD (dsy D.val) 0 ≤ D.val ∧ D.val < lB.getD (dsy D.val) 0 + 2 ^ mB.getD (dsy D.val) 0 := by decide +kernel
theorem lsy_ok {L : Nat} (h1 : 3 ≤ L) (h2 : L ≤ 258) : lsy L ≤ 28 ∧ lL.getD (lsy L) 0 ≤ L ∧ L < lL.getD (lsy L) 0 + 2 ^ mL.getD (lsy L) 0 := lsy_tab ⟨L, by omega⟩ h1
theorem dsy_ok {D : Nat} (h1 : 1 ≤ D) (h2 : D ≤ 200) : dsy D ≤ 15 ∧ lB.getD (dsy D) 0 ≤ D ∧ D < lB.getD (dsy D) 0 + 2 ^ mB.getD (dsy D) 0 := dsy_tab ⟨D, by omega⟩ h1

/-! ### tokens -/
structure Tok where
  x : Int
  len : Nat
  dist : Nat
inductive Toks (b : List Int) : Nat → List Tok → Nat → Prop where
  | nil (i : Nat) : Toks b i [] i
  | lit {i j : Nat} {x : Int} {l : List Tok} (h : b[i]? = some x) (t : Toks b (i + 1) l j) : Toks b i (⟨x, 0, 0⟩ :: l) j
  | cpy {i j L D : Nat} {l : List Tok} (h1 : 3 ≤ L) (h2 : L ≤ 258) (h3 : 1 ≤ D) (h4 : D ≤ 200) (h5 : D ≤ i) (h6 : i + L ≤ b.length) (h7 : ∀ n, n < L → b[i + n]? = b[i + n - D]?) (t : Toks b (i + L) l j) : Toks b i (⟨0, L, D⟩ :: l) j
def encTok (lt ds : List Nat) (t : Tok) : List Bool :=
  if t.len = 0 then code lt t.x.toNat
  else code lt (257 + lsy t.len) ++ (bitsOf (mL.getD (lsy t.len) 0) (t.len - lL.getD (lsy t.len) 0) ++ (code ds (dsy t.dist) ++ bitsOf (mB.getD (dsy t.dist) 0) (t.dist - lB.getD (dsy t.dist) 0)))
def encToks (lt ds : List Nat) (l : List Tok) : List Bool := l.flatMap (encTok lt ds)
def Uses (lt ds : List Nat) (t : Tok) : Prop := if t.len = 0 then Has lt t.x.toNat else Has lt (257 + lsy t.len) ∧ Has ds (dsy t.dist)

/-! ### where the machine comes to -/
def Reach (bs : List Bool) (m : M) (out : List Int) (pos : Nat) : Prop := ∃ ts, Path bs st0 ⟨m, out, ts, pos⟩
section
variable {bs rest : List Bool} {m m' : M} {out o : List Int} {pos k : Nat}
theorem Reach.step (h : Reach bs m out pos) (hl : Live m) (hs : Hf.step m out (bs.drop pos) = some (m', o, k)) : Reach bs m' (out ++ o) (pos + k) := by
  obtain ⟨ts, h1⟩ := h
  exact ⟨_, h1.snoc (next_of (s := ⟨m, out, ts, pos⟩) hl hs)⟩
theorem Reach.step0 (h : Reach bs m out pos) (hl : Live m) (hs : Hf.step m out (bs.drop pos) = some (m', [], k)) : Reach bs m' out (pos + k) := by
  have := h.step hl hs
  rw [List.append_nil] at this
  exact this
theorem Reach.le (h : Reach bs m out pos) : pos ≤ bs.length := by
  obtain ⟨ts, h1⟩ := h
  exact (h1.pos (Nat.zero_le _)).2
theorem drop_more {a : List Bool} (h : bs.drop pos = a ++ rest) : bs.drop (pos + a.length) = rest := by rw [← List.drop_drop, h, List.drop_left]
theorem num_bits {n v : Nat} (h : bs.drop pos = bitsOf n v ++ rest) (hv : v < 2 ^ n) : n ≤ (bs.drop pos).length ∧ Hf.num ((bs.drop pos).take n) = v := by
  have hl := bitsOf_length n v
  rw [h]
  refine ⟨by rw [List.length_append, hl]; omega, ?_⟩
  rw [List.take_left' hl, num_bitsOf n v hv]
end
theorem take_next {b : List Int} {i : Nat} {x : Int} (h : b[i]? = some x) : b.take i ++ [x] = b.take (i + 1) := by
  obtain ⟨h1, h2⟩ := List.getElem?_eq_some_iff.1 h
  rw [List.take_succ_eq_append_getElem h1, h2]
/-- A literal. -/
theorem Reach.lit {bs : List Bool} {m : M} {out : List Int} {pos : Nat} {rest : List Bool} {x : Nat} (h : Reach bs m out pos) (hl : Live m) (hph : m.ph = .lit) (ht : Tab m.lt) (hx : x < 256) (hh : Has m.lt x) (hb : bs.drop pos = code m.lt x ++ rest) : Reach bs m (out ++ [(x : Int)]) (pos + (code m.lt x).length) := by
  refine h.step hl ?_
  rw [step_lit hph, hb, hh.dec ht]
  dsimp only
  unfold litM
  rw [if_neg (by omega), if_pos hx]
/-- A copy that runs. -/
theorem Reach.run {bs : List Bool} {b : List Int} {pos D : Nat} : ∀ (L i : Nat) (m : M), Reach bs m (b.take i) pos → Live m → m.ph = .cpy → m.left = L + 1 → m.back = D → D ≤ i → i + (L + 1) ≤ b.length → (∀ n, n < L + 1 → b[i + n]? = b[i + n - D]?) → 1 ≤ D →
    ∃ m', Reach bs m' (b.take (i + (L + 1))) pos ∧ Live m' ∧ m'.ph = .lit ∧ m'.lt = m.lt ∧ m'.ds = m.ds ∧ m'.last = m.last := by
  intro L
  induction L with
  | zero =>
    intro i m h hl hph hle hbk hDi hib hn hD
    obtain ⟨x, hx⟩ : ∃ x, b[i]? = some x := ⟨_, List.getElem?_eq_getElem (by omega)⟩
    have h0 := hn 0 (by omega)
    rw [Nat.add_zero] at h0
    have hg : (b.take i).getD ((b.take i).length - m.back) 0 = x := by
      rw [List.length_take, Nat.min_eq_left (by omega), hbk, List.getD_eq_getElem?_getD, List.getElem?_take, if_pos (by omega), ← h0, hx]
      rfl
    have h1 := h.step hl (step_cpy hph)
    rw [hg, hle, take_next hx, Nat.add_zero] at h1
    exact ⟨_, h1, hl, by show (if (0 + 1 : Nat) = 1 then Ph.lit else Ph.cpy) = Ph.lit; exact if_pos rfl, rfl, rfl, rfl⟩
  | succ L ih =>
    intro i m h hl hph hle hbk hDi hib hn hD
    obtain ⟨x, hx⟩ : ∃ x, b[i]? = some x := ⟨_, List.getElem?_eq_getElem (by omega)⟩
    have h0 := hn 0 (by omega)
    rw [Nat.add_zero] at h0
    have hg : (b.take i).getD ((b.take i).length - m.back) 0 = x := by
      rw [List.length_take, Nat.min_eq_left (by omega), hbk, List.getD_eq_getElem?_getD, List.getElem?_take, if_pos (by omega), ← h0, hx]
      rfl
    have h1 := h.step hl (step_cpy hph)
    rw [hg, hle, take_next hx, Nat.add_zero] at h1
    obtain ⟨m', h2, h3, h4, h5, h6, h7⟩ := ih (i + 1) _ h1 hl (by show (if (L + 1 + 1 : Nat) = 1 then Ph.lit else Ph.cpy) = Ph.cpy; exact if_neg (by omega)) (by show L + 1 + 1 - 1 = L + 1; omega) hbk (by omega) (by omega) (fun n hn1 => by
      have := hn (n + 1) (by omega)
      rw [show i + 1 + n = i + (n + 1) by omega]
      exact this) hD
    exact ⟨m', by rw [show i + (L + 1 + 1) = i + 1 + (L + 1) by omega]; exact h2, h3, h4, h5, h6, h7⟩
/-- A copy. -/
theorem Reach.cpy {bs : List Bool} {b : List Int} {pos i L D : Nat} {m : M} {rest : List Bool} (h : Reach bs m (b.take i) pos) (hl : Live m) (hph : m.ph = .lit) (ht : Tab m.lt) (hd : Tab m.ds) (h1 : 3 ≤ L) (h2 : L ≤ 258) (h3 : 1 ≤ D) (h4 : D ≤ 200) (h5 : D ≤ i) (h6 : i + L ≤ b.length) (h7 : ∀ n, n < L → b[i + n]? = b[i + n - D]?)
    (hu : Has m.lt (257 + lsy L)) (hu2 : Has m.ds (dsy D)) (hb : bs.drop pos = encTok m.lt m.ds ⟨0, L, D⟩ ++ rest) :
    ∃ m', Reach bs m' (b.take (i + L)) (pos + (encTok m.lt m.ds ⟨0, L, D⟩).length) ∧ Live m' ∧ m'.ph = .lit ∧ m'.lt = m.lt ∧ m'.ds = m.ds ∧ m'.last = m.last := by
  obtain ⟨a1, a2, a3⟩ := lsy_ok h1 h2
  obtain ⟨c1, c2, c3⟩ := dsy_ok h3 h4
  unfold encTok at hb ⊢
  dsimp only at hb ⊢
  rw [if_neg (by omega)] at hb ⊢
  generalize lsy L = y at *
  generalize dsy D = z at *
  rw [List.append_assoc, List.append_assoc, List.append_assoc] at hb
  have p1 := drop_more hb
  have p2 := drop_more p1
  have p3 := drop_more p2
  -- the length's symbol
  have r1 : Reach bs { m with sym := y, ph := .lbits } (b.take i) (pos + (code m.lt (257 + y)).length) := h.step0 hl (by
    rw [step_lit hph, hb, hu.dec ht]
    dsimp only
    unfold litM
    rw [if_neg (by omega), if_neg (by omega), if_neg (by omega), show 257 + y - 257 = y by omega])
  -- its bits
  obtain ⟨n1, n2⟩ := num_bits p1 (Nat.sub_lt_left_of_lt_add a2 a3)
  have r2 : Reach bs { m with sym := y, left := L, ph := .dst } (b.take i) (pos + (code m.lt (257 + y)).length + mL.getD y 0) := r1.step0 hl (by
    rw [step_lbits rfl]
    dsimp only
    rw [if_pos n1, n2, show lL.getD y 0 + (L - lL.getD y 0) = L by omega])
  rw [bitsOf_length] at p2 p3
  -- the distance's symbol
  have r3 : Reach bs { m with sym := z, left := L, ph := .dbits } (b.take i) (pos + (code m.lt (257 + y)).length + mL.getD y 0 + (code m.ds z).length) := r2.step0 hl (by
    rw [step_dst rfl]
    dsimp only
    rw [p2, hu2.dec hd]
    dsimp only
    unfold dstM
    rw [if_neg (by omega)])
  -- its bits
  obtain ⟨n3, n4⟩ := num_bits p3 (Nat.sub_lt_left_of_lt_add c2 c3)
  have hback : lB.getD z 0 + (D - lB.getD z 0) = D := by omega
  have r4 : Reach bs { m with sym := z, left := L, back := D, ph := .cpy } (b.take i) (pos + (code m.lt (257 + y)).length + mL.getD y 0 + (code m.ds z).length + mB.getD z 0) := r3.step0 hl (by
    rw [step_dbits rfl]
    dsimp only
    rw [if_pos n3, n4, hback]
    unfold dbM
    rw [if_neg (by rw [List.length_take]; omega)])
  obtain ⟨m', q1, q2, q3, q4, q5, q6⟩ := Reach.run (L - 1) i _ r4 hl rfl (by dsimp only; omega) rfl h5 (by omega) (fun n hn => h7 n (by omega)) h3
  refine ⟨m', ?_, q2, q3, q4, q5, q6⟩
  rw [show i + (L - 1 + 1) = i + L by omega] at q1
  simp only [List.length_append, bitsOf_length] at q1 ⊢
  have e : ∀ a b c d : Nat, pos + a + b + c + d = pos + (a + (b + (c + d))) := fun a b c d => by omega
  rw [← e]
  exact q1
/-- Tokens. -/
theorem Reach.toks {bs : List Bool} {b : List Int} (hby : Bytes b) {l : List Tok} {i j : Nat} (h : Toks b i l j) : ∀ (m : M) (pos : Nat) (rest : List Bool), Reach bs m (b.take i) pos → Live m → m.ph = .lit → Tab m.lt → Tab m.ds → (∀ t ∈ l, Uses m.lt m.ds t) → bs.drop pos = encToks m.lt m.ds l ++ rest →
    ∃ m', Reach bs m' (b.take j) (pos + (encToks m.lt m.ds l).length) ∧ Live m' ∧ m'.ph = .lit ∧ m'.lt = m.lt ∧ m'.ds = m.ds ∧ m'.last = m.last := by
  induction h with
  | nil i => intro m pos rest h hl hph _ _ _ _; exact ⟨m, h, hl, hph, rfl, rfl, rfl⟩
  | @lit i j x l hx _ ih =>
    intro m pos rest h hl hph ht hd hu hb
    have hx2 := hby x (List.mem_of_getElem? hx)
    have hu1 : Has m.lt x.toNat := by have := hu _ (List.mem_cons_self ..); unfold Uses at this; rw [if_pos rfl] at this; exact this
    have e : encToks m.lt m.ds (⟨x, 0, 0⟩ :: l) = code m.lt x.toNat ++ encToks m.lt m.ds l := by unfold encToks; rw [List.flatMap_cons]; rfl
    rw [e] at hb ⊢
    rw [List.append_assoc] at hb
    have r1 := h.lit hl hph ht (by omega) hu1 hb
    rw [show ((x.toNat : Nat) : Int) = x by omega, take_next hx] at r1
    obtain ⟨m', q1, q2⟩ := ih m _ rest r1 hl hph ht hd (fun t ht => hu t (List.mem_cons_of_mem _ ht)) (drop_more hb)
    rw [List.length_append, ← Nat.add_assoc]
    exact ⟨m', q1, q2⟩
  | @cpy i j L D l h1 h2 h3 h4 h5 h6 h7 _ ih =>
    intro m pos rest h hl hph ht hd hu hb
    have hu1 : Has m.lt (257 + lsy L) ∧ Has m.ds (dsy D) := by have := hu _ (List.mem_cons_self ..); unfold Uses at this; rw [if_neg (by dsimp only; omega)] at this; exact this
    have e : encToks m.lt m.ds (⟨0, L, D⟩ :: l) = encTok m.lt m.ds ⟨0, L, D⟩ ++ encToks m.lt m.ds l := by unfold encToks; rw [List.flatMap_cons]
    rw [e] at hb ⊢
    rw [List.append_assoc] at hb
    obtain ⟨m1, r1, r2, r3, r4, r5, r6⟩ := h.cpy hl hph ht hd h1 h2 h3 h4 h5 h6 h7 hu1.1 hu1.2 hb
    have hb2 : bs.drop (pos + (encTok m.lt m.ds ⟨0, L, D⟩).length) = encToks m1.lt m1.ds l ++ rest := by rw [r4, r5]; exact drop_more hb
    obtain ⟨m', q1, q2, q3, q4, q5, q6⟩ := ih m1 _ rest r1 r2 r3 (by rw [r4]; exact ht) (by rw [r5]; exact hd) (fun t ht => by rw [r4, r5]; exact hu t (List.mem_cons_of_mem _ ht)) hb2
    rw [r4, r5] at q1
    rw [List.length_append, ← Nat.add_assoc]
    exact ⟨m', q1, q2, q3, q4.trans r4, q5.trans r5, q6.trans r6⟩
/-- A block's body. -/
theorem Reach.body {bs : List Bool} {b : List Int} (hby : Bytes b) {l : List Tok} {i j pos : Nat} {m : M} {rest : List Bool} (h : Toks b i l j) (hr : Reach bs m (b.take i) pos) (hl : Live m) (hph : m.ph = .lit) (ht : Tab m.lt) (hd : Tab m.ds) (hu : ∀ t ∈ l, Uses m.lt m.ds t) (he : Has m.lt 256) (hb : bs.drop pos = encToks m.lt m.ds l ++ code m.lt 256 ++ rest) :
    ∃ m', Reach bs m' (b.take j) (pos + (encToks m.lt m.ds l ++ code m.lt 256).length) ∧ m'.ph = .head ∧ m'.fin = m.last ∧ m'.last = m.last ∧ m'.why = 0 := by
  rw [List.append_assoc] at hb
  obtain ⟨m1, q1, q2, q3, q4, q5, q6⟩ := Reach.toks hby h m pos _ hr hl hph ht hd hu hb
  have hb2 := drop_more hb
  have r1 : Reach bs (overM m1) (b.take j) (pos + (encToks m.lt m.ds l).length + (code m.lt 256).length) := q1.step0 q2 (by
    rw [step_lit q3, q4, hb2, he.dec ht]
    dsimp only
    unfold litM
    rw [if_neg (by omega), if_neg (by omega), if_pos rfl])
  rw [List.length_append, ← Nat.add_assoc]
  exact ⟨_, r1, rfl, q6, q6, q2.1⟩
end Go.Proofs.YtdpnlmofkkdioaaDoor.Hf
