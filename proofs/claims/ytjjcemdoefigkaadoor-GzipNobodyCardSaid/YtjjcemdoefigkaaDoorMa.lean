/- The machine that gives back what was deflated (plain). -/
import Derived.Test.YtjjcemdoefigkaaDoorIa
namespace Go.Proofs.YtjjcemdoefigkaaDoor.Hf
set_option linter.unusedVariables false
set_option linter.unusedSimpArgs false

/-- What comes next. -/
inductive Ph where
  | head | sth | sto | cts | lol | len | rep | lit | lbits | dst | dbits | cpy
structure M where
  ph : Ph
  last : Bool
  fin : Bool
  why : Nat
  lt : List Nat
  ds : List Nat
  cd : List Nat
  row : List Nat
  fl : List Nat
  lits : Nat
  wanted : Nat
  order : Nat
  sym : Nat
  left : Nat
  back : Nat
def fixL : List Nat := List.replicate 144 8 ++ (List.replicate 112 9 ++ (List.replicate 24 7 ++ List.replicate 8 8))
def fixD : List Nat := List.replicate 32 5
def ord : List Nat := [16, 17, 18, 0, 8, 7, 9, 6, 10, 5, 11, 4, 12, 3, 13, 2, 14, 1, 15]
def lL : List Nat := [3, 4, 5, 6, 7, 8, 9, 10, 11, 13, 15, 17, 19, 23, 27, 31, 35, 43, 51, 59, 67, 83, 99, 115, 131, 163, 195, 227, 258]
def mL : List Nat := [0, 0, 0, 0, 0, 0, 0, 0, 1, 1, 1, 1, 2, 2, 2, 2, 3, 3, 3, 3, 4, 4, 4, 4, 5, 5, 5, 5, 0]
def lB : List Nat := [1, 2, 3, 4, 5, 7, 9, 13, 17, 25, 33, 49, 65, 97, 129, 193, 257, 385, 513, 769, 1025, 1537, 2049, 3073, 4097, 6145, 8193, 12289, 16385, 24577]
def mB : List Nat := [0, 0, 0, 0, 1, 1, 2, 2, 3, 3, 4, 4, 5, 5, 6, 6, 7, 7, 8, 8, 9, 9, 10, 10, 11, 11, 12, 12, 13, 13]
/-- How many symbols have a code. -/
def usedN (ls : List Nat) : Nat := (ls.filter fun n => decide (0 < n)).length
/-- A table can be made. -/
def newOk (ls : List Nat) : Bool := decide (kraft ls ≤ 32768) && !(decide (kraft ls < 32768) && (decide (0 < usedN ls) && !(decide (usedN ls = 1) && decide (cnt ls 1 = 1))))
abbrev Out := M × List Int × Nat
def overM (m : M) : M := { m with fin := m.last, ph := .head }
def stopM (m : M) (why : Nat) : M := { m with why := why }
def headM (m : M) (v p : Nat) : Out :=
  let m1 := { m with last := decide (v % 2 = 1) }
  match v / 2 with
  | 0 => ({ m1 with ph := .sth }, [], 3 + p)
  | 1 => ({ m1 with ph := .lit, lt := fixL, ds := fixD }, [], 3)
  | 2 => ({ m1 with ph := .cts }, [], 3)
  | _ => (stopM m1 10, [], 3)
def sthM (m : M) (v : Nat) : M :=
  if v % 65536 + v / 65536 = 65535 then { m with left := v % 65536, ph := .sto } else stopM { m with left := v % 65536 } 11
def stoM (m : M) : M := if m.left = 1 then overM { m with left := 0 } else { m with left := m.left - 1 }
def ctsM (m : M) (v : Nat) : M :=
  let l := 257 + v % 32
  let b := 1 + v / 32 % 32
  if l > 286 ∨ b > 30 then stopM { m with lits := l } 12
  else { m with lits := l, wanted := l + b, left := 4 + v / 1024, order := 0, fl := List.replicate 19 0, ph := .lol }
def lolM (m : M) (v : Nat) : M :=
  let f := m.fl.set (ord.getD m.order 0) v
  let m1 := { m with fl := f, order := m.order + 1 }
  if m.order + 1 < m.left then m1
  else if kraft f = 32768 then { m1 with cd := f, row := [], ph := .len } else stopM m1 12
def layM (m : M) (n x : Nat) : M :=
  if m.row.length + n > m.wanted then stopM m 12
  else
    let r := m.row ++ List.replicate n x
    if r.length < m.wanted then { m with row := r, ph := .len }
    else if newOk (r.take m.lits) && (newOk (r.drop m.lits) && decide (r.getD 256 0 ≠ 0)) then { m with row := r, lt := r.take m.lits, ds := r.drop m.lits, ph := .lit }
    else stopM { m with row := r } 12
def lenM (m : M) (s : Nat) : M :=
  if s < 16 then layM m 1 s
  else if s = 16 ∧ m.row.length = 0 then stopM m 12 else { m with sym := s, ph := .rep }
def repMore (s : Nat) : Nat := if s = 16 then 2 else if s = 17 then 3 else 7
def repLeast (s : Nat) : Nat := if s = 16 then 3 else if s = 17 then 3 else 11
def repX (m : M) : Nat := if m.sym = 16 then m.row.getD (m.row.length - 1) 0 else 0
def litM (m : M) (s k : Nat) : Out :=
  if s > 285 then (stopM m 13, [], k)
  else if s < 256 then (m, [(s : Int)], k)
  else if s = 256 then (overM m, [], k)
  else ({ m with sym := s - 257, ph := .lbits }, [], k)
def dstM (m : M) (s : Nat) : M := if s > 29 then stopM m 13 else { m with sym := s, ph := .dbits }
def dbM (m : M) (out : List Int) (b : Nat) : M := if b > out.length then stopM { m with back := b } 14 else { m with back := b, ph := .cpy }
def step (m : M) (out : List Int) (bs : List Bool) : Option Out :=
  match m.ph with
  | .head => if 3 ≤ bs.length then some (headM m (num (bs.take 3)) ((bs.length - 3) % 8)) else none
  | .sth => if 32 ≤ bs.length then some (sthM m (num (bs.take 32)), [], 32) else none
  | .sto => if m.left = 0 then some (overM m, [], 0) else if 8 ≤ bs.length then some (stoM m, [((num (bs.take 8) : Nat) : Int)], 8) else none
  | .cts => if 14 ≤ bs.length then some (ctsM m (num (bs.take 14)), [], 14) else none
  | .lol => if 3 ≤ bs.length then some (lolM m (num (bs.take 3)), [], 3) else none
  | .len => match dec m.cd bs with
    | .got s k => some (lenM m s, [], k)
    | _ => none
  | .rep => if repMore m.sym ≤ bs.length then some (layM m (repLeast m.sym + num (bs.take (repMore m.sym))) (repX m), [], repMore m.sym) else none
  | .lit => match dec m.lt bs with
    | .got s k => some (litM m s k)
    | .bad j => some (stopM m 13, [], j)
    | .more => none
  | .lbits => if mL.getD m.sym 0 ≤ bs.length then some ({ m with left := lL.getD m.sym 0 + num (bs.take (mL.getD m.sym 0)), ph := .dst }, [], mL.getD m.sym 0) else none
  | .dst => match dec m.ds bs with
    | .got s k => some (dstM m s, [], k)
    | .bad j => some (stopM m 13, [], j)
    | .more => none
  | .dbits => if mB.getD m.sym 0 ≤ bs.length then some (dbM m out (lB.getD m.sym 0 + num (bs.take (mB.getD m.sym 0))), [], mB.getD m.sym 0) else none
  | .cpy => some ({ m with left := m.left - 1, ph := if m.left = 1 then .lit else .cpy }, [out.getD (out.length - m.back) 0], 0)

/-! ### what fewer bits do -/
/-- Where a decoding ends. -/
theorem decG_char {lens : List Nat} {bs : List Bool} : ∀ f j, j + f = bs.length + 1 →
    ((∀ i, j ≤ i → i ≤ bs.length → lookAt lens (bs.take i) = .more) ∧ decG lens bs f j = .more) ∨
    ∃ n, j ≤ n ∧ n ≤ bs.length ∧ (∀ i, j ≤ i → i < n → lookAt lens (bs.take i) = .more) ∧
      ((∃ s k, lookAt lens (bs.take n) = .got s k ∧ decG lens bs f j = .got s k) ∨ (lookAt lens (bs.take n) = .bad ∧ decG lens bs f j = .bad n)) := by
  intro f
  induction f with
  | zero => intro j h; exact .inl ⟨fun i h1 h2 => by omega, rfl⟩
  | succ f ih =>
    intro j h
    cases hl : lookAt lens (bs.take j) with
    | got s k => exact .inr ⟨j, Nat.le_refl _, by omega, fun i h1 h2 => by omega, .inl ⟨s, k, hl, by rw [decG, hl]⟩⟩
    | bad => exact .inr ⟨j, Nat.le_refl _, by omega, fun i h1 h2 => by omega, .inr ⟨hl, by rw [decG, hl]⟩⟩
    | more =>
      by_cases hj : j < bs.length
      · have e : decG lens bs (f + 1) j = decG lens bs f (j + 1) := by rw [decG, hl]; dsimp only; rw [if_pos hj]
        rw [e]
        have h9 : ∀ i n, (∀ i, j + 1 ≤ i → i < n → lookAt lens (bs.take i) = .more) → j ≤ i → i < n → lookAt lens (bs.take i) = .more := fun i n h3 h1 h2 => by
          rcases Nat.eq_or_lt_of_le h1 with rfl | h4
          · exact hl
          · exact h3 i h4 h2
        rcases ih (j + 1) (by omega) with ⟨h1, h2⟩ | ⟨n, h1, h2, h3, h4⟩
        · exact .inl ⟨fun i h5 h6 => h9 i (bs.length + 1) (fun i h7 h8 => h1 i h7 (by omega)) h5 (by omega), h2⟩
        · exact .inr ⟨n, by omega, h2, fun i h5 h6 => h9 i n h3 h5 h6, h4⟩
      · exact .inl ⟨fun i h1 h2 => by rw [show i = j by omega]; exact hl, by rw [decG, hl]; dsimp only; rw [if_neg hj]⟩
/-- A table's answer, and where it falls. -/
theorem dec_char {lens : List Nat} (bs : List Bool) :
    ((∀ i, i ≤ bs.length → lookAt lens (bs.take i) = .more) ∧ dec lens bs = .more) ∨
    ∃ n, n ≤ bs.length ∧ (∀ i, i < n → lookAt lens (bs.take i) = .more) ∧
      ((∃ s, lookAt lens (bs.take n) = .got s n ∧ dec lens bs = .got s n) ∨ (lookAt lens (bs.take n) = .bad ∧ dec lens bs = .bad n)) := by
  rcases decG_char (lens := lens) (bs := bs) (bs.length + 1) 0 (by omega) with ⟨h1, h2⟩ | ⟨n, _, h2, h3, h4⟩
  · exact .inl ⟨fun i h => h1 i (by omega) h, h2⟩
  · refine .inr ⟨n, h2, fun i h => h3 i (by omega) h, ?_⟩
    rcases h4 with ⟨s, k, h5, h6⟩ | h4
    · left
      obtain ⟨k', h7, h8, rfl, h9⟩ := look_got h5
      have hkn := h9.length_le
      rw [code_length h8, List.length_take] at hkn
      rcases Nat.lt_or_ge k n with h10 | h10
      · have h11 := h3 k (by omega) h10
        obtain ⟨s', n', h12⟩ := look_some (held := bs.take k) h7 h8 (by
          have := List.prefix_iff_eq_take.1 h9
          rw [code_length h8, List.take_take, Nat.min_eq_left (by omega)] at this
          rw [this]
          exact List.prefix_refl _)
        rw [h11] at h12
        cases h12
      · obtain rfl : k = n := by omega
        exact ⟨s, h5, h6⟩
    · exact .inr h4
def dbits : Dc → Nat
  | .got _ n => n
  | .bad n => n
  | .more => 0
theorem dec_take {lens : List Nat} (bs : List Bool) {q : Nat} (hq : q ≤ bs.length) :
    dbits (dec lens bs) ≤ bs.length ∧ dec lens (bs.take q) = if dbits (dec lens bs) ≤ q then dec lens bs else .more := by
  have hlen : (bs.take q).length = q := by rw [List.length_take]; omega
  have htk : ∀ i, i ≤ q → (bs.take q).take i = bs.take i := fun i h => by rw [List.take_take, Nat.min_eq_left h]
  have hm : (∀ i, i ≤ q → lookAt lens (bs.take i) = .more) → dec lens (bs.take q) = .more := fun h => by
    rcases dec_char (bs.take q) with ⟨_, h1⟩ | ⟨n, h1, _, h3⟩
    · exact h1
    · rw [hlen] at h1
      rw [htk n h1, h n h1] at h3
      rcases h3 with ⟨_, h3, _⟩ | ⟨h3, _⟩ <;> cases h3
  rcases dec_char bs with ⟨h1, h2⟩ | ⟨n, h1, h2, h3⟩
  · rw [h2]
    exact ⟨Nat.zero_le _, by rw [ite_self]; exact hm fun i h => h1 i (by omega)⟩
  · have hd : dbits (dec lens bs) = n := by rcases h3 with ⟨s, _, h4⟩ | ⟨_, h4⟩ <;> rw [h4] <;> rfl
    rw [hd]
    refine ⟨h1, ?_⟩
    by_cases hn : n ≤ q
    · rw [if_pos hn]
      rcases dec_char (bs.take q) with ⟨h4, _⟩ | ⟨n', h4, h5, h6⟩
      · have h7 := h4 n (by omega)
        rw [htk n hn] at h7
        rw [h7] at h3
        rcases h3 with ⟨_, h3, _⟩ | ⟨h3, _⟩ <;> cases h3
      · rw [hlen] at h4
        rw [htk n' h4] at h6
        have hnn : n' = n := by
          rcases Nat.lt_trichotomy n' n with h7 | h7 | h7
          · rw [h2 n' h7] at h6
            rcases h6 with ⟨_, h6, _⟩ | ⟨h6, _⟩ <;> cases h6
          · exact h7
          · have h8 := h5 n h7
            rw [htk n hn] at h8
            rw [h8] at h3
            rcases h3 with ⟨_, h3, _⟩ | ⟨h3, _⟩ <;> cases h3
        subst hnn
        rcases h3 with ⟨s, h3, h7⟩ | ⟨h3, h7⟩ <;> rcases h6 with ⟨s', h6, h8⟩ | ⟨h6, h8⟩ <;> rw [h7, h8]
        · rw [h3] at h6; injection h6 with h6; rw [h6]
        · rw [h3] at h6; cases h6
        · rw [h3] at h6; cases h6
    · rw [if_neg hn]
      exact hm fun i h => h2 i (by omega)
theorem take_take {bs : List Bool} {n q : Nat} (h : n ≤ q) : (bs.take q).take n = bs.take n := by rw [List.take_take, Nat.min_eq_left h]
/-- A number of bits that is there, or not. -/
theorem fix_take {α : Type} (n : Nat) (F : Nat → α) {bs : List Bool} {q : Nat} (hq : q ≤ bs.length) :
    (if n ≤ (bs.take q).length then some (F (num ((bs.take q).take n))) else none) = if n ≤ q then (if n ≤ bs.length then some (F (num (bs.take n))) else none) else none := by
  rw [List.length_take, Nat.min_eq_left hq]
  by_cases h : n ≤ q
  · rw [if_pos h, if_pos h, if_pos (by omega), take_take h]
  · rw [if_neg h, if_neg h]
theorem headM_used (m : M) (v p : Nat) : (headM m v p).2.2 = if v / 2 = 0 then 3 + p else 3 := by
  unfold headM
  rcases v / 2 with _ | _ | _ | _ <;> rfl
theorem litM_used (m : M) (s k : Nat) : (litM m s k).2.2 = k := by
  unfold litM
  split
  · rfl
  · split
    · rfl
    · split <;> rfl
/-- A step on fewer bits is the step, if its bits are there. -/
theorem step_take (m : M) (out : List Int) (bs : List Bool) {q : Nat} (hq : q ≤ bs.length) (h8 : q % 8 = bs.length % 8) :
    (∀ r, step m out bs = some r → r.2.2 ≤ bs.length) ∧ step m out (bs.take q) = (step m out bs).bind fun r => if r.2.2 ≤ q then some r else none := by
  have hF : ∀ (n : Nat) (F : Nat → Out), (∀ v, (F v).2.2 = n) →
      (∀ r, (if n ≤ bs.length then some (F (num (bs.take n))) else none) = some r → r.2.2 ≤ bs.length) ∧
      (if n ≤ (bs.take q).length then some (F (num ((bs.take q).take n))) else none) = (if n ≤ bs.length then some (F (num (bs.take n))) else none).bind fun r => if r.2.2 ≤ q then some r else none := fun n F hn => by
    constructor
    · intro r hr
      split at hr
      · injection hr with hr; subst hr; rw [hn]; assumption
      · cases hr
    · rw [fix_take n F hq]
      by_cases h : n ≤ bs.length
      · rw [if_pos h, Option.bind_some, hn]
      · rw [if_neg h, ite_self]; rfl
  have hD : ∀ (lens : List Nat) (G : Nat → Nat → Out) (B : Nat → Option Out), (∀ s k, (G s k).2.2 = k) → (∀ j r, B j = some r → r.2.2 = j) →
      (∀ r, (match dec lens bs with | .got s k => some (G s k) | .bad j => B j | .more => none) = some r → r.2.2 ≤ bs.length) ∧
      (match dec lens (bs.take q) with | .got s k => some (G s k) | .bad j => B j | .more => none) = (match dec lens bs with | .got s k => some (G s k) | .bad j => B j | .more => none).bind fun r => if r.2.2 ≤ q then some r else none := fun lens G B hG hB => by
    obtain ⟨h1, h2⟩ := dec_take (lens := lens) bs hq
    rw [h2]
    cases hd : dec lens bs with
    | more => exact ⟨fun r h => (by cases h), by rw [ite_self]; rfl⟩
    | got s k =>
      rw [hd] at h1
      refine ⟨fun r h => by injection h with h; subst h; rw [hG]; exact h1, ?_⟩
      rw [show dbits (Dc.got s k) = k from rfl]
      by_cases h : k ≤ q
      · rw [if_pos h, Option.bind_some, hG, if_pos h]
      · rw [if_neg h, Option.bind_some, hG, if_neg h]
    | bad j =>
      rw [hd] at h1
      refine ⟨fun r h => by rw [hB j r h]; exact h1, ?_⟩
      rw [show dbits (Dc.bad j) = j from rfl]
      by_cases h : j ≤ q
      · rw [if_pos h]
        dsimp only
        cases hb : B j with
        | none => rfl
        | some r => rw [Option.bind_some, hB j r hb, if_pos h]
      · rw [if_neg h]
        dsimp only
        cases hb : B j with
        | none => rfl
        | some r => rw [Option.bind_some, hB j r hb, if_neg h]
  unfold step
  cases m.ph with
  | head =>
    dsimp only
    constructor
    · intro r hr
      split at hr
      · injection hr with hr
        subst hr
        rw [headM_used]
        have := Nat.mod_le (bs.length - 3) 8
        split <;> omega
      · cases hr
    · rw [List.length_take, Nat.min_eq_left hq]
      by_cases h : 3 ≤ q
      · rw [if_pos h, if_pos (by omega), take_take h, show (q - 3) % 8 = (bs.length - 3) % 8 by omega, Option.bind_some, headM_used, if_pos]
        have := Nat.mod_le (q - 3) 8
        split <;> omega
      · rw [if_neg h]
        by_cases h3 : 3 ≤ bs.length
        · rw [if_pos h3, Option.bind_some, headM_used, if_neg (by split <;> omega)]
        · rw [if_neg h3]; rfl
  | sth => exact hF 32 (fun v => (sthM m v, [], 32)) fun _ => rfl
  | sto =>
    dsimp only
    by_cases h : m.left = 0
    · rw [if_pos h, if_pos h]
      exact ⟨fun r hr => by injection hr with hr; subst hr; exact Nat.zero_le _, by rw [Option.bind_some, if_pos (Nat.zero_le _)]⟩
    · rw [if_neg h, if_neg h]
      exact hF 8 (fun v => (stoM m, [((v : Nat) : Int)], 8)) fun _ => rfl
  | cts => exact hF 14 (fun v => (ctsM m v, [], 14)) fun _ => rfl
  | lol => exact hF 3 (fun v => (lolM m v, [], 3)) fun _ => rfl
  | len =>
    have := hD m.cd (fun s k => (lenM m s, [], k)) (fun _ => none) (fun _ _ => rfl) (fun _ _ h => by cases h)
    dsimp only
    have e : ∀ x : Dc, (match x with | .got s k => some (lenM m s, ([] : List Int), k) | _ => none) = (match x with | .got s k => some (lenM m s, ([] : List Int), k) | .bad j => none | .more => none) := fun x => by cases x <;> rfl
    rw [e, e]
    exact this
  | rep => exact hF (repMore m.sym) (fun v => (layM m (repLeast m.sym + v) (repX m), [], repMore m.sym)) fun _ => rfl
  | lit => exact hD m.lt (litM m) (fun j => some (stopM m 13, [], j)) (litM_used m) (fun j r h => by injection h with h; subst h; rfl)
  | lbits => exact hF (mL.getD m.sym 0) (fun v => ({ m with left := lL.getD m.sym 0 + v, ph := .dst }, [], mL.getD m.sym 0)) fun _ => rfl
  | dst => exact hD m.ds (fun s k => (dstM m s, [], k)) (fun j => some (stopM m 13, [], j)) (fun _ _ => rfl) (fun j r h => by injection h with h; subst h; rfl)
  | dbits => exact hF (mB.getD m.sym 0) (fun v => (dbM m out (lB.getD m.sym 0 + v), [], mB.getD m.sym 0)) fun _ => rfl
  | cpy => exact ⟨fun r hr => by injection hr with hr; subst hr; exact Nat.zero_le _, by rw [Option.bind_some, if_pos (Nat.zero_le _)]⟩
end Go.Proofs.YtjjcemdoefigkaaDoor.Hf
/- What the machine keeps (plain). -/
namespace Go.Proofs.YtjjcemdoefigkaaDoor.Hf
set_option linter.unusedVariables false
set_option linter.unusedSimpArgs false

theorem wsum_kraft : ∀ (lens : List Nat), (∀ n ∈ lens, n ≤ 15) → wsum lens 15 = kraft lens := by
  intro lens
  induction lens with
  | nil => intro _; decide
  | cons m lens ih =>
    intro h
    have e : kraft (m :: lens) = (if 0 < m then 2 ^ (15 - m) else 0) + kraft lens := by simp [kraft]
    rw [wsum_cons, e, ih (fun n hn => h n (List.mem_cons_of_mem _ hn))]
    have := h m (List.mem_cons_self ..)
    by_cases h0 : 0 < m
    · rw [if_pos ⟨h0, this⟩, if_pos h0]
    · rw [if_neg (fun h => h0 h.1), if_neg h0]
theorem wsum_find (lens : List Nat) {x : Nat} : ∀ k, x < wsum lens k → ∃ j, j < k ∧ wsum lens j ≤ x ∧ x < wsum lens (j + 1) := by
  intro k
  induction k with
  | zero => intro h; simp [wsum] at h
  | succ k ih =>
    intro h
    rcases Nat.lt_or_ge x (wsum lens k) with h1 | h1
    · obtain ⟨j, h2, h3⟩ := ih h1
      exact ⟨j, by omega, h3⟩
    · exact ⟨k, by omega, h1, h⟩
/-- A whole code has no bits that begin none. -/
theorem dec_full {lens : List Nat} (ht : Tab lens) (hk : kraft lens = 32768) (bs : List Bool) (j : Nat) : dec lens bs ≠ .bad j := by
  intro hbad
  have hn : ∀ k, 0 < k → k ≤ 15 → k ≤ bs.length → ¬ hit lens bs k := fun k h1 h2 h3 h4 => by
    obtain ⟨k', h5, h6⟩ : ∃ k', (0 < k' ∧ k' ≤ k ∧ hit lens bs k') ∧ ∀ i, 0 < i → i < k' → ¬ hit lens bs i := by
      clear h3 h2
      induction k using Nat.strongRecOn with
      | _ k ih =>
        by_cases h : ∃ i, 0 < i ∧ i < k ∧ hit lens bs i
        · obtain ⟨i, h5, h6, h7⟩ := h
          obtain ⟨k', h8, h9⟩ := ih i h6 h5 h7
          exact ⟨k', ⟨h8.1, by omega, h8.2.2⟩, h9⟩
        · exact ⟨k, ⟨h1, Nat.le_refl _, h4⟩, fun i h5 h6 h7 => h ⟨i, h5, h6, h7⟩⟩
    obtain ⟨s, h8, _⟩ := dec_hit ht h5.1 (by omega) (by omega) h5.2.2 h6
    rw [hbad] at h8
    cases h8
  rcases dec_none ht hn with ⟨h1, _⟩ | ⟨_, _, _, h3⟩
  · rw [hbad] at h1; cases h1
  · apply h3
    generalize hn' : min bs.length 15 = n at h3 ⊢
    have hc := mnum_lt (bs.take n)
    have hcl : (bs.take n).length = n := by rw [List.length_take]; omega
    rw [hcl] at hc
    obtain ⟨c, hc'⟩ : ∃ c, mnum (bs.take n) = c := ⟨_, rfl⟩
    rw [hc'] at hc ⊢
    have h15 : 2 ^ n * 2 ^ (15 - n) = 32768 := by rw [← Nat.pow_add, show n + (15 - n) = 15 by omega]
    have hx : c * 2 ^ (15 - n) < 32768 := by rw [← h15]; exact Nat.mul_lt_mul_of_pos_right hc (Nat.two_pow_pos _)
    obtain ⟨j', h5, h6, h7⟩ := wsum_find lens 15 (x := c * 2 ^ (15 - n)) (by rw [wsum_kraft lens ht.le, hk]; exact hx)
    have h8 := fst_wsum lens (j' + 1) (by omega)
    rw [wsum] at h7 h8
    obtain ⟨k, rfl⟩ : ∃ k, k = j' + 1 := ⟨_, rfl⟩
    generalize hj : j' + 1 = k at h7 h8
    have hk15 : k ≤ 15 := by omega
    have hk0 : 0 < k := by omega
    have hp := Nat.two_pow_pos (15 - k)
    have hf : fst_ lens k * 2 ^ (15 - k) ≤ c * 2 ^ (15 - n) ∧ c * 2 ^ (15 - n) < (fst_ lens k + cnt lens k) * 2 ^ (15 - k) := by
      rw [Nat.add_mul]
      omega
    rcases Nat.lt_or_ge n k with hkn | hkn
    · have e1 : c * 2 ^ (15 - n) = c * 2 ^ (k - n) * 2 ^ (15 - k) := by rw [Nat.mul_assoc, ← Nat.pow_add]; congr 2; omega
      rw [e1] at hf
      have h10 := Nat.le_of_mul_le_mul_right hf.1 hp
      have h11 := Nat.lt_of_mul_lt_mul_right hf.2
      have := Nat.two_pow_pos (k - n)
      exact ⟨k, hkn, hk15, by omega, h11, by omega⟩
    · exfalso
      refine hn k hk0 hk15 (by omega) ?_
      have e1 : 2 ^ (15 - k) = 2 ^ (n - k) * 2 ^ (15 - n) := by rw [← Nat.pow_add]; congr 1; omega
      rw [e1, ← Nat.mul_assoc, ← Nat.mul_assoc] at hf
      have h10 := Nat.le_of_mul_le_mul_right hf.1 (Nat.two_pow_pos _)
      have h11 := Nat.lt_of_mul_lt_mul_right hf.2
      have e2 := mnum_append ((bs.take n).take k) ((bs.take n).drop k)
      rw [List.take_append_drop, hc', List.length_drop, hcl, take_take hkn] at e2
      have h12 := mnum_lt ((bs.take n).drop k)
      rw [List.length_drop, hcl] at h12
      unfold hit
      generalize mnum (bs.take k) = a at e2 ⊢
      generalize mnum ((bs.take n).drop k) = b at e2 h12
      generalize 2 ^ (n - k) = z at *
      subst e2
      constructor
      · rcases Nat.lt_or_ge a (fst_ lens k) with h13 | h13
        · exfalso
          have : (a + 1) * z ≤ fst_ lens k * z := Nat.mul_le_mul_right _ h13
          rw [Nat.add_mul] at this
          omega
        · exact h13
      · rcases Nat.lt_or_ge a (fst_ lens k + cnt lens k) with h13 | h13
        · exact h13
        · exfalso
          have : (fst_ lens k + cnt lens k) * z ≤ a * z := Nat.mul_le_mul_right _ h13
          omega
/-- What is got is a symbol, with its length. -/
theorem dec_got {lens : List Nat} {bs : List Bool} {s k : Nat} (h : dec lens bs = .got s k) : lens[s]? = some k ∧ 0 < k := by
  rcases dec_char (lens := lens) bs with ⟨_, h1⟩ | ⟨n, _, _, h1⟩
  · rw [h] at h1; cases h1
  · rcases h1 with ⟨s', h2, h3⟩ | ⟨_, h3⟩
    · rw [h] at h3
      injection h3 with h4 h5
      subst h4 h5
      obtain ⟨k', h6, h7, h8, _⟩ := look_got h2
      subst h8
      exact ⟨h7, h6⟩
    · rw [h] at h3; cases h3
theorem dec_lt {lens : List Nat} {bs : List Bool} {s k : Nat} (h : dec lens bs = .got s k) : s < lens.length := (List.getElem?_eq_some_iff.1 (dec_got h).1).1

/-! ### what holds at each step -/
structure RowsOk (m : M) : Prop where
  lo : 257 ≤ m.lits
  lt : m.lits < m.wanted
  hi : m.wanted ≤ 316
structure LenOk (m : M) : Prop where
  rows : RowsOk m
  tab : Tab m.cd
  full : kraft m.cd = 32768
  size : m.cd.length = 19
  row : m.row.length < m.wanted
structure TabsOk (m : M) : Prop where
  lt : Tab m.lt
  ds : Tab m.ds
  ltl : m.lt.length ≤ 320
  dsl : m.ds.length ≤ 320
def PhOk (m : M) (out : List Int) : Prop := match m.ph with
  | .head => True
  | .sth => True
  | .sto => m.left ≤ 65535
  | .cts => True
  | .lol => RowsOk m ∧ m.left ≤ 19 ∧ m.order < m.left
  | .len => LenOk m
  | .rep => LenOk m ∧ (16 ≤ m.sym ∧ m.sym ≤ 18) ∧ (m.sym = 16 → 0 < m.row.length)
  | .lit => TabsOk m
  | .lbits => TabsOk m ∧ m.sym ≤ 28
  | .dst => TabsOk m ∧ 3 ≤ m.left ∧ m.left ≤ 258
  | .dbits => TabsOk m ∧ (3 ≤ m.left ∧ m.left ≤ 258) ∧ m.sym ≤ 29
  | .cpy => TabsOk m ∧ (1 ≤ m.left ∧ m.left ≤ 258) ∧ (1 ≤ m.back ∧ m.back ≤ 32768) ∧ m.back ≤ out.length
structure Ok (m : M) (out : List Int) : Prop where
  fll : m.fl.length = 19
  fl : ∀ x ∈ m.fl, x ≤ 7
  row : ∀ x ∈ m.row, x ≤ 15
  rowl : m.row.length ≤ 316
  bytes : ∀ b ∈ out, 0 ≤ b ∧ b < 256
  ph : m.why = 0 → PhOk m out
theorem num_take_lt (bs : List Bool) {n : Nat} : num (bs.take n) < 2 ^ n := by
  have h := num_lt (bs.take n)
  rw [List.length_take] at h
  exact Nat.lt_of_lt_of_le h (Nat.pow_le_pow_right (by omega) (by omega))
theorem Tab.fixL : Tab fixL := ⟨by decide +kernel, by decide +kernel⟩
theorem Tab.fixD : Tab fixD := ⟨by decide +kernel, by decide +kernel⟩
theorem fixL_len : fixL.length ≤ 320 := by decide +kernel
theorem fixD_len : fixD.length ≤ 320 := by decide +kernel
theorem newOk_tab {ls : List Nat} (h : newOk ls = true) (hle : ∀ n ∈ ls, n ≤ 15) : Tab ls := by
  unfold newOk at h
  rw [Bool.and_eq_true, decide_eq_true_iff] at h
  exact ⟨hle, h.1⟩
theorem mem_set_le {l : List Nat} {i v b x : Nat} (h : ∀ y ∈ l, y ≤ b) (hv : v ≤ b) (hx : x ∈ l.set i v) : x ≤ b := by
  rcases List.mem_or_eq_of_mem_set hx with h1 | h1
  · exact h x h1
  · omega
section
variable {m : M} {out : List Int}
theorem Ok.stop (h : Ok m out) {why : Nat} (hw : why ≠ 0) : Ok (stopM m why) out := ⟨h.fll, h.fl, h.row, h.rowl, h.bytes, fun h0 => absurd h0 hw⟩
theorem Ok.lay (h : Ok m out) (hl : LenOk m) (n x : Nat) (hx : x ≤ 15) : Ok (layM m n x) out := by
  unfold layM
  by_cases h1 : m.row.length + n > m.wanted
  · rw [if_pos h1]; exact h.stop (by decide)
  · rw [if_neg h1]
    dsimp only
    have hr : ∀ y ∈ m.row ++ List.replicate n x, y ≤ 15 := fun y hy => by
      rcases List.mem_append.1 hy with h2 | h2
      · exact h.row y h2
      · rw [(List.mem_replicate.1 h2).2]; exact hx
    have hrl : (m.row ++ List.replicate n x).length = m.row.length + n := by rw [List.length_append, List.length_replicate]
    have hi := hl.rows.hi
    split
    · rename_i h2
      exact ⟨h.fll, h.fl, hr, by dsimp only; omega, h.bytes, fun _ => ⟨⟨hl.rows.1, hl.rows.2, hl.rows.3⟩, hl.tab, hl.full, hl.size, h2⟩⟩
    · split
      · rename_i h3
        rw [Bool.and_eq_true, Bool.and_eq_true] at h3
        exact ⟨h.fll, h.fl, hr, by dsimp only; omega, h.bytes, fun _ => ⟨newOk_tab h3.1 fun y hy => hr y (List.mem_of_mem_take hy), newOk_tab h3.2.1 fun y hy => hr y (List.mem_of_mem_drop hy), by dsimp only; rw [List.length_take]; omega, by dsimp only; rw [List.length_drop]; omega⟩⟩
      · exact ⟨h.fll, h.fl, hr, by show _ ≤ _; dsimp only [stopM]; omega, h.bytes, fun h0 => by cases h0⟩
theorem Ok.step (h : Ok m out) (h0 : m.why = 0) {bs : List Bool} {r : Out} (hs : step m out bs = some r) : Ok r.1 (out ++ r.2.1) := by
  have hp := h.ph h0
  have hb : ∀ (v : Int), 0 ≤ v → v < 256 → ∀ b ∈ out ++ [v], 0 ≤ b ∧ b < 256 := fun v h1 h2 b hb => by
    rcases List.mem_append.1 hb with h3 | h3
    · exact h.bytes b h3
    · rw [List.mem_singleton.1 h3]; exact ⟨h1, h2⟩
  have hnil : ∀ m', Ok m' out → Ok m' (out ++ []) := fun m' h => by rw [List.append_nil]; exact h
  unfold Hf.step at hs
  unfold PhOk at hp
  cases hph : m.ph with
  | head =>
    rw [hph] at hs
    dsimp only at hs
    split at hs
    · injection hs with hs
      subst hs
      unfold headM
      rcases num (bs.take 3) / 2 with _ | _ | _ | _
      · exact hnil _ ⟨h.fll, h.fl, h.row, h.rowl, h.bytes, fun _ => trivial⟩
      · exact hnil _ ⟨h.fll, h.fl, h.row, h.rowl, h.bytes, fun _ => ⟨Tab.fixL, Tab.fixD, fixL_len, fixD_len⟩⟩
      · exact hnil _ ⟨h.fll, h.fl, h.row, h.rowl, h.bytes, fun _ => trivial⟩
      · exact hnil _ ⟨h.fll, h.fl, h.row, h.rowl, h.bytes, fun h0 => by cases h0⟩
    · cases hs
  | sth =>
    rw [hph] at hs
    dsimp only at hs
    split at hs
    · injection hs with hs
      subst hs
      dsimp only [sthM]
      split
      · exact hnil _ ⟨h.fll, h.fl, h.row, h.rowl, h.bytes, fun _ => by show _ % 65536 ≤ 65535; omega⟩
      · exact hnil _ ⟨h.fll, h.fl, h.row, h.rowl, h.bytes, fun h0 => by cases h0⟩
    · cases hs
  | sto =>
    rw [hph] at hs hp
    dsimp only at hs hp
    split at hs
    · injection hs with hs
      subst hs
      exact hnil _ ⟨h.fll, h.fl, h.row, h.rowl, h.bytes, fun _ => trivial⟩
    · split at hs
      · injection hs with hs
        subst hs
        have hv := num_take_lt bs (n := 8)
        dsimp only [stoM]
        split
        · exact ⟨h.fll, h.fl, h.row, h.rowl, hb _ (by omega) (by omega), fun _ => trivial⟩
        · exact ⟨h.fll, h.fl, h.row, h.rowl, hb _ (by omega) (by omega), fun _ => by unfold PhOk; dsimp only; rw [hph]; dsimp only; omega⟩
      · cases hs
  | cts =>
    rw [hph] at hs
    dsimp only at hs
    split at hs
    · injection hs with hs
      subst hs
      have hv := num_take_lt bs (n := 14)
      generalize num (bs.take 14) = v at hv
      unfold ctsM
      dsimp only
      split
      · exact hnil _ ⟨h.fll, h.fl, h.row, h.rowl, h.bytes, fun h0 => by cases h0⟩
      · exact hnil _ ⟨by simp, fun x hx => by rw [(List.mem_replicate.1 hx).2]; omega, h.row, h.rowl, h.bytes, fun _ => ⟨⟨by dsimp only; omega, by dsimp only; omega, by dsimp only; omega⟩, by dsimp only; omega, by dsimp only; omega⟩⟩
    · cases hs
  | lol =>
    rw [hph] at hs hp
    dsimp only at hs hp
    split at hs
    · injection hs with hs
      subst hs
      have hv := num_take_lt bs (n := 3)
      generalize num (bs.take 3) = v at hv
      have hfl : ∀ x ∈ m.fl.set (ord.getD m.order 0) v, x ≤ 7 := fun x hx => mem_set_le h.fl (by omega) hx
      have hfll : (m.fl.set (ord.getD m.order 0) v).length = 19 := by rw [List.length_set]; exact h.fll
      unfold lolM
      dsimp only
      split
      · rename_i h1
        exact hnil _ ⟨hfll, hfl, h.row, h.rowl, h.bytes, fun _ => by unfold PhOk; dsimp only; rw [hph]; exact ⟨⟨hp.1.1, hp.1.2, hp.1.3⟩, hp.2.1, h1⟩⟩
      · split
        · rename_i h2
          exact hnil _ ⟨hfll, hfl, fun x hx => (by cases hx), by simp, h.bytes, fun _ => ⟨⟨hp.1.1, hp.1.2, hp.1.3⟩, ⟨fun n hn => by have := hfl n hn; omega, by show kraft _ ≤ _; rw [h2]; decide⟩, h2, hfll, by have h9 : m.lits < m.wanted := hp.1.2; show 0 < m.wanted; omega⟩⟩
        · exact hnil _ ⟨hfll, hfl, h.row, h.rowl, h.bytes, fun h0 => by cases h0⟩
    · cases hs
  | len =>
    rw [hph] at hs hp
    dsimp only at hs hp
    cases hd : dec m.cd bs with
    | got s k =>
      rw [hd] at hs
      injection hs with hs
      subst hs
      have hlt := dec_lt hd
      rw [hp.size] at hlt
      dsimp only [lenM]
      split
      · exact hnil _ (h.lay hp 1 s (by omega))
      · split
        · exact hnil _ (h.stop (by decide))
        · rename_i h1 h2
          exact hnil _ ⟨h.fll, h.fl, h.row, h.rowl, h.bytes, fun _ => ⟨⟨⟨hp.1.1, hp.1.2, hp.1.3⟩, hp.2, hp.3, hp.4, hp.5⟩, ⟨by dsimp only; omega, by dsimp only; omega⟩, fun h3 => by dsimp only at h3 ⊢; omega⟩⟩
    | bad j => rw [hd] at hs; cases hs
    | more => rw [hd] at hs; cases hs
  | rep =>
    rw [hph] at hs hp
    dsimp only at hs hp
    split at hs
    · injection hs with hs
      subst hs
      refine hnil _ (h.lay hp.1 _ _ ?_)
      unfold repX
      split
      · rw [List.getD_eq_getElem?_getD]
        cases hg : m.row[m.row.length - 1]? with
        | none => simp
        | some x => exact h.row x (List.mem_of_getElem? hg)
      · omega
    · cases hs
  | lit =>
    rw [hph] at hs hp
    dsimp only at hs hp
    cases hd : dec m.lt bs with
    | got s k =>
      rw [hd] at hs
      injection hs with hs
      subst hs
      dsimp only [litM]
      split
      · exact hnil _ (h.stop (by decide))
      · split
        · exact ⟨h.fll, h.fl, h.row, h.rowl, hb _ (by omega) (by omega), fun _ => by unfold PhOk; dsimp only; rw [hph]; exact hp⟩
        · split
          · exact hnil _ ⟨h.fll, h.fl, h.row, h.rowl, h.bytes, fun _ => trivial⟩
          · exact hnil _ ⟨h.fll, h.fl, h.row, h.rowl, h.bytes, fun _ => ⟨⟨hp.1, hp.2, hp.3, hp.4⟩, by dsimp only; omega⟩⟩
    | bad j => rw [hd] at hs; injection hs with hs; subst hs; exact hnil _ (h.stop (by decide))
    | more => rw [hd] at hs; cases hs
  | lbits =>
    rw [hph] at hs hp
    dsimp only at hs hp
    split at hs
    · injection hs with hs
      subst hs
      have hv := num_take_lt bs (n := mL.getD m.sym 0)
      generalize num (bs.take (mL.getD m.sym 0)) = v at hv
      have hall : ∀ s : _root_.Fin 29, 3 ≤ lL.getD s.val 0 ∧ lL.getD s.val 0 + 2 ^ mL.getD s.val 0 ≤ 259 := by decide +kernel
      have h2 := hall ⟨m.sym, by omega⟩
      dsimp only at h2
      exact hnil _ ⟨h.fll, h.fl, h.row, h.rowl, h.bytes, fun _ => ⟨⟨hp.1.1, hp.1.2, hp.1.3, hp.1.4⟩, by dsimp only; omega, by dsimp only; omega⟩⟩
    · cases hs
  | dst =>
    rw [hph] at hs hp
    dsimp only at hs hp
    cases hd : dec m.ds bs with
    | got s k =>
      rw [hd] at hs
      injection hs with hs
      subst hs
      dsimp only [dstM]
      split
      · exact hnil _ (h.stop (by decide))
      · exact hnil _ ⟨h.fll, h.fl, h.row, h.rowl, h.bytes, fun _ => ⟨⟨hp.1.1, hp.1.2, hp.1.3, hp.1.4⟩, hp.2, by dsimp only; omega⟩⟩
    | bad j => rw [hd] at hs; injection hs with hs; subst hs; exact hnil _ (h.stop (by decide))
    | more => rw [hd] at hs; cases hs
  | dbits =>
    rw [hph] at hs hp
    dsimp only at hs hp
    split at hs
    · injection hs with hs
      subst hs
      have hv := num_take_lt bs (n := mB.getD m.sym 0)
      generalize num (bs.take (mB.getD m.sym 0)) = v at hv
      have hall : ∀ s : _root_.Fin 30, 1 ≤ lB.getD s.val 0 ∧ lB.getD s.val 0 + 2 ^ mB.getD s.val 0 ≤ 32769 := by decide +kernel
      have h2 := hall ⟨m.sym, by omega⟩
      dsimp only at h2
      dsimp only [dbM]
      split
      · exact hnil _ ⟨h.fll, h.fl, h.row, h.rowl, h.bytes, fun h0 => by cases h0⟩
      · exact hnil _ ⟨h.fll, h.fl, h.row, h.rowl, h.bytes, fun _ => ⟨⟨hp.1.1, hp.1.2, hp.1.3, hp.1.4⟩, ⟨by dsimp only; omega, by dsimp only; omega⟩, ⟨by dsimp only; omega, by dsimp only; omega⟩, by dsimp only; omega⟩⟩
    · cases hs
  | cpy =>
    rw [hph] at hs hp
    dsimp only at hs hp
    injection hs with hs
    subst hs
    have hx : 0 ≤ out.getD (out.length - m.back) 0 ∧ out.getD (out.length - m.back) 0 < 256 := by
      rw [List.getD_eq_getElem?_getD, List.getElem?_eq_getElem (by omega)]
      exact h.bytes _ (List.getElem_mem _)
    refine ⟨h.fll, h.fl, h.row, h.rowl, hb _ hx.1 hx.2, fun _ => ?_⟩
    by_cases h1 : m.left = 1
    · unfold PhOk
      dsimp only
      rw [if_pos h1]
      exact ⟨hp.1.1, hp.1.2, hp.1.3, hp.1.4⟩
    · unfold PhOk
      dsimp only
      rw [if_neg h1]
      exact ⟨⟨hp.1.1, hp.1.2, hp.1.3, hp.1.4⟩, ⟨by omega, by omega⟩, hp.2.2.1, by rw [List.length_append]; omega⟩
end
end Go.Proofs.YtjjcemdoefigkaaDoor.Hf
/- The machine's ways over bits (plain). -/
namespace Go.Proofs.YtjjcemdoefigkaaDoor.Hf
set_option linter.unusedVariables false
set_option linter.unusedSimpArgs false

def Live (m : M) : Prop := m.why = 0 ∧ m.fin = false
instance (m : M) : Decidable (Live m) := by unfold Live; exact inferInstance
/-- The machine, what it gave, with which byte each is known, and how many bits were taken. -/
structure St where
  m : M
  out : List Int
  ts : List Nat
  pos : Nat
def St.add (s : St) (r : Out) : St := ⟨r.1, s.out ++ r.2.1, s.ts ++ List.replicate r.2.1.length ((s.pos + r.2.2 - 1) / 8), s.pos + r.2.2⟩
def next (bs : List Bool) (s : St) : Option St := if Live s.m then (step s.m s.out (bs.drop s.pos)).map s.add else none
theorem next_some {bs : List Bool} {s t : St} (h : next bs s = some t) : Live s.m ∧ ∃ r, step s.m s.out (bs.drop s.pos) = some r ∧ t = s.add r := by
  unfold next at h
  split at h
  · rename_i hl
    refine ⟨hl, ?_⟩
    cases hs : step s.m s.out (bs.drop s.pos) with
    | none => rw [hs] at h; cases h
    | some r => rw [hs] at h; injection h with h; exact ⟨r, rfl, h.symm⟩
  · cases h
theorem next_of {bs : List Bool} {s : St} {r : Out} (hl : Live s.m) (h : step s.m s.out (bs.drop s.pos) = some r) : next bs s = some (s.add r) := by
  unfold next
  rw [if_pos hl, h]
  rfl
theorem next_none {bs : List Bool} {s : St} : next bs s = none ↔ (Live s.m → step s.m s.out (bs.drop s.pos) = none) := by
  unfold next
  by_cases hl : Live s.m
  · rw [if_pos hl, Option.map_eq_none_iff]
    exact ⟨fun h _ => h, fun h => h hl⟩
  · rw [if_neg hl]
    exact ⟨fun _ h => absurd h hl, fun _ => rfl⟩
theorem next_pos {bs : List Bool} {s t : St} (hp : s.pos ≤ bs.length) (h : next bs s = some t) : s.pos ≤ t.pos ∧ t.pos ≤ bs.length := by
  obtain ⟨_, r, h1, rfl⟩ := next_some h
  have h2 := (step_take s.m s.out (bs.drop s.pos) (Nat.le_refl _) rfl).1 r h1
  rw [List.length_drop] at h2
  show s.pos ≤ s.pos + _ ∧ s.pos + _ ≤ _
  omega
theorem drop_take {bs : List Bool} {p q : Nat} : (bs.take q).drop p = (bs.drop p).take (q - p) := by rw [List.drop_take]
theorem next_take {bs : List Bool} {s : St} {q : Nat} (hp : s.pos ≤ q) (hq : q ≤ bs.length) (h8 : q % 8 = bs.length % 8) :
    next (bs.take q) s = (next bs s).bind fun t => if t.pos ≤ q then some t else none := by
  unfold next
  by_cases hl : Live s.m
  · rw [if_pos hl, if_pos hl, drop_take, (step_take s.m s.out (bs.drop s.pos) (q := q - s.pos) (by rw [List.length_drop]; omega) (by rw [List.length_drop]; omega)).2]
    cases step s.m s.out (bs.drop s.pos) with
    | none => rfl
    | some r =>
      rw [Option.bind_some, Option.map_some, Option.bind_some]
      show _ = if s.pos + r.2.2 ≤ q then _ else _
      by_cases h : r.2.2 ≤ q - s.pos
      · rw [if_pos h, if_pos (by omega)]; rfl
      · rw [if_neg h, if_neg (by omega)]; rfl
  · rw [if_neg hl, if_neg hl]; rfl

inductive Path (bs : List Bool) : St → St → Prop where
  | refl (s : St) : Path bs s s
  | cons {s t u : St} (h : next bs s = some t) (p : Path bs t u) : Path bs s u
theorem Path.trans {bs : List Bool} {s t u : St} (h : Path bs s t) (h2 : Path bs t u) : Path bs s u := by
  induction h with
  | refl => exact h2
  | cons h _ ih => exact .cons h (ih h2)
theorem Path.one {bs : List Bool} {s t : St} (h : next bs s = some t) : Path bs s t := .cons h (.refl _)
theorem Path.snoc {bs : List Bool} {s t u : St} (h : Path bs s t) (h2 : next bs t = some u) : Path bs s u := h.trans (.one h2)
theorem Path.linear {bs : List Bool} {s t u : St} (h : Path bs s t) (h2 : Path bs s u) : Path bs t u ∨ Path bs u t := by
  induction h with
  | refl => exact .inl h2
  | cons h hp ih =>
    cases h2 with
    | refl => exact .inr (.cons h hp)
    | cons h' hp' => rw [h] at h'; injection h' with h'; subst h'; exact ih hp'
theorem Path.stuck {bs : List Bool} {s t : St} (h : Path bs s t) (hn : next bs s = none) : t = s := by
  cases h with
  | refl => rfl
  | cons h _ => rw [hn] at h; cases h
theorem Path.final {bs : List Bool} {s t u : St} (h : Path bs s t) (hn : next bs t = none) (h2 : Path bs s u) : Path bs u t := by
  rcases h.linear h2 with h3 | h3
  · rw [h3.stuck hn]; exact .refl _
  · exact h3
theorem Path.uniq {bs : List Bool} {s t u : St} (h : Path bs s t) (hn : next bs t = none) (h2 : Path bs s u) (hn2 : next bs u = none) : u = t := ((h.final hn h2).stuck hn2).symm
theorem Path.pos {bs : List Bool} {s t : St} (h : Path bs s t) (hp : s.pos ≤ bs.length) : s.pos ≤ t.pos ∧ t.pos ≤ bs.length := by
  induction h with
  | refl => exact ⟨Nat.le_refl _, hp⟩
  | cons h _ ih =>
    have h1 := next_pos hp h
    have h2 := ih h1.2
    omega
theorem Path.of_take {bs : List Bool} {q : Nat} {s t : St} (h : Path (bs.take q) s t) (hp : s.pos ≤ q) (hq : q ≤ bs.length) (h8 : q % 8 = bs.length % 8) : Path bs s t ∧ t.pos ≤ q := by
  induction h with
  | refl => exact ⟨.refl _, hp⟩
  | @cons s t u h _ ih =>
    have h1 := h
    rw [next_take hp hq h8] at h1
    cases hn : next bs s with
    | none => rw [hn] at h1; cases h1
    | some v =>
      rw [hn, Option.bind_some] at h1
      split at h1
      · injection h1 with h1
        subst h1
        have h3 := ih (by assumption)
        exact ⟨.cons hn h3.1, h3.2⟩
      · cases h1
theorem Path.to_take {bs : List Bool} {q : Nat} {s t : St} (h : Path bs s t) (hp : t.pos ≤ q) (hb : s.pos ≤ bs.length) (hq : q ≤ bs.length) (h8 : q % 8 = bs.length % 8) : Path (bs.take q) s t := by
  induction h with
  | refl => exact .refl _
  | @cons s t u h hp' ih =>
    have h1 := next_pos hb h
    have h2 := hp'.pos h1.2
    refine .cons ?_ (ih hp h1.2)
    rw [next_take (by omega) hq h8, h, Option.bind_some, if_pos (by omega)]
/-- What was given stays. -/
theorem Path.out {bs : List Bool} {s t : St} (h : Path bs s t) : s.out <+: t.out ∧ s.ts <+: t.ts := by
  induction h with
  | refl => exact ⟨List.prefix_refl _, List.prefix_refl _⟩
  | cons h _ ih =>
    obtain ⟨_, r, _, rfl⟩ := next_some h
    exact ⟨(List.prefix_append _ _).trans ih.1, (List.prefix_append _ _).trans ih.2⟩
theorem Path.len {bs : List Bool} {s t : St} (h : Path bs s t) (hl : s.out.length = s.ts.length) : t.out.length = t.ts.length := by
  induction h with
  | refl => exact hl
  | cons h _ ih =>
    obtain ⟨_, r, _, rfl⟩ := next_some h
    refine ih ?_
    unfold St.add
    dsimp only
    rw [List.length_append, List.length_append, List.length_replicate, hl]
theorem Path.ok {bs : List Bool} {s t : St} (h : Path bs s t) (hk : Ok s.m s.out) : Ok t.m t.out := by
  induction h with
  | refl => exact hk
  | cons h _ ih =>
    obtain ⟨hl, r, hs, rfl⟩ := next_some h
    exact ih (hk.step hl.1 hs)
/-! ### an end comes -/
def rank (m : M) : Nat := if m.why ≠ 0 then 0 else match m.ph with
  | .sto => 1
  | .lit => 1
  | .cpy => m.left + 1
  | .dbits => 300
  | .dst => 301
  | .lbits => 302
  | _ => 0
theorem rank_stop (m : M) {why : Nat} (h : why ≠ 0) : rank (stopM m why) = 0 := if_pos h
theorem rank_le {m : M} {out : List Int} (h : Ok m out) : rank m ≤ 302 := by
  unfold rank
  by_cases h0 : m.why = 0
  · rw [if_neg (fun h => h h0)]
    have hp := h.ph h0
    unfold PhOk at hp
    cases hph : m.ph <;> rw [hph] at hp <;> dsimp only <;> omega
  · rw [if_pos h0]; omega
theorem step_meas {m : M} {out : List Int} (h : Ok m out) (h0 : m.why = 0) {bs : List Bool} {r : Out} (hs : step m out bs = some r) : 1000 * (bs.length - r.2.2) + rank r.1 < 1000 * bs.length + rank m := by
  have hk := (step_take m out bs (Nat.le_refl _) rfl).1 r hs
  have hr := rank_le (h.step h0 hs)
  rcases Nat.eq_zero_or_pos r.2.2 with hz | hz
  · suffices rank r.1 < rank m by omega
    have hp := h.ph h0
    have hrm : rank m = match m.ph with
      | .sto => 1
      | .lit => 1
      | .cpy => m.left + 1
      | .dbits => 300
      | .dst => 301
      | .lbits => 302
      | _ => 0 := if_neg (fun h => h h0)
    rw [hrm]
    unfold PhOk at hp
    unfold step at hs
    cases hph : m.ph with
    | head => rw [hph] at hs; dsimp only at hs; split at hs; (injection hs with hs; subst hs; rw [headM_used] at hz; split at hz <;> omega); cases hs
    | sth => rw [hph] at hs; dsimp only at hs; split at hs; (injection hs with hs; subst hs; cases hz); cases hs
    | sto =>
      rw [hph] at hs
      dsimp only at hs
      split at hs
      · injection hs with hs
        subst hs
        show (if m.why ≠ 0 then 0 else _) < 1
        rw [if_neg (fun h => h h0)]
        exact Nat.zero_lt_one
      · split at hs
        · injection hs with hs; subst hs; cases hz
        · cases hs
    | cts => rw [hph] at hs; dsimp only at hs; split at hs; (injection hs with hs; subst hs; cases hz); cases hs
    | lol => rw [hph] at hs; dsimp only at hs; split at hs; (injection hs with hs; subst hs; cases hz); cases hs
    | len =>
      rw [hph] at hs
      dsimp only at hs
      cases hd : dec m.cd bs with
      | got s k => rw [hd] at hs; injection hs with hs; subst hs; have := (dec_got hd).2; dsimp only at hz; omega
      | bad j => rw [hd] at hs; cases hs
      | more => rw [hd] at hs; cases hs
    | rep =>
      rw [hph] at hs; dsimp only at hs; split at hs
      · injection hs with hs
        subst hs
        dsimp only [repMore] at hz
        exfalso
        split at hz
        · omega
        · split at hz <;> omega
      · cases hs
    | lit =>
      rw [hph] at hs
      dsimp only at hs
      cases hd : dec m.lt bs with
      | got s k => rw [hd] at hs; injection hs with hs; subst hs; have := (dec_got hd).2; rw [litM_used] at hz; omega
      | bad j => rw [hd] at hs; injection hs with hs; subst hs; rw [rank_stop m (by decide)]; exact Nat.zero_lt_one
      | more => rw [hd] at hs; cases hs
    | lbits =>
      rw [hph] at hs; dsimp only at hs; split at hs
      · injection hs with hs
        subst hs
        show (if m.why ≠ 0 then 0 else _) < 302
        rw [if_neg (fun h => h h0)]
        show 301 < 302
        omega
      · cases hs
    | dst =>
      rw [hph] at hs
      dsimp only at hs
      cases hd : dec m.ds bs with
      | got s k => rw [hd] at hs; injection hs with hs; subst hs; have := (dec_got hd).2; dsimp only at hz; omega
      | bad j => rw [hd] at hs; injection hs with hs; subst hs; rw [rank_stop m (by decide)]; show 0 < 301; omega
      | more => rw [hd] at hs; cases hs
    | dbits =>
      rw [hph] at hs hp; dsimp only at hs hp; split at hs
      · injection hs with hs
        subst hs
        dsimp only [dbM]
        split
        · rw [rank_stop _ (by decide)]; omega
        · show (if m.why ≠ 0 then 0 else _) < 300
          rw [if_neg (fun h => h h0)]
          show m.left + 1 < 300
          omega
      · cases hs
    | cpy =>
      rw [hph] at hs hp
      dsimp only at hs hp
      injection hs with hs
      subst hs
      show (if m.why ≠ 0 then 0 else _) < m.left + 1
      rw [if_neg (fun h => h h0)]
      by_cases h1 : m.left = 1
      · dsimp only; rw [if_pos h1]; show 1 < _; omega
      · dsimp only; rw [if_neg h1]; show m.left - 1 + 1 < _; omega
  · omega
def St.meas (bs : List Bool) (s : St) : Nat := 1000 * (bs.length - s.pos) + rank s.m
theorem next_meas {bs : List Bool} {s t : St} (hk : Ok s.m s.out) (hp : s.pos ≤ bs.length) (h : next bs s = some t) : t.meas bs < s.meas bs := by
  have h1 := next_pos hp h
  obtain ⟨hl, r, hs, rfl⟩ := next_some h
  have h2 := step_meas hk hl.1 hs
  rw [List.length_drop] at h2
  unfold St.meas
  show 1000 * (bs.length - (s.pos + r.2.2)) + rank r.1 < _
  have h3 : s.pos + r.2.2 ≤ bs.length := h1.2
  omega
theorem exists_final {bs : List Bool} (n : Nat) : ∀ s : St, Ok s.m s.out → s.pos ≤ bs.length → s.meas bs < n → ∃ t, Path bs s t ∧ next bs t = none := by
  induction n with
  | zero => intro s _ _ h; omega
  | succ n ih =>
    intro s hk hp hm
    cases hn : next bs s with
    | none => exact ⟨s, .refl _, hn⟩
    | some t =>
      have h1 := next_meas hk hp hn
      obtain ⟨u, h2, h3⟩ := ih t ((Path.one hn).ok hk) (next_pos hp hn).2 (by omega)
      exact ⟨u, .cons hn h2, h3⟩
/-! ### on until a byte is known -/
inductive Adv : M → List Int → List Bool → M → List Int → List Bool → Bool → Prop where
  | dead {m : M} {out : List Int} {bs : List Bool} (h : ¬ Live m) : Adv m out bs m out bs false
  | wait {m : M} {out : List Int} {bs : List Bool} (hl : Live m) (h : step m out bs = none) : Adv m out bs m out bs false
  | give {m m' : M} {out : List Int} {bs : List Bool} {b : Int} {k : Nat} (hl : Live m) (h : step m out bs = some (m', [b], k)) : Adv m out bs m' (out ++ [b]) (bs.drop k) true
  | go {m m' m2 : M} {out out2 : List Int} {bs bs2 : List Bool} {k : Nat} {r : Bool} (hl : Live m) (h : step m out bs = some (m', [], k)) (h2 : Adv m' out (bs.drop k) m2 out2 bs2 r) : Adv m out bs m2 out2 bs2 r
theorem Adv.path {m m' : M} {out out' : List Int} {b b' : List Bool} {r : Bool} (h : Adv m out b m' out' b' r) : ∀ (bs : List Bool) (s : St), s.m = m → s.out = out → b = bs.drop s.pos → s.pos ≤ bs.length →
    ∃ t, Path bs s t ∧ t.m = m' ∧ t.out = out' ∧ b' = bs.drop t.pos ∧ (r = false → next bs t = none ∧ t.out = s.out) ∧ (r = true → ∃ x, t.out = s.out ++ [x] ∧ t.ts = s.ts ++ [(t.pos - 1) / 8] ∧ ∃ u, Path bs s u ∧ next bs u = some t ∧ u.out = s.out ∧ u.ts = s.ts) := by
  induction h with
  | dead h =>
    intro bs s h1 h2 h3 h4
    subst h1 h2
    exact ⟨s, .refl _, rfl, rfl, h3, fun _ => ⟨next_none.2 fun hl => absurd hl h, rfl⟩, fun h => by cases h⟩
  | wait hl h =>
    intro bs s h1 h2 h3 h4
    subst h1 h2 h3
    exact ⟨s, .refl _, rfl, rfl, rfl, fun _ => ⟨next_none.2 fun _ => h, rfl⟩, fun h => by cases h⟩
  | @give m m' out b x k hl h =>
    intro bs s h1 h2 h3 h4
    subst h1 h2 h3
    have hn := next_of hl h
    exact ⟨_, .one hn, rfl, rfl, by rw [List.drop_drop]; rfl, fun h => (by cases h), fun _ => ⟨x, rfl, rfl, s, .refl _, hn, rfl, rfl⟩⟩
  | @go m m' m2 out out2 b b2 k r hl h _ ih =>
    intro bs s h1 h2 h3 h4
    subst h1 h2 h3
    have hn := next_of hl h
    obtain ⟨t, h5, h6, h7, h8, h9, h10⟩ := ih bs (s.add (m', [], k)) rfl (List.append_nil _) (by rw [List.drop_drop]; rfl) (next_pos h4 hn).2
    have e1 : (s.add (m', [], k)).out = s.out := List.append_nil _
    have e2 : (s.add (m', [], k)).ts = s.ts := List.append_nil _
    rw [e1] at h9 h10
    rw [e2] at h10
    refine ⟨t, .cons hn h5, h6, h7, h8, h9, fun hr => ?_⟩
    obtain ⟨x, h11, h12, u, h13, h14⟩ := h10 hr
    exact ⟨x, h11, h12, u, .cons hn h13, h14⟩
end Go.Proofs.YtjjcemdoefigkaaDoor.Hf
/- What bits give, at most so much (plain). -/
namespace Go.Proofs.YtjjcemdoefigkaaDoor.Hf
set_option linter.unusedVariables false
set_option linter.unusedSimpArgs false

/-- What is given, when, where it is over, why, and whether that is the end. -/
inductive Res (s0 : St) (bs : List Bool) (n : Nat) : List Int → List Nat → Nat → Nat → Bool → Prop where
  | dead {t : St} (p : Path bs s0 t) (hd : ¬ Live t.m) (hn : t.out.length ≤ n) : Res s0 bs n t.out t.ts ((t.pos - 1) / 8) t.m.why t.m.fin
  | cut {t : St} (p : Path bs s0 t) (hl : Live t.m) (hx : next bs t = none) (hn : t.out.length ≤ n) : Res s0 bs n t.out t.ts (bs.length / 8) 1 false
  | much {u t : St} {x : Int} (p : Path bs s0 u) (hx : next bs u = some t) (ho : t.out = u.out ++ [x]) (hn : u.out.length = n) : Res s0 bs n u.out u.ts ((t.pos - 1) / 8) 62 false
theorem dead_next {bs : List Bool} {t : St} (h : ¬ Live t.m) : next bs t = none := next_none.2 fun h2 => absurd h2 h
theorem much_beyond {s0 : St} {bs : List Bool} {n : Nat} {u t v : St} {x : Int} (p : Path bs s0 u) (hx : next bs u = some t) (ho : t.out = u.out ++ [x]) (hn : u.out.length = n) (p2 : Path bs s0 v) (hv : next bs v = none) (hvn : v.out.length ≤ n) : False := by
  have h1 := (p2.final hv (p.snoc hx)).out.1.length_le
  rw [ho, List.length_append, List.length_singleton] at h1
  omega
theorem much_same {s0 : St} {bs : List Bool} {u t u' t' : St} {x x' : Int} (p : Path bs s0 u) (hx : next bs u = some t) (ho : t.out = u.out ++ [x]) (p' : Path bs s0 u') (hx' : next bs u' = some t') (ho' : t'.out = u'.out ++ [x']) (hn : u.out.length = u'.out.length) : u = u' ∧ t = t' := by
  have key : ∀ {u t u' t' : St} {x x' : Int}, next bs u = some t → t.out = u.out ++ [x] → next bs u' = some t' → t'.out = u'.out ++ [x'] → u.out.length = u'.out.length → Path bs u u' → u = u' ∧ t = t' := by
    intro u t u' t' x x' hx ho hx' ho' hn hp
    cases hp with
    | refl => rw [hx] at hx'; injection hx' with hx'; exact ⟨rfl, hx'⟩
    | cons h hp =>
      rw [hx] at h
      injection h with h
      subst h
      have h1 := hp.out.1.length_le
      rw [ho, List.length_append, List.length_singleton] at h1
      omega
  rcases p.linear p' with h | h
  · exact key hx ho hx' ho' hn h
  · obtain ⟨h1, h2⟩ := key hx' ho' hx ho hn.symm h
    exact ⟨h1.symm, h2.symm⟩
theorem Res.uniq {s0 : St} {bs : List Bool} {n : Nat} {o o' : List Int} {ts ts' : List Nat} {a a' w w' : Nat} {e e' : Bool} (h : Res s0 bs n o ts a w e) (h' : Res s0 bs n o' ts' a' w' e') : o = o' ∧ ts = ts' ∧ a = a' ∧ w = w' ∧ e = e' := by
  cases h with
  | dead p hd hn => cases h' with
    | dead p' hd' hn' => have := p.uniq (dead_next hd) p' (dead_next hd'); subst this; exact ⟨rfl, rfl, rfl, rfl, rfl⟩
    | cut p' hl' hx' hn' => have := p.uniq (dead_next hd) p' hx'; subst this; exact absurd hl' hd
    | much p' hx' ho' hn' => exact (much_beyond p' hx' ho' hn' p (dead_next hd) hn).elim
  | cut p hl hx hn => cases h' with
    | dead p' hd' hn' => have := p.uniq hx p' (dead_next hd'); subst this; exact absurd hl hd'
    | cut p' hl' hx' hn' => have := p.uniq hx p' hx'; subst this; exact ⟨rfl, rfl, rfl, rfl, rfl⟩
    | much p' hx' ho' hn' => exact (much_beyond p' hx' ho' hn' p hx hn).elim
  | much p hx ho hn => cases h' with
    | dead p' hd' hn' => exact (much_beyond p hx ho hn p' (dead_next hd') hn').elim
    | cut p' hl' hx' hn' => exact (much_beyond p hx ho hn p' hx' hn').elim
    | much p' hx' ho' hn' => obtain ⟨h1, h2⟩ := much_same p hx ho p' hx' ho' (by omega); subst h1 h2; exact ⟨rfl, rfl, rfl, rfl, rfl⟩
/-- What waits for more bits goes beyond them. -/
theorem wait_beyond {bs : List Bool} {s t : St} {q : Nat} (hp : s.pos ≤ q) (hq : q ≤ bs.length) (h8 : q % 8 = bs.length % 8) (hs : next (bs.take q) s = none) (h : Path bs s t) (hne : t ≠ s) : q < t.pos := by
  cases h with
  | refl => exact absurd rfl hne
  | @cons _ u _ hn hp2 =>
    rw [next_take hp hq h8, hn, Option.bind_some] at hs
    split at hs
    · cases hs
    · rename_i h9
      have h1 := hp2.pos (next_pos (Nat.le_trans hp hq) hn).2
      omega
end Go.Proofs.YtjjcemdoefigkaaDoor.Hf
