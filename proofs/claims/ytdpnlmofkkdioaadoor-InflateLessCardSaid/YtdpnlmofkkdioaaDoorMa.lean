/- The machine that gives back what was deflated (plain). -/
import Derived.Test.YtdpnlmofkkdioaaDoorIc
namespace Go.Proofs.YtdpnlmofkkdioaaDoor.Hf
set_option linter.unusedVariables false
set_option linter.unusedSimpArgs false

/-- What comes next. -/
inductive Ph where
  | head | sth | sto | cts | lol | len | rep | lit | lbits | dst | dbits | cpy
structure M where
  ph : Ph
  last : Bool
  fin : Bool
  why : Nat
  lt : List Nat
  ds : List Nat
  cd : List Nat
  row : List Nat
  fl : List Nat
  lits : Nat
  wanted : Nat
  order : Nat
  sym : Nat
  left : Nat
  back : Nat
def fixL : List Nat := List.replicate 144 8 ++ (List.replicate 112 9 ++ (List.replicate 24 7 ++ List.replicate 8 8))
def fixD : List Nat := List.replicate 32 5
def ord : List Nat := [16, 17, 18, 0, 8, 7, 9, 6, 10, 5, 11, 4, 12, 3, 13, 2, 14, 1, 15]
def lL : List Nat := [3, 4, 5, 6, 7, 8, 9, 10, 11, 13, 15, 17, 19, 23, 27, 31, 35, 43, 51, 59, 67, 83, 99, 115, 131, 163, 195, 227, 258]
def mL : List Nat := [0, 0, 0, 0, 0, 0, 0, 0, 1, 1, 1, 1, 2, 2, 2, 2, 3, 3, 3, 3, 4, 4, 4, 4, 5, 5, 5, 5, 0]
def lB : List Nat := [1, 2, 3, 4, 5, 7, 9, 13, 17, 25, 33, 49, 65, 97, 129, 193, 257, 385, 513, 769, 1025, 1537, 2049, 3073, 4097, 6145, 8193, 12289, 16385, 24577]
def mB : List Nat := [0, 0, 0, 0, 1, 1, 2, 2, 3, 3, 4, 4, 5, 5, 6, 6, 7, 7, 8, 8, 9, 9, 10, 10, 11, 11, 12, 12, 13, 13]
/-- How many symbols have a code. -/
def usedN (ls : List Nat) : Nat := (ls.filter fun n => decide (0 < n)).length
/-- A table can be made. -/
def newOk (ls : List Nat) : Bool := decide (kraft ls ≤ 32768) && !(decide (kraft ls < 32768) && (decide (0 < usedN ls) && !(decide (usedN ls = 1) && decide (cnt ls 1 = 1))))
abbrev Out := M × List Int × Nat
def overM (m : M) : M := { m with fin := m.last, ph := .head }
def stopM (m : M) (why : Nat) : M := { m with why := why }
def headM (m : M) (v p : Nat) : Out :=
  let m1 := { m with last := decide (v % 2 = 1) }
  match v / 2 with
  | 0 => ({ m1 with ph := .sth }, [], 3 + p)
  | 1 => ({ m1 with ph := .lit, lt := fixL, ds := fixD }, [], 3)
  | 2 => ({ m1 with ph := .cts }, [], 3)
  | _ => (stopM m1 10, [], 3)
def sthM (m : M) (v : Nat) : M :=
  if v % 65536 + v / 65536 = 65535 then { m with left := v % 65536, ph := .sto } else stopM { m with left := v % 65536 } 11
def stoM (m : M) : M := if m.left = 1 then overM { m with left := 0 } else { m with left := m.left - 1 }
def ctsM (m : M) (v : Nat) : M :=
  let l := 257 + v % 32
  let b := 1 + v / 32 % 32
  if l > 286 ∨ b > 30 then stopM { m with lits := l } 12
  else { m with lits := l, wanted := l + b, left := 4 + v / 1024, order := 0, fl := List.replicate 19 0, ph := .lol }
def lolM (m : M) (v : Nat) : M :=
  let f := m.fl.set (ord.getD m.order 0) v
  let m1 := { m with fl := f, order := m.order + 1 }
  if m.order + 1 < m.left then m1
  else if kraft f = 32768 then { m1 with cd := f, row := [], ph := .len } else stopM m1 12
def layM (m : M) (n x : Nat) : M :=
  if m.row.length + n > m.wanted then stopM m 12
  else
    let r := m.row ++ List.replicate n x
    if r.length < m.wanted then { m with row := r, ph := .len }
    else if newOk (r.take m.lits) && (newOk (r.drop m.lits) && decide (r.getD 256 0 ≠ 0)) then { m with row := r, lt := r.take m.lits, ds := r.drop m.lits, ph := .lit }
    else stopM { m with row := r } 12
def lenM (m : M) (s : Nat) : M :=
  if s < 16 then layM m 1 s
  else if s = 16 ∧ m.row.length = 0 then stopM m 12 else { m with sym := s, ph := .rep }
def repMore (s : Nat) : Nat := if s = 16 then 2 else if s = 17 then 3 else 7
def repLeast (s : Nat) : Nat := if s = 16 then 3 else if s = 17 then 3 else 11
def repX (m : M) : Nat := if m.sym = 16 then m.row.getD (m.row.length - 1) 0 else 0
def litM (m : M) (s k : Nat) : Out :=
  if s > 285 then (stopM m 13, [], k)
  else if s < 256 then (m, [(s : Int)], k)
  else if s = 256 then (overM m, [], k)
  else ({ m with sym := s - 257, ph := .lbits }, [], k)
def dstM (m : M) (s : Nat) : M := if s > 29 then stopM m 13 else { m with sym := s, ph := .dbits }
def dbM (m : M) (out : List Int) (b : Nat) : M := if b > out.length then stopM { m with back := b } 14 else { m with back := b, ph := .cpy }
def step (m : M) (out : List Int) (bs : List Bool) : Option Out :=
  match m.ph with
  | .head => if 3 ≤ bs.length then some (headM m (num (bs.take 3)) ((bs.length - 3) % 8)) else none
  | .sth => if 32 ≤ bs.length then some (sthM m (num (bs.take 32)), [], 32) else none
  | .sto => if m.left = 0 then some (overM m, [], 0) else if 8 ≤ bs.length then some (stoM m, [((num (bs.take 8) : Nat) : Int)], 8) else none
  | .cts => if 14 ≤ bs.length then some (ctsM m (num (bs.take 14)), [], 14) else none
  | .lol => if 3 ≤ bs.length then some (lolM m (num (bs.take 3)), [], 3) else none
  | .len => match dec m.cd bs with
    | .got s k => some (lenM m s, [], k)
    | _ => none
  | .rep => if repMore m.sym ≤ bs.length then some (layM m (repLeast m.sym + num (bs.take (repMore m.sym))) (repX m), [], repMore m.sym) else none
  | .lit => match dec m.lt bs with
    | .got s k => some (litM m s k)
    | .bad j => some (stopM m 13, [], j)
    | .more => none
  | .lbits => if mL.getD m.sym 0 ≤ bs.length then some ({ m with left := lL.getD m.sym 0 + num (bs.take (mL.getD m.sym 0)), ph := .dst }, [], mL.getD m.sym 0) else none
  | .dst => match dec m.ds bs with
    | .got s k => some (dstM m s, [], k)
    | .bad j => some (stopM m 13, [], j)
    | .more => none
  | .dbits => if mB.getD m.sym 0 ≤ bs.length then some (dbM m out (lB.getD m.sym 0 + num (bs.take (mB.getD m.sym 0))), [], mB.getD m.sym 0) else none
  | .cpy => some ({ m with left := m.left - 1, ph := if m.left = 1 then .lit else .cpy }, [out.getD (out.length - m.back) 0], 0)

/-! ### what fewer bits do -/
/-- Where a decoding ends. -/
theorem decG_char {lens : List Nat} {bs : List Bool} : ∀ f j, j + f = bs.length + 1 →
    ((∀ i, j ≤ i → i ≤ bs.length → lookAt lens (bs.take i) = .more) ∧ decG lens bs f j = .more) ∨
    ∃ n, j ≤ n ∧ n ≤ bs.length ∧ (∀ i, j ≤ i → i < n → lookAt lens (bs.take i) = .more) ∧
      ((∃ s k, lookAt lens (bs.take n) = .got s k ∧ decG lens bs f j = .got s k) ∨ (lookAt lens (bs.take n) = .bad ∧ decG lens bs f j = .bad n)) := by
  intro f
  induction f with
  | zero => intro j h; exact .inl ⟨fun i h1 h2 => by omega, rfl⟩
  | succ f ih =>
    intro j h
    cases hl : lookAt lens (bs.take j) with
    | got s k => exact .inr ⟨j, Nat.le_refl _, by omega, fun i h1 h2 => by omega, .inl ⟨s, k, hl, by rw [decG, hl]⟩⟩
    | bad => exact .inr ⟨j, Nat.le_refl _, by omega, fun i h1 h2 => by omega, .inr ⟨hl, by rw [decG, hl]⟩⟩
    | more =>
      by_cases hj : j < bs.length
      · have e : decG lens bs (f + 1) j = decG lens bs f (j + 1) := by rw [decG, hl]; dsimp only; rw [if_pos hj]
        rw [e]
        have h9 : ∀ i n, (∀ i, j + 1 ≤ i → i < n → lookAt lens (bs.take i) = .more) → j ≤ i → i < n → lookAt lens (bs.take i) = .more := fun i n h3 h1 h2 => by
          rcases Nat.eq_or_lt_of_le h1 with rfl | h4
          · exact hl
          · exact h3 i h4 h2
        rcases ih (j + 1) (by omega) with ⟨h1, h2⟩ | ⟨n, h1, h2, h3, h4⟩
        · exact .inl ⟨fun i h5 h6 => h9 i (bs.length + 1) (fun i h7 h8 => h1 i h7 (by omega)) h5 (by omega), h2⟩
        · exact .inr ⟨n, by omega, h2, fun i h5 h6 => h9 i n h3 h5 h6, h4⟩
      · exact .inl ⟨fun i h1 h2 => by rw [show i = j by omega]; exact hl, by rw [decG, hl]; dsimp only; rw [if_neg hj]⟩
/-- A table's answer, and where it falls. -/
theorem dec_char {lens : List Nat} (bs : List Bool) :
    ((∀ i, i ≤ bs.length → lookAt lens (bs.take i) = .more) ∧ dec lens bs = .more) ∨
    ∃ n, n ≤ bs.length ∧ (∀ i, i < n → lookAt lens (bs.take i) = .more) ∧
      ((∃ s, lookAt lens (bs.take n) = .got s n ∧ dec lens bs = .got s n) ∨ (lookAt lens (bs.take n) = .bad ∧ dec lens bs = .bad n)) := by
  rcases decG_char (lens := lens) (bs := bs) (bs.length + 1) 0 (by omega) with ⟨h1, h2⟩ | ⟨n, _, h2, h3, h4⟩
  · exact .inl ⟨fun i h => h1 i (by omega) h, h2⟩
  · refine .inr ⟨n, h2, fun i h => h3 i (by omega) h, ?_⟩
    rcases h4 with ⟨s, k, h5, h6⟩ | h4
    · left
      obtain ⟨k', h7, h8, rfl, h9⟩ := look_got h5
      have hkn := h9.length_le
      rw [code_length h8, List.length_take] at hkn
      rcases Nat.lt_or_ge k n with h10 | h10
      · have h11 := h3 k (by omega) h10
        obtain ⟨s', n', h12⟩ := look_some (held := bs.take k) h7 h8 (by
          have := List.prefix_iff_eq_take.1 h9
          rw [code_length h8, List.take_take, Nat.min_eq_left (by omega)] at this
          rw [this]
          exact List.prefix_refl _)
        rw [h11] at h12
        cases h12
      · obtain rfl : k = n := by omega
        exact ⟨s, h5, h6⟩
    · exact .inr h4
def dbits : Dc → Nat
  | .got _ n => n
  | .bad n => n
  | .more => 0
theorem dec_take {lens : List Nat} (bs : List Bool) {q : Nat} (hq : q ≤ bs.length) :
    dbits (dec lens bs) ≤ bs.length ∧ dec lens (bs.take q) = if dbits (dec lens bs) ≤ q then dec lens bs else .more := by
  have hlen : (bs.take q).length = q := by rw [List.length_take]; omega
  have htk : ∀ i, i ≤ q → (bs.take q).take i = bs.take i := fun i h => by rw [List.take_take, Nat.min_eq_left h]
  have hm : (∀ i, i ≤ q → lookAt lens (bs.take i) = .more) → dec lens (bs.take q) = .more := fun h => by
    rcases dec_char (bs.take q) with ⟨_, h1⟩ | ⟨n, h1, _, h3⟩
    · exact h1
    · rw [hlen] at h1
      rw [htk n h1, h n h1] at h3
      rcases h3 with ⟨_, h3, _⟩ | ⟨h3, _⟩ <;> cases h3
  rcases dec_char bs with ⟨h1, h2⟩ | ⟨n, h1, h2, h3⟩
  · rw [h2]
    exact ⟨Nat.zero_le _, by rw [ite_self]; exact hm fun i h => h1 i (by omega)⟩
  · have hd : dbits (dec lens bs) = n := by rcases h3 with ⟨s, _, h4⟩ | ⟨_, h4⟩ <;> rw [h4] <;> rfl
    rw [hd]
    refine ⟨h1, ?_⟩
    by_cases hn : n ≤ q
    · rw [if_pos hn]
      rcases dec_char (bs.take q) with ⟨h4, _⟩ | ⟨n', h4, h5, h6⟩
      · have h7 := h4 n (by omega)
        rw [htk n hn] at h7
        rw [h7] at h3
        rcases h3 with ⟨_, h3, _⟩ | ⟨h3, _⟩ <;> cases h3
      · rw [hlen] at h4
        rw [htk n' h4] at h6
        have hnn : n' = n := by
          rcases Nat.lt_trichotomy n' n with h7 | h7 | h7
          · rw [h2 n' h7] at h6
            rcases h6 with ⟨_, h6, _⟩ | ⟨h6, _⟩ <;> cases h6
          · exact h7
          · have h8 := h5 n h7
            rw [htk n hn] at h8
            rw [h8] at h3
            rcases h3 with ⟨_, h3, _⟩ | ⟨h3, _⟩ <;> cases h3
        subst hnn
        rcases h3 with ⟨s, h3, h7⟩ | ⟨h3, h7⟩ <;> rcases h6 with ⟨s', h6, h8⟩ | ⟨h6, h8⟩ <;> rw [h7, h8]
        · rw [h3] at h6; injection h6 with h6; rw [h6]
        · rw [h3] at h6; cases h6
        · rw [h3] at h6; cases h6
    · rw [if_neg hn]
      exact hm fun i h => h2 i (by omega)
theorem take_take {bs : List Bool} {n q : Nat} (h : n ≤ q) : (bs.take q).take n = bs.take n := by rw [List.take_take, Nat.min_eq_left h]
/-- A number of bits that is there, or not. -/
theorem fix_take {α : Type} (n : Nat) (F : Nat → α) {bs : List Bool} {q : Nat} (hq : q ≤ bs.length) :
    (if n ≤ (bs.take q).length then some (F (num ((bs.take q).take n))) else none) = if n ≤ q then (if n ≤ bs.length then some (F (num (bs.take n))) else none) else none := by
  rw [List.length_take, Nat.min_eq_left hq]
  by_cases h : n ≤ q
  · rw [if_pos h, if_pos h, if_pos (by omega), take_take h]
  · rw [if_neg h, if_neg h]
theorem headM_used (m : M) (v p : Nat) : (headM m v p).2.2 = if v / 2 = 0 then 3 + p else 3 := by
  unfold headM
  rcases v / 2 with _ | _ | _ | _ <;> rfl
theorem litM_used (m : M) (s k : Nat) : (litM m s k).2.2 = k := by
  unfold litM
  split
  · rfl
  · split
    · rfl
    · split <;> rfl
/-- A step on fewer bits is the step, if its bits are there. -/
theorem step_take (m : M) (out : List Int) (bs : List Bool) {q : Nat} (hq : q ≤ bs.length) (h8 : q % 8 = bs.length % 8) :
    (∀ r, step m out bs = some r → r.2.2 ≤ bs.length) ∧ step m out (bs.take q) = (step m out bs).bind fun r => if r.2.2 ≤ q then some r else none := by
  have hF : ∀ (n : Nat) (F : Nat → Out), (∀ v, (F v).2.2 = n) →
      (∀ r, (if n ≤ bs.length then some (F (num (bs.take n))) else none) = some r → r.2.2 ≤ bs.length) ∧
      (if n ≤ (bs.take q).length then some (F (num ((bs.take q).take n))) else none) = (if n ≤ bs.length then some (F (num (bs.take n))) else none).bind fun r => if r.2.2 ≤ q then some r else none := fun n F hn => by
    constructor
    · intro r hr
      split at hr
      · injection hr with hr; subst hr; rw [hn]; assumption
      · cases hr
    · rw [fix_take n F hq]
      by_cases h : n ≤ bs.length
      · rw [if_pos h, Option.bind_some, hn]
      · rw [if_neg h, ite_self]; rfl
  have hD : ∀ (lens : List Nat) (G : Nat → Nat → Out) (B : Nat → Option Out), (∀ s k, (G s k).2.2 = k) → (∀ j r, B j = some r → r.2.2 = j) →
      (∀ r, (match dec lens bs with | .got s k => some (G s k) | .bad j => B j | .more => none) = some r → r.2.2 ≤ bs.length) ∧
      (match dec lens (bs.take q) with | .got s k => some (G s k) | .bad j => B j | .more => none) = (match dec lens bs with | .got s k => some (G s k) | .bad j => B j | .more => none).bind fun r => if r.2.2 ≤ q then some r else none := fun lens G B hG hB => by
    obtain ⟨h1, h2⟩ := dec_take (lens := lens) bs hq
    rw [h2]
    cases hd : dec lens bs with
    | more => exact ⟨fun r h => (by cases h), by rw [ite_self]; rfl⟩
    | got s k =>
      rw [hd] at h1
      refine ⟨fun r h => by injection h with h; subst h; rw [hG]; exact h1, ?_⟩
      rw [show dbits (Dc.got s k) = k from rfl]
      by_cases h : k ≤ q
      · rw [if_pos h, Option.bind_some, hG, if_pos h]
      · rw [if_neg h, Option.bind_some, hG, if_neg h]
    | bad j =>
      rw [hd] at h1
      refine ⟨fun r h => by rw [hB j r h]; exact h1, ?_⟩
      rw [show dbits (Dc.bad j) = j from rfl]
      by_cases h : j ≤ q
      · rw [if_pos h]
        dsimp only
        cases hb : B j with
        | none => rfl
        | some r => rw [Option.bind_some, hB j r hb, if_pos h]
      · rw [if_neg h]
        dsimp only
        cases hb : B j with
        | none => rfl
        | some r => rw [Option.bind_some, hB j r hb, if_neg h]
  unfold step
  cases m.ph with
  | head =>
    dsimp only
    constructor
    · intro r hr
      split at hr
      · injection hr with hr
        subst hr
        rw [headM_used]
        have := Nat.mod_le (bs.length - 3) 8
        split <;> omega
      · cases hr
    · rw [List.length_take, Nat.min_eq_left hq]
      by_cases h : 3 ≤ q
      · rw [if_pos h, if_pos (by omega), take_take h, show (q - 3) % 8 = (bs.length - 3) % 8 by omega, Option.bind_some, headM_used, if_pos]
        have := Nat.mod_le (q - 3) 8
        split <;> omega
      · rw [if_neg h]
        by_cases h3 : 3 ≤ bs.length
        · rw [if_pos h3, Option.bind_some, headM_used, if_neg (by split <;> omega)]
        · rw [if_neg h3]; rfl
  | sth => exact hF 32 (fun v => (sthM m v, [], 32)) fun _ => rfl
  | sto =>
    dsimp only
    by_cases h : m.left = 0
    · rw [if_pos h, if_pos h]
      exact ⟨fun r hr => by injection hr with hr; subst hr; exact Nat.zero_le _, by rw [Option.bind_some, if_pos (Nat.zero_le _)]⟩
    · rw [if_neg h, if_neg h]
      exact hF 8 (fun v => (stoM m, [((v : Nat) : Int)], 8)) fun _ => rfl
  | cts => exact hF 14 (fun v => (ctsM m v, [], 14)) fun _ => rfl
  | lol => exact hF 3 (fun v => (lolM m v, [], 3)) fun _ => rfl
  | len =>
    have := hD m.cd (fun s k => (lenM m s, [], k)) (fun _ => none) (fun _ _ => rfl) (fun _ _ h => by cases h)
    dsimp only
    have e : ∀ x : Dc, (match x with | .got s k => some (lenM m s, ([] : List Int), k) | _ => none) = (match x with | .got s k => some (lenM m s, ([] : List Int), k) | .bad j => none | .more => none) := fun x => by cases x <;> rfl
    rw [e, e]
    exact this
  | rep => exact hF (repMore m.sym) (fun v => (layM m (repLeast m.sym + v) (repX m), [], repMore m.sym)) fun _ => rfl
  | lit => exact hD m.lt (litM m) (fun j => some (stopM m 13, [], j)) (litM_used m) (fun j r h => by injection h with h; subst h; rfl)
  | lbits => exact hF (mL.getD m.sym 0) (fun v => ({ m with left := lL.getD m.sym 0 + v, ph := .dst }, [], mL.getD m.sym 0)) fun _ => rfl
  | dst => exact hD m.ds (fun s k => (dstM m s, [], k)) (fun j => some (stopM m 13, [], j)) (fun _ _ => rfl) (fun j r h => by injection h with h; subst h; rfl)
  | dbits => exact hF (mB.getD m.sym 0) (fun v => (dbM m out (lB.getD m.sym 0 + v), [], mB.getD m.sym 0)) fun _ => rfl
  | cpy => exact ⟨fun r hr => by injection hr with hr; subst hr; exact Nat.zero_le _, by rw [Option.bind_some, if_pos (Nat.zero_le _)]⟩
end Go.Proofs.YtdpnlmofkkdioaaDoor.Hf
