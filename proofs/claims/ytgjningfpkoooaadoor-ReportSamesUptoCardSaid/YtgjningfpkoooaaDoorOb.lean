/- Paths' texts (plain). -/
import Derived.Test.YtgjningfpkoooaaDoorOa
import Derived.Lib.ItoaNum
import Derived.Lib.ParseIntB
import Derived.Lib.Split
import Derived.Lib.IndexLaws
namespace Go.Proofs.YtgjningfpkoooaaDoor.Ro
set_option linter.unusedVariables false
set_option linter.unusedSimpArgs false
open Go.Lib (decDigits)

/-! ### cut at '/' -/
def sp : List UInt8 → List (List UInt8)
  | [] => [[]]
  | c :: s => if c = 47 then [] :: sp s else match sp s with
    | w :: r => (c :: w) :: r
    | [] => [[c]]
theorem sp_ne : ∀ s, sp s ≠ []
  | [] => by simp [sp]
  | c :: s => by
    unfold sp
    split
    · simp
    · split <;> simp
theorem sp_index : ∀ (s : List UInt8), (Lib.index s [47] = -1 → sp s = [s]) ∧ (∀ i : Nat, Lib.index s [47] = i → sp s = s.take i :: sp (s.drop (i + 1)))
  | [] => by
    refine ⟨fun _ => rfl, fun i h => ?_⟩
    simp [Lib.index] at h
  | b :: l => by
    obtain ⟨h1, h2⟩ := sp_index l
    by_cases hb : b = 47
    · subst hb
      have e : Lib.index (47 :: l) [47] = 0 := by simp [Lib.index]
      rw [e]
      refine ⟨fun h => by omega, fun i h => ?_⟩
      obtain rfl : i = 0 := by omega
      simp [sp]
    · have e : Lib.index (b :: l) [47] = if Lib.index l [47] == -1 then -1 else Lib.index l [47] + 1 := by
        have hp : ([47] : List UInt8).isPrefixOf (b :: l) = false := by
          cases h : ([47] : List UInt8).isPrefixOf (b :: l) with
          | false => rfl
          | true =>
            have h2 : (47 : UInt8) = b := by simpa [List.isPrefixOf] using h
            exact absurd h2.symm hb
        conv => lhs; unfold Lib.index
        rw [hp]
        rfl
      have hge := Lib.index_ge l [47]
      rw [e]
      by_cases hl : Lib.index l [47] = -1
      · rw [if_pos (by simp [hl])]
        refine ⟨fun _ => ?_, fun i h => by omega⟩
        unfold sp
        rw [if_neg hb, h1 hl]
      · rw [if_neg (by simp [hl])]
        refine ⟨fun h => by omega, fun i h => ?_⟩
        obtain ⟨j, rfl⟩ : ∃ j, i = j + 1 := ⟨i - 1, by omega⟩
        have h3 := h2 j (by omega)
        conv => lhs; unfold sp
        rw [if_neg hb, h3]
        simp
theorem split_go : ∀ (n : Nat) (s : List UInt8), s.length ≤ n → Lib.splitK [47] 0 (Lib.count s [47]) s = sp s := by
  intro n
  induction n with
  | zero =>
    intro s h
    have hs : s = [] := List.eq_nil_of_length_eq_zero (by omega)
    subst hs
    rfl
  | succ n ih =>
    intro s h
    obtain ⟨h1, h2⟩ := sp_index s
    rcases Lib.index_spec s [47] with ⟨h3, _⟩ | ⟨i, h3, h4, h5, _⟩
    · rw [h1 h3, Lib.count_miss h3]
      rfl
    · rw [h2 i h3, Lib.count_hit (by simp) h3, Nat.add_comm 1]
      have h6 := Lib.index_room s [47] (by omega)
      simp at h6
      unfold Lib.splitK
      rw [if_neg (by rw [h3]; simp), h3]
      simp only [Int.toNat_natCast, Nat.add_zero, List.length_singleton]
      rw [ih _ (by rw [List.length_drop]; omega)]
theorem split_sp (s : List UInt8) : Lib.split s [47] = sp s := split_go s.length s (Nat.le_refl _)
theorem split_cnt : ∀ (n : Nat) (s : List UInt8), s.length ≤ n → (sp s).length = Lib.count s [47] + 1 := by
  intro n
  induction n with
  | zero =>
    intro s h
    have hs : s = [] := List.eq_nil_of_length_eq_zero (by omega)
    subst hs
    rfl
  | succ n ih =>
    intro s h
    obtain ⟨h1, h2⟩ := sp_index s
    rcases Lib.index_spec s [47] with ⟨h3, _⟩ | ⟨i, h3, h4, h5, _⟩
    · rw [h1 h3, Lib.count_miss h3]
      rfl
    · rw [h2 i h3, Lib.count_hit (by simp) h3, List.length_cons, List.length_singleton]
      have h6 := Lib.index_room s [47] (by omega)
      simp at h6
      rw [ih _ (by rw [List.length_drop]; omega)]
      omega
/-- Words put together again. -/
theorem sp_join : ∀ (s : List UInt8) (w : List UInt8) (ws : List (List UInt8)), sp s = w :: ws → s = w ++ ws.flatMap (fun v => 47 :: v)
  | [], w, ws, h => by simp [sp] at h; obtain ⟨rfl, rfl⟩ := h; rfl
  | c :: s, w, ws, h => by
    unfold sp at h
    split at h
    · rename_i hc
      injection h with h1 h2
      subst hc h1
      cases hs : sp s with
      | nil => exact absurd hs (sp_ne s)
      | cons v vs =>
        have := sp_join s v vs hs
        rw [← h2, hs]
        simp [← this]
    · cases hs : sp s with
      | nil => exact absurd hs (sp_ne s)
      | cons v vs =>
        rw [hs] at h
        injection h with h1 h2
        subst h1 h2
        have := sp_join s v vs hs
        simp [← this]
theorem sp_word : ∀ (w : List UInt8) (s : List UInt8), (∀ c ∈ w, c ≠ 47) → ∀ v vs, sp s = v :: vs → sp (w ++ s) = (w ++ v) :: vs
  | [], s, _, v, vs, h => h
  | c :: w, s, hw, v, vs, h => by
    have ih := sp_word w s (fun x hx => hw x (List.mem_cons_of_mem _ hx)) v vs h
    rw [List.cons_append]
    unfold sp
    rw [if_neg (hw c List.mem_cons_self), ih]
    rfl
theorem sp_flat : ∀ (ws : List (List UInt8)), (∀ w ∈ ws, ∀ c ∈ w, c ≠ 47) → sp (ws.flatMap (fun v => 47 :: v)) = [] :: ws
  | [], _ => rfl
  | w :: ws, h => by
    have ih := sp_flat ws (fun v hv => h v (List.mem_cons_of_mem _ hv))
    have h1 := sp_word w _ (h w List.mem_cons_self) _ _ ih
    rw [List.flatMap_cons, List.cons_append]
    unfold sp
    rw [if_pos rfl, h1]
    simp
/-! ### numbers -/
def isD (c : UInt8) : Prop := 48 ≤ c.toNat ∧ c.toNat ≤ 57
instance (c : UInt8) : Decidable (isD c) := inferInstanceAs (Decidable (_ ∧ _))
theorem digit_toNat {k : Nat} (h : k < 10) : (UInt8.ofNat (48 + k)).toNat = 48 + k := by simp; omega
theorem dec_step (u : Nat) : decDigits u = if u < 10 then [UInt8.ofNat (48 + u)] else decDigits (u / 10) ++ [UInt8.ofNat (48 + u % 10)] := by
  conv => lhs; unfold decDigits
  split <;> rfl
theorem dec_isD : ∀ (u : Nat), ∀ c ∈ decDigits u, isD c := by
  intro u
  induction u using Nat.strongRecOn with
  | _ u ih =>
    intro c hc
    rw [dec_step] at hc
    split at hc
    · rw [List.mem_singleton.1 hc]
      unfold isD
      rw [digit_toNat (by omega)]
      omega
    · rcases List.mem_append.1 hc with h | h
      · exact ih (u / 10) (by omega) c h
      · rw [List.mem_singleton.1 h]
        unfold isD
        rw [digit_toNat (by omega)]
        omega
theorem dec_ne (u : Nat) : decDigits u ≠ [] := by
  rw [dec_step]
  split <;> simp
theorem isD_ne {c : UInt8} (h : isD c) : c ≠ 47 := by
  rintro rfl
  unfold isD at h
  simp at h
theorem dec_no47 (u : Nat) : ∀ c ∈ decDigits u, c ≠ 47 := fun c hc => isD_ne (dec_isD u c hc)
/-- No nought ahead, but alone. -/
theorem dec_head : ∀ (u : Nat), 0 < u → ∀ c r, decDigits u = c :: r → c.toNat ≠ 48 := by
  intro u
  induction u using Nat.strongRecOn with
  | _ u ih =>
    intro hu c r h
    rw [dec_step] at h
    split at h
    · injection h with h1 h2
      rw [← h1, digit_toNat (by omega)]
      omega
    · cases hd : decDigits (u / 10) with
      | nil => exact absurd hd (dec_ne _)
      | cons c' r' =>
        rw [hd] at h
        injection h with h1 h2
        rw [← h1]
        exact ih (u / 10) (by omega) (by omega) c' r' hd
def stepN (v : Nat) (c : UInt8) : Nat := v * 10 + (c.toNat - 48)
theorem stepN_def (v : Nat) (c : UInt8) : stepN v c = v * 10 + (c.toNat - 48) := rfl
def num (v : Nat) (l : List UInt8) : Nat := l.foldl stepN v
theorem num_app (a b : List UInt8) (v : Nat) : num v (a ++ b) = num (num v a) b := List.foldl_append
theorem num_nil (v : Nat) : num v [] = v := rfl
theorem num_cons (v : Nat) (c : UInt8) (l : List UInt8) : num v (c :: l) = num (stepN v c) l := List.foldl_cons ..
theorem num_one (v : Nat) (c : UInt8) : num v [c] = v * 10 + (c.toNat - 48) := by rw [num_cons, num_nil, stepN_def]
theorem num_dec : ∀ (u : Nat), num 0 (decDigits u) = u := by
  intro u
  induction u using Nat.strongRecOn with
  | _ u ih =>
    by_cases h : u < 10
    · rw [dec_step, if_pos h, num_one, digit_toNat h]
      omega
    · rw [dec_step, if_neg h, num_app, ih (u / 10) (by omega), num_one, digit_toNat (by omega)]
      omega
theorem num_ge (l : List UInt8) : ∀ v : Nat, v ≤ num v l := by
  induction l with
  | nil => exact fun v => Nat.le_refl v
  | cons c l ih =>
    intro v
    have h := ih (stepN v c)
    rw [num_cons]
    have h2 := stepN_def v c
    omega
/-- Digits without a nought ahead are a number's. -/
theorem dec_num : ∀ (n : Nat) (l : List UInt8), l.length = n → (∀ c ∈ l, isD c) → l ≠ [] → (∀ c r, l = c :: r → r ≠ [] → c.toNat ≠ 48) → decDigits (num 0 l) = l := by
  intro n
  induction n with
  | zero => intro l h _ hn _; exact absurd (List.eq_nil_of_length_eq_zero h) hn
  | succ n ih =>
    intro l h hd hn h0
    obtain ⟨a, x, rfl⟩ : ∃ a x, l = a ++ [x] := by
      rcases List.eq_nil_or_concat l with h2 | ⟨a, x, h2⟩
      · exact absurd h2 hn
      · exact ⟨a, x, by rw [h2, List.concat_eq_append]⟩
    have hx := hd x (List.mem_append_right _ (List.mem_singleton.2 rfl))
    have hxe : UInt8.ofNat (48 + (x.toNat - 48)) = x := by
      have h3 := hx.1
      rw [show 48 + (x.toNat - 48) = x.toNat by omega]
      simp
    have hx9 := hx.2
    have hx8 := hx.1
    cases a with
    | nil =>
      rw [List.nil_append, num_one, dec_step, if_pos (by omega), Nat.zero_mul, Nat.zero_add, hxe]
    | cons c r =>
      have hc := h0 c (r ++ [x]) rfl (by simp)
      have ih2 := ih (c :: r) (by simpa using h) (fun y hy => hd y (List.mem_append_left _ hy)) (by simp) (fun c' r' he hr' => by injection he with e1 e2; rw [← e1]; exact hc)
      rw [num_app, num_one]
      have hpos : 1 ≤ num 0 (c :: r) := by
        rw [num_cons]
        have h5 := num_ge r (stepN 0 c)
        have h6 := (hd c (by simp)).1
        have h7 := stepN_def 0 c
        omega
      rw [dec_step, if_neg (by omega), show (num 0 (c :: r) * 10 + (x.toNat - 48)) / 10 = num 0 (c :: r) by omega, show (num 0 (c :: r) * 10 + (x.toNat - 48)) % 10 = x.toNat - 48 by omega, ih2, hxe]
/-! ### strconv.ParseUint(_, 10, 31) -/
/-- What a text that is no number ends with. -/
def notNum : Lib.NumEnd Nat := Lib.parseUintM 0 0 [0]
theorem parse_nil (M acc : Nat) : Lib.parseUintM M acc [] = .ok acc := rfl
theorem parse_cons (M acc : Nat) (c : UInt8) (r : List UInt8) : Lib.parseUintM M acc (c :: r) = if 48 ≤ c.toNat ∧ c.toNat ≤ 57 then (if 1844674407370955162 ≤ acc then .range else if M < acc * 10 + (c.toNat - 48) then .range else Lib.parseUintM M (acc * 10 + (c.toNat - 48)) r) else notNum := rfl
theorem parse_app (M : Nat) : ∀ (a b : List UInt8) (acc v : Nat), Lib.parseUintM M acc a = .ok v → Lib.parseUintM M acc (a ++ b) = Lib.parseUintM M v b
  | [], b, acc, v, h => by rw [parse_nil] at h; injection h with h; subst h; rfl
  | c :: a, b, acc, v, h => by
    rw [List.cons_append, parse_cons]
    rw [parse_cons] at h
    split at h
    · rename_i hc
      rw [if_pos hc]
      split at h
      · cases h
      · rename_i h2
        rw [if_neg h2]
        split at h
        · cases h
        · rename_i h3
          rw [if_neg h3]
          exact parse_app M a b _ v h
    · cases h
theorem parse_dec (M : Nat) (hM : M < 1844674407370955162) : ∀ u, u ≤ M → Lib.parseUintM M 0 (decDigits u) = .ok u := by
  intro u
  induction u using Nat.strongRecOn with
  | _ u ih =>
    intro hu
    rw [dec_step]
    split
    · have e := digit_toNat (k := u) (by omega)
      rw [parse_cons, e, if_pos (by omega), if_neg (by omega), if_neg (by omega), parse_nil]
      congr 1
      omega
    · rw [parse_app M _ _ _ _ (ih (u / 10) (by omega) (by omega))]
      have e := digit_toNat (k := u % 10) (by omega)
      rw [parse_cons, e, if_pos (by omega), if_neg (by omega), if_neg (by omega), parse_nil]
      congr 1
      omega
def top : Nat := 2147483647
theorem parse_le (M : Nat) : ∀ (l : List UInt8) (acc v : Nat), acc ≤ M → Lib.parseUintM M acc l = .ok v → v ≤ M
  | [], acc, v, ha, h => by rw [parse_nil] at h; injection h with h; omega
  | c :: l, acc, v, ha, h => by
    rw [parse_cons] at h
    split at h
    · split at h
      · cases h
      · split at h
        · cases h
        · exact parse_le M l _ v (by omega) h
    · cases h
def valOf (w : List UInt8) : Option Nat := match Lib.parseUintB 31 w with
  | .ok u => if decDigits u = w then some u else none
  | _ => none
theorem valOf_iff (w : List UInt8) (u : Nat) : valOf w = some u ↔ w = decDigits u ∧ u ≤ top := by
  unfold valOf Lib.parseUintB
  constructor
  · intro h
    split at h
    · rename_i v hv
      split at hv
      · cases hv
      · split at h
        · rename_i h2
          injection h with h
          subst h
          exact ⟨h2.symm, parse_le _ _ _ _ (Nat.zero_le _) hv⟩
        · cases h
    · cases h
  · rintro ⟨rfl, hu⟩
    rw [if_neg (dec_ne u), parse_dec (2 ^ 31 - 1) (by decide) u (by unfold top at hu; omega)]
    simp
/-! ### the path that has a text -/
def txt : List Nat → List UInt8
  | [] => [47]
  | p => p.flatMap fun n => 47 :: decDigits n
def parseP (s : List UInt8) : Option (List Nat) := match sp s with
  | w :: ws => if w ≠ [] ∨ ws = [] then none else if s = [47] then some [] else ws.mapM valOf
  | [] => none
theorem mapM_val : ∀ (ws : List (List UInt8)) (p : List Nat), ws.mapM valOf = some p ↔ ws = p.map decDigits ∧ ∀ n ∈ p, n ≤ top
  | [], p => by
    simp
    rintro rfl n hn
    cases hn
  | w :: ws, p => by
    rw [List.mapM_cons]
    constructor
    · intro h
      cases hv : valOf w with
      | none => rw [hv] at h; cases h
      | some u =>
        cases hr : ws.mapM valOf with
        | none => rw [hv, hr] at h; cases h
        | some q =>
          rw [hv, hr] at h
          injection h with h
          subst h
          obtain ⟨h1, h2⟩ := (mapM_val ws q).1 hr
          obtain ⟨h3, h4⟩ := (valOf_iff w u).1 hv
          refine ⟨by rw [List.map_cons, ← h1, ← h3], fun n hn => ?_⟩
          rcases List.mem_cons.1 hn with rfl | h
          · exact h4
          · exact h2 n h
    · rintro ⟨h1, h2⟩
      cases p with
      | nil => cases h1
      | cons u q =>
        injection h1 with h3 h4
        rw [(valOf_iff w u).2 ⟨h3, h2 u List.mem_cons_self⟩, (mapM_val ws q).2 ⟨h4, fun n hn => h2 n (List.mem_cons_of_mem _ hn)⟩]
        rfl
theorem flat_dec (p : List Nat) : (p.map decDigits).flatMap (fun v => 47 :: v) = p.flatMap fun n => 47 :: decDigits n := by rw [List.flatMap_map]
theorem parseP_iff (s : List UInt8) (p : List Nat) : parseP s = some p ↔ s = txt p ∧ ∀ n ∈ p, n ≤ top := by
  unfold parseP
  constructor
  · intro h
    split at h
    · rename_i w ws hs
      split at h
      · cases h
      · rename_i h1
        have hw : w = [] := Classical.byContradiction fun h2 => h1 (.inl h2)
        have hws : ws ≠ [] := fun h2 => h1 (.inr h2)
        subst hw
        split at h
        · rename_i h2
          injection h with h
          subst h
          exact ⟨h2, fun n hn => by cases hn⟩
        · obtain ⟨h3, h4⟩ := (mapM_val ws p).1 h
          refine ⟨?_, h4⟩
          have h5 := sp_join s _ _ hs
          rw [List.nil_append, h3, flat_dec] at h5
          rw [h5]
          cases p with
          | nil => exact absurd h3 hws
          | cons => rfl
    · cases h
  · rintro ⟨rfl, h⟩
    cases p with
    | nil => rfl
    | cons u q =>
      have h1 : sp (txt (u :: q)) = [] :: (u :: q).map decDigits := by
        show sp ((u :: q).flatMap fun n => 47 :: decDigits n) = _
        rw [← flat_dec]
        refine sp_flat _ fun w hw => ?_
        obtain ⟨n, _, rfl⟩ := List.mem_map.1 hw
        exact dec_no47 n
      rw [h1]
      dsimp only
      rw [if_neg (by simp), if_neg, (mapM_val _ _).2 ⟨rfl, h⟩]
      show ¬ ((47 :: decDigits u) ++ _ = [47])
      intro h2
      have h3 := congrArg List.length h2
      have h4 := List.length_pos_iff.2 (dec_ne u)
      rw [List.length_append, List.length_cons, List.length_singleton] at h3
      omega
/-- Two ways to the path that a text has. -/
theorem parse_uniq {s : List UInt8} {o : Option (List Nat)} (h : ∀ p, o = some p ↔ s = txt p ∧ ∀ n ∈ p, n ≤ top) : o = parseP s := by
  cases ho : o with
  | some p => exact ((parseP_iff s p).2 ((h p).1 ho)).symm
  | none =>
    cases hp : parseP s with
    | none => rfl
    | some p =>
      have := (h p).2 ((parseP_iff s p).1 hp)
      rw [ho] at this
      cases this
end Go.Proofs.YtgjningfpkoooaaDoor.Ro
