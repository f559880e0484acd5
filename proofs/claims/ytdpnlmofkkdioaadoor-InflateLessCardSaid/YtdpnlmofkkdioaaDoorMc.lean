/- The machine's ways over bits (plain). -/
import Derived.Test.YtdpnlmofkkdioaaDoorMb
namespace Go.Proofs.YtdpnlmofkkdioaaDoor.Hf
set_option linter.unusedVariables false
set_option linter.unusedSimpArgs false

def Live (m : M) : Prop := m.why = 0 ∧ m.fin = false
instance (m : M) : Decidable (Live m) := by unfold Live; exact inferInstance
/-- The machine, what it gave, with which byte each is known, and how many bits were taken. -/
structure St where
  m : M
  out : List Int
  ts : List Nat
  pos : Nat
def St.add (s : St) (r : Out) : St := ⟨r.1, s.out ++ r.2.1, s.ts ++ List.replicate r.2.1.length ((s.pos + r.2.2 - 1) / 8), s.pos + r.2.2⟩
def next (bs : List Bool) (s : St) : Option St := if Live s.m then (step s.m s.out (bs.drop s.pos)).map s.add else none
theorem next_some {bs : List Bool} {s t : St} (h : next bs s = some t) : Live s.m ∧ ∃ r, step s.m s.out (bs.drop s.pos) = some r ∧ t = s.add r := by
  unfold next at h
  split at h
  · rename_i hl
    refine ⟨hl, ?_⟩
    cases hs : step s.m s.out (bs.drop s.pos) with
    | none => rw [hs] at h; cases h
    | some r => rw [hs] at h; injection h with h; exact ⟨r, rfl, h.symm⟩
  · cases h
theorem next_of {bs : List Bool} {s : St} {r : Out} (hl : Live s.m) (h : step s.m s.out (bs.drop s.pos) = some r) : next bs s = some (s.add r) := by
  unfold next
  rw [if_pos hl, h]
  rfl
theorem next_none {bs : List Bool} {s : St} : next bs s = none ↔ (Live s.m → step s.m s.out (bs.drop s.pos) = none) := by
  unfold next
  by_cases hl : Live s.m
  · rw [if_pos hl, Option.map_eq_none_iff]
    exact ⟨fun h _ => h, fun h => h hl⟩
  · rw [if_neg hl]
    exact ⟨fun _ h => absurd h hl, fun _ => rfl⟩
theorem next_pos {bs : List Bool} {s t : St} (hp : s.pos ≤ bs.length) (h : next bs s = some t) : s.pos ≤ t.pos ∧ t.pos ≤ bs.length := by
  obtain ⟨_, r, h1, rfl⟩ := next_some h
  have h2 := (step_take s.m s.out (bs.drop s.pos) (Nat.le_refl _) rfl).1 r h1
  rw [List.length_drop] at h2
  show s.pos ≤ s.pos + _ ∧ s.pos + _ ≤ _
  omega
theorem drop_take {bs : List Bool} {p q : Nat} : (bs.take q).drop p = (bs.drop p).take (q - p) := by rw [List.drop_take]
theorem next_take {bs : List Bool} {s : St} {q : Nat} (hp : s.pos ≤ q) (hq : q ≤ bs.length) (h8 : q % 8 = bs.length % 8) :
    next (bs.take q) s = (next bs s).bind fun t => if t.pos ≤ q then some t else none := by
  unfold next
  by_cases hl : Live s.m
  · rw [if_pos hl, if_pos hl, drop_take, (step_take s.m s.out (bs.drop s.pos) (q := q - s.pos) (by rw [List.length_drop]; omega) (by rw [List.length_drop]; omega)).2]
    cases step s.m s.out (bs.drop s.pos) with
    | none => rfl
    | some r =>
      rw [Option.bind_some, Option.map_some, Option.bind_some]
      show _ = if s.pos + r.2.2 ≤ q then _ else _
      by_cases h : r.2.2 ≤ q - s.pos
      · rw [if_pos h, if_pos (by omega)]; rfl
      · rw [if_neg h, if_neg (by omega)]; rfl
  · rw [if_neg hl, if_neg hl]; rfl

inductive Path (bs : List Bool) : St → St → Prop where
  | refl (s : St) : Path bs s s
  | cons {s t u : St} (h : next bs s = some t) (p : Path bs t u) : Path bs s u
theorem Path.trans {bs : List Bool} {s t u : St} (h : Path bs s t) (h2 : Path bs t u) : Path bs s u := by
  induction h with
  | refl => exact h2
  | cons h _ ih => exact .cons h (ih h2)
theorem Path.one {bs : List Bool} {s t : St} (h : next bs s = some t) : Path bs s t := .cons h (.refl _)
theorem Path.snoc {bs : List Bool} {s t u : St} (h : Path bs s t) (h2 : next bs t = some u) : Path bs s u := h.trans (.one h2)
theorem Path.linear {bs : List Bool} {s t u : St} (h : Path bs s t) (h2 : Path bs s u) : Path bs t u ∨ Path bs u t := by
  induction h with
  | refl => exact .inl h2
  | cons h hp ih =>
    cases h2 with
    | refl => exact .inr (.cons h hp)
    | cons h' hp' => rw [h] at h'; injection h' with h'; subst h'; exact ih hp'
theorem Path.stuck {bs : List Bool} {s t : St} (h : Path bs s t) (hn : next bs s = none) : t = s := by
  cases h with
  | refl => rfl
  | cons h _ => rw [hn] at h; cases h
theorem Path.final {bs : List Bool} {s t u : St} (h : Path bs s t) (hn : next bs t = none) (h2 : Path bs s u) : Path bs u t := by
  rcases h.linear h2 with h3 | h3
  · rw [h3.stuck hn]; exact .refl _
  · exact h3
theorem Path.uniq {bs : List Bool} {s t u : St} (h : Path bs s t) (hn : next bs t = none) (h2 : Path bs s u) (hn2 : next bs u = none) : u = t := ((h.final hn h2).stuck hn2).symm
theorem Path.pos {bs : List Bool} {s t : St} (h : Path bs s t) (hp : s.pos ≤ bs.length) : s.pos ≤ t.pos ∧ t.pos ≤ bs.length := by
  induction h with
  | refl => exact ⟨Nat.le_refl _, hp⟩
  | cons h _ ih =>
    have h1 := next_pos hp h
    have h2 := ih h1.2
    omega
theorem Path.of_take {bs : List Bool} {q : Nat} {s t : St} (h : Path (bs.take q) s t) (hp : s.pos ≤ q) (hq : q ≤ bs.length) (h8 : q % 8 = bs.length % 8) : Path bs s t ∧ t.pos ≤ q := by
  induction h with
  | refl => exact ⟨.refl _, hp⟩
  | @cons s t u h _ ih =>
    have h1 := h
    rw [next_take hp hq h8] at h1
    cases hn : next bs s with
    | none => rw [hn] at h1; cases h1
    | some v =>
      rw [hn, Option.bind_some] at h1
      split at h1
      · injection h1 with h1
        subst h1
        have h3 := ih (by assumption)
        exact ⟨.cons hn h3.1, h3.2⟩
      · cases h1
theorem Path.to_take {bs : List Bool} {q : Nat} {s t : St} (h : Path bs s t) (hp : t.pos ≤ q) (hb : s.pos ≤ bs.length) (hq : q ≤ bs.length) (h8 : q % 8 = bs.length % 8) : Path (bs.take q) s t := by
  induction h with
  | refl => exact .refl _
  | @cons s t u h hp' ih =>
    have h1 := next_pos hb h
    have h2 := hp'.pos h1.2
    refine .cons ?_ (ih hp h1.2)
    rw [next_take (by omega) hq h8, h, Option.bind_some, if_pos (by omega)]
/-- What was given stays. -/
theorem Path.out {bs : List Bool} {s t : St} (h : Path bs s t) : s.out <+: t.out ∧ s.ts <+: t.ts := by
  induction h with
  | refl => exact ⟨List.prefix_refl _, List.prefix_refl _⟩
  | cons h _ ih =>
    obtain ⟨_, r, _, rfl⟩ := next_some h
    exact ⟨(List.prefix_append _ _).trans ih.1, (List.prefix_append _ _).trans ih.2⟩
theorem Path.len {bs : List Bool} {s t : St} (h : Path bs s t) (hl : s.out.length = s.ts.length) : t.out.length = t.ts.length := by
  induction h with
  | refl => exact hl
  | cons h _ ih =>
    obtain ⟨_, r, _, rfl⟩ := next_some h
    refine ih ?_
    unfold St.add
    dsimp only
    rw [List.length_append, List.length_append, List.length_replicate, hl]
theorem Path.ok {bs : List Bool} {s t : St} (h : Path bs s t) (hk : Ok s.m s.out) : Ok t.m t.out := by
  induction h with
  | refl => exact hk
  | cons h _ ih =>
    obtain ⟨hl, r, hs, rfl⟩ := next_some h
    exact ih (hk.step hl.1 hs)
/-! ### an end comes -/
def rank (m : M) : Nat := if m.why ≠ 0 then 0 else match m.ph with
  | .sto => 1
  | .lit => 1
  | .cpy => m.left + 1
  | .dbits => 300
  | .dst => 301
  | .lbits => 302
  | _ => 0
theorem rank_stop (m : M) {why : Nat} (h : why ≠ 0) : rank (stopM m why) = 0 := if_pos h
theorem rank_le {m : M} {out : List Int} (h : Ok m out) : rank m ≤ 302 := by
  unfold rank
  by_cases h0 : m.why = 0
  · rw [if_neg (fun h => h h0)]
    have hp := h.ph h0
    unfold PhOk at hp
    cases hph : m.ph <;> rw [hph] at hp <;> dsimp only <;> omega
  · rw [if_pos h0]; omega
theorem step_meas {m : M} {out : List Int} (h : Ok m out) (h0 : m.why = 0) {bs : List Bool} {r : Out} (hs : step m out bs = some r) : 1000 * (bs.length - r.2.2) + rank r.1 < 1000 * bs.length + rank m := by
  have hk := (step_take m out bs (Nat.le_refl _) rfl).1 r hs
  have hr := rank_le (h.step h0 hs)
  rcases Nat.eq_zero_or_pos r.2.2 with hz | hz
  · suffices rank r.1 < rank m by omega
    have hp := h.ph h0
    have hrm : rank m = match m.ph with
      | .sto => 1
      | .lit => 1
      | .cpy => m.left + 1
      | .dbits => 300
      | .dst => 301
      | .lbits => 302
      | _ => 0 := if_neg (fun h => h h0)
    rw [hrm]
    unfold PhOk at hp
    unfold step at hs
    cases hph : m.ph with
    | head => rw [hph] at hs; dsimp only at hs; split at hs; (injection hs with hs; subst hs; rw [headM_used] at hz; split at hz <;> omega); cases hs
    | sth => rw [hph] at hs; dsimp only at hs; split at hs; (injection hs with hs; subst hs; cases hz); cases hs
    | sto =>
      rw [hph] at hs
      dsimp only at hs
      split at hs
      · injection hs with hs
        subst hs
        show (if m.why ≠ 0 then 0 else _) < 1
        rw [if_neg (fun h => h h0)]
        exact Nat.zero_lt_one
      · split at hs
        · injection hs with hs; subst hs; cases hz
        · cases hs
    | cts => rw [hph] at hs; dsimp only at hs; split at hs; (injection hs with hs; subst hs; cases hz); cases hs
    | lol => rw [hph] at hs; dsimp only at hs; split at hs; (injection hs with hs; subst hs; cases hz); cases hs
    | len =>
      rw [hph] at hs
      dsimp only at hs
      cases hd : dec m.cd bs with
      | got s k => rw [hd] at hs; injection hs with hs; subst hs; have := (dec_got hd).2; dsimp only at hz; omega
      | bad j => rw [hd] at hs; cases hs
      | more => rw [hd] at hs; cases hs
    | rep =>
      rw [hph] at hs; dsimp only at hs; split at hs
      · injection hs with hs
        subst hs
        dsimp only [repMore] at hz
        exfalso
        split at hz
        · omega
        · split at hz <;> omega
      · cases hs
    | lit =>
      rw [hph] at hs
      dsimp only at hs
      cases hd : dec m.lt bs with
      | got s k => rw [hd] at hs; injection hs with hs; subst hs; have := (dec_got hd).2; rw [litM_used] at hz; omega
      | bad j => rw [hd] at hs; injection hs with hs; subst hs; rw [rank_stop m (by decide)]; exact Nat.zero_lt_one
      | more => rw [hd] at hs; cases hs
    | lbits =>
      rw [hph] at hs; dsimp only at hs; split at hs
      · injection hs with hs
        subst hs
        show (if m.why ≠ 0 then 0 else _) < 302
        rw [if_neg (fun h => h h0)]
        show 301 < 302
        omega
      · cases hs
    | dst =>
      rw [hph] at hs
      dsimp only at hs
      cases hd : dec m.ds bs with
      | got s k => rw [hd] at hs; injection hs with hs; subst hs; have := (dec_got hd).2; dsimp only at hz; omega
      | bad j => rw [hd] at hs; injection hs with hs; subst hs; rw [rank_stop m (by decide)]; show 0 < 301; omega
      | more => rw [hd] at hs; cases hs
    | dbits =>
      rw [hph] at hs hp; dsimp only at hs hp; split at hs
      · injection hs with hs
        subst hs
        dsimp only [dbM]
        split
        · rw [rank_stop _ (by decide)]; omega
        · show (if m.why ≠ 0 then 0 else _) < 300
          rw [if_neg (fun h => h h0)]
          show m.left + 1 < 300
          omega
      · cases hs
    | cpy =>
      rw [hph] at hs hp
      dsimp only at hs hp
      injection hs with hs
      subst hs
      show (if m.why ≠ 0 then 0 else _) < m.left + 1
      rw [if_neg (fun h => h h0)]
      by_cases h1 : m.left = 1
      · dsimp only; rw [if_pos h1]; show 1 < _; omega
      · dsimp only; rw [if_neg h1]; show m.left - 1 + 1 < _; omega
  · omega
def St.meas (bs : List Bool) (s : St) : Nat := 1000 * (bs.length - s.pos) + rank s.m
theorem next_meas {bs : List Bool} {s t : St} (hk : Ok s.m s.out) (hp : s.pos ≤ bs.length) (h : next bs s = some t) : t.meas bs < s.meas bs := by
  have h1 := next_pos hp h
  obtain ⟨hl, r, hs, rfl⟩ := next_some h
  have h2 := step_meas hk hl.1 hs
  rw [List.length_drop] at h2
  unfold St.meas
  show 1000 * (bs.length - (s.pos + r.2.2)) + rank r.1 < _
  have h3 : s.pos + r.2.2 ≤ bs.length := h1.2
  omega
theorem exists_final {bs : List Bool} (n : Nat) : ∀ s : St, Ok s.m s.out → s.pos ≤ bs.length → s.meas bs < n → ∃ t, Path bs s t ∧ next bs t = none := by
  induction n with
  | zero => intro s _ _ h; omega
  | succ n ih =>
    intro s hk hp hm
    cases hn : next bs s with
    | none => exact ⟨s, .refl _, hn⟩
    | some t =>
      have h1 := next_meas hk hp hn
      obtain ⟨u, h2, h3⟩ := ih t ((Path.one hn).ok hk) (next_pos hp hn).2 (by omega)
      exact ⟨u, .cons hn h2, h3⟩
/-! ### on until a byte is known -/
inductive Adv : M → List Int → List Bool → M → List Int → List Bool → Bool → Prop where
  | dead {m : M} {out : List Int} {bs : List Bool} (h : ¬ Live m) : Adv m out bs m out bs false
  | wait {m : M} {out : List Int} {bs : List Bool} (hl : Live m) (h : step m out bs = none) : Adv m out bs m out bs false
  | give {m m' : M} {out : List Int} {bs : List Bool} {b : Int} {k : Nat} (hl : Live m) (h : step m out bs = some (m', [b], k)) : Adv m out bs m' (out ++ [b]) (bs.drop k) true
  | go {m m' m2 : M} {out out2 : List Int} {bs bs2 : List Bool} {k : Nat} {r : Bool} (hl : Live m) (h : step m out bs = some (m', [], k)) (h2 : Adv m' out (bs.drop k) m2 out2 bs2 r) : Adv m out bs m2 out2 bs2 r
theorem Adv.path {m m' : M} {out out' : List Int} {b b' : List Bool} {r : Bool} (h : Adv m out b m' out' b' r) : ∀ (bs : List Bool) (s : St), s.m = m → s.out = out → b = bs.drop s.pos → s.pos ≤ bs.length →
    ∃ t, Path bs s t ∧ t.m = m' ∧ t.out = out' ∧ b' = bs.drop t.pos ∧ (r = false → next bs t = none ∧ t.out = s.out) ∧ (r = true → ∃ x, t.out = s.out ++ [x] ∧ t.ts = s.ts ++ [(t.pos - 1) / 8] ∧ ∃ u, Path bs s u ∧ next bs u = some t ∧ u.out = s.out ∧ u.ts = s.ts) := by
  induction h with
  | dead h =>
    intro bs s h1 h2 h3 h4
    subst h1 h2
    exact ⟨s, .refl _, rfl, rfl, h3, fun _ => ⟨next_none.2 fun hl => absurd hl h, rfl⟩, fun h => by cases h⟩
  | wait hl h =>
    intro bs s h1 h2 h3 h4
    subst h1 h2 h3
    exact ⟨s, .refl _, rfl, rfl, rfl, fun _ => ⟨next_none.2 fun _ => h, rfl⟩, fun h => by cases h⟩
  | @give m m' out b x k hl h =>
    intro bs s h1 h2 h3 h4
    subst h1 h2 h3
    have hn := next_of hl h
    exact ⟨_, .one hn, rfl, rfl, by rw [List.drop_drop]; rfl, fun h => (by cases h), fun _ => ⟨x, rfl, rfl, s, .refl _, hn, rfl, rfl⟩⟩
  | @go m m' m2 out out2 b b2 k r hl h _ ih =>
    intro bs s h1 h2 h3 h4
    subst h1 h2 h3
    have hn := next_of hl h
    obtain ⟨t, h5, h6, h7, h8, h9, h10⟩ := ih bs (s.add (m', [], k)) rfl (List.append_nil _) (by rw [List.drop_drop]; rfl) (next_pos h4 hn).2
    have e1 : (s.add (m', [], k)).out = s.out := List.append_nil _
    have e2 : (s.add (m', [], k)).ts = s.ts := List.append_nil _
    rw [e1] at h9 h10
    rw [e2] at h10
    refine ⟨t, .cons hn h5, h6, h7, h8, h9, fun hr => ?_⟩
    obtain ⟨x, h11, h12, u, h13, h14⟩ := h10 hr
    exact ⟨x, h11, h12, u, .cons hn h13, h14⟩
end Go.Proofs.YtdpnlmofkkdioaaDoor.Hf
