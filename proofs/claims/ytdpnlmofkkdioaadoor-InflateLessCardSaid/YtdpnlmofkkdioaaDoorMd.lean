/- What bits give, at most so much (plain). -/
import Derived.Test.YtdpnlmofkkdioaaDoorMc
namespace Go.Proofs.YtdpnlmofkkdioaaDoor.Hf
set_option linter.unusedVariables false
set_option linter.unusedSimpArgs false

/-- What is given, when, where it is over, why, and whether that is the end. -/
inductive Res (s0 : St) (bs : List Bool) (n : Nat) : List Int → List Nat → Nat → Nat → Bool → Prop where
  | dead {t : St} (p : Path bs s0 t) (hd : ¬ Live t.m) (hn : t.out.length ≤ n) : Res s0 bs n t.out t.ts ((t.pos - 1) / 8) t.m.why t.m.fin
  | cut {t : St} (p : Path bs s0 t) (hl : Live t.m) (hx : next bs t = none) (hn : t.out.length ≤ n) : Res s0 bs n t.out t.ts (bs.length / 8) 1 false
  | much {u t : St} {x : Int} (p : Path bs s0 u) (hx : next bs u = some t) (ho : t.out = u.out ++ [x]) (hn : u.out.length = n) : Res s0 bs n u.out u.ts ((t.pos - 1) / 8) 62 false
theorem dead_next {bs : List Bool} {t : St} (h : ¬ Live t.m) : next bs t = none := next_none.2 fun h2 => absurd h2 h
theorem much_beyond {s0 : St} {bs : List Bool} {n : Nat} {u t v : St} {x : Int} (p : Path bs s0 u) (hx : next bs u = some t) (ho : t.out = u.out ++ [x]) (hn : u.out.length = n) (p2 : Path bs s0 v) (hv : next bs v = none) (hvn : v.out.length ≤ n) : False := by
  have h1 := (p2.final hv (p.snoc hx)).out.1.length_le
  rw [ho, List.length_append, List.length_singleton] at h1
  omega
theorem much_same {s0 : St} {bs : List Bool} {u t u' t' : St} {x x' : Int} (p : Path bs s0 u) (hx : next bs u = some t) (ho : t.out = u.out ++ [x]) (p' : Path bs s0 u') (hx' : next bs u' = some t') (ho' : t'.out = u'.out ++ [x']) (hn : u.out.length = u'.out.length) : u = u' ∧ t = t' := by
  have key : ∀ {u t u' t' : St} {x x' : Int}, next bs u = some t → t.out = u.out ++ [x] → next bs u' = some t' → t'.out = u'.out ++ [x'] → u.out.length = u'.out.length → Path bs u u' → u = u' ∧ t = t' := by
    intro u t u' t' x x' hx ho hx' ho' hn hp
    cases hp with
    | refl => rw [hx] at hx'; injection hx' with hx'; exact ⟨rfl, hx'⟩
    | cons h hp =>
      rw [hx] at h
      injection h with h
      subst h
      have h1 := hp.out.1.length_le
      rw [ho, List.length_append, List.length_singleton] at h1
      omega
  rcases p.linear p' with h | h
  · exact key hx ho hx' ho' hn h
  · obtain ⟨h1, h2⟩ := key hx' ho' hx ho hn.symm h
    exact ⟨h1.symm, h2.symm⟩
theorem Res.uniq {s0 : St} {bs : List Bool} {n : Nat} {o o' : List Int} {ts ts' : List Nat} {a a' w w' : Nat} {e e' : Bool} (h : Res s0 bs n o ts a w e) (h' : Res s0 bs n o' ts' a' w' e') : o = o' ∧ ts = ts' ∧ a = a' ∧ w = w' ∧ e = e' := by
  cases h with
  | dead p hd hn => cases h' with
    | dead p' hd' hn' => have := p.uniq (dead_next hd) p' (dead_next hd'); subst this; exact ⟨rfl, rfl, rfl, rfl, rfl⟩
    | cut p' hl' hx' hn' => have := p.uniq (dead_next hd) p' hx'; subst this; exact absurd hl' hd
    | much p' hx' ho' hn' => exact (much_beyond p' hx' ho' hn' p (dead_next hd) hn).elim
  | cut p hl hx hn => cases h' with
    | dead p' hd' hn' => have := p.uniq hx p' (dead_next hd'); subst this; exact absurd hl hd'
    | cut p' hl' hx' hn' => have := p.uniq hx p' hx'; subst this; exact ⟨rfl, rfl, rfl, rfl, rfl⟩
    | much p' hx' ho' hn' => exact (much_beyond p' hx' ho' hn' p hx hn).elim
  | much p hx ho hn => cases h' with
    | dead p' hd' hn' => exact (much_beyond p hx ho hn p' (dead_next hd') hn').elim
    | cut p' hl' hx' hn' => exact (much_beyond p hx ho hn p' hx' hn').elim
    | much p' hx' ho' hn' => obtain ⟨h1, h2⟩ := much_same p hx ho p' hx' ho' (by omega); subst h1 h2; exact ⟨rfl, rfl, rfl, rfl, rfl⟩
/-- What waits for more bits goes beyond them. -/
theorem wait_beyond {bs : List Bool} {s t : St} {q : Nat} (hp : s.pos ≤ q) (hq : q ≤ bs.length) (h8 : q % 8 = bs.length % 8) (hs : next (bs.take q) s = none) (h : Path bs s t) (hne : t ≠ s) : q < t.pos := by
  cases h with
  | refl => exact absurd rfl hne
  | @cons _ u _ hn hp2 =>
    rw [next_take hp hq h8, hn, Option.bind_some] at hs
    split at hs
    · cases hs
    · rename_i h9
      have h1 := hp2.pos (next_pos (Nat.le_trans hp hq) hn).2
      omega
end Go.Proofs.YtdpnlmofkkdioaaDoor.Hf
