/- Words: a slice of slices of bytes that a call builds: each row a row of the call's own. -/
import Derived.Test.YtjjcemdoefigkaaDoorKeep
namespace Go.Proofs.YtjjcemdoefigkaaDoor.W
set_option linter.unusedVariables false
set_option linter.unusedSimpArgs false
open Go.RowKit

theorem own_same {w w' : World} {base : Nat} {e : TypeId} {size n : Nat} {v : Value} {xs : List Value} (h : w.ownsRow base e size v n xs) (hk : ∀ k, v.ownBlock = some k → w'.heap[k]? = w.heap[k]?) : w'.ownsRow base e size v n xs := by
  refine ⟨h.1, ?_⟩
  rcases h.2 with h2 | ⟨g, cap, cur, rfl, hb, hg, rest⟩
  · exact .inl h2
  · exact .inr ⟨g, cap, cur, rfl, hb, (hk g rfl).trans hg, rest⟩
theorem own_type {w : World} {base base' : Nat} {e e' : TypeId} {size size' n n' : Nat} {v v' : Value} {xs xs' : List Value} (h : w.ownsRow base e size v n xs) (h' : w.ownsRow base' e' size' v' n' xs') (hne : e ≠ e') {k : Nat} (hk : v.ownBlock = some k) : v'.ownBlock ≠ some k := by
  intro hk'
  rcases h.2 with ⟨rfl, _⟩ | ⟨g, cap, cur, rfl, _, hg, _⟩
  · simp [Value.ownBlock] at hk
  · rcases h'.2 with ⟨rfl, _⟩ | ⟨g', cap', cur', rfl, _, hg', _⟩
    · simp [Value.ownBlock] at hk'
    · simp only [Value.ownBlock, Option.some.injEq] at hk hk'
      subst hk hk'
      rw [hg] at hg'
      injection hg' with h1
      injection h1 with _ h2 _
      exact hne h2

structure Prt (w : World) (S : List Nat) (A : Option Addr) (n c : Nat) (vs : List Value) (ls : List (List Int)) : Prop where
  own : w.ownsRow 0 34 1 (.slice A n c) n vs
  len : ls.length = n
  avoid : ∀ k, (Value.slice A n c).ownBlock = some k → k ∉ S
  row : ∀ (i : Nat) (l : List Int), ls[i]? = some l → ∃ v, vs[i]? = some v ∧ w.ownsRow 0 5 1 v l.length (u8s l) ∧ ∀ k, v.ownBlock = some k → k ∉ S
  apart : ∀ (i j : Nat) (v u : Value) (k : Nat), i ≠ j → vs[i]? = some v → vs[j]? = some u → v.ownBlock = some k → u.ownBlock ≠ some k

theorem ty_ne : (34 : Nat) ≠ 5 := by decide
section
variable {w w' : World} {S : List Nat} {A : Option Addr} {n c : Nat} {vs : List Value} {ls : List (List Int)}
theorem Prt.vlen (h : Prt w S A n c vs ls) : vs.length = n := by have := h.own.1; omega
theorem Prt.kept {T : List Nat} (h : Prt w S A n c vs ls) (hk : Kp T w w') (ht : ∀ k ∈ T, k ∈ S ∨ w.heap.size ≤ k) : Prt w' S A n c vs ls := by
  have key : ∀ {e : TypeId} {v : Value} {m : Nat} {xs : List Value}, w.ownsRow 0 e 1 v m xs → (∀ k, v.ownBlock = some k → k ∉ S) → w'.ownsRow 0 e 1 v m xs := fun h hs =>
    own_same h fun k hb => hk.block k (h.lt k hb).2 fun hm => by
      rcases ht k hm with h1 | h1
      · exact hs k hb h1
      · have := (h.lt k hb).2; omega
  refine ⟨key h.own h.avoid, h.len, h.avoid, fun i l hl => ?_, h.apart⟩
  obtain ⟨v, hv, ho, ha⟩ := h.row i l hl
  exact ⟨v, hv, key ho ha, ha⟩
theorem Prt.nil (w : World) (S : List Nat) : Prt w S none 0 0 [] [] :=
  ⟨World.ownsRow_nil w 0 _ 1, rfl, fun k hk => by simp [Value.ownBlock] at hk, fun i l hl => by simp at hl, fun i j v u k _ hv => by simp at hv⟩

/-- 'parts = append(parts, nil)'. -/
theorem Prt.opened (h : Prt w S A n c vs ls) {A' : Option Addr} {c' : Nat} {o : Obj} (own : w'.ownsRow 0 34 1 (.slice A' (n + 1) c') (n + 1) (vs ++ [.slice none 0 0])) (grow : (w.alloc o).grownBy w' (Value.slice A n c).ownBlock)
    (hat : (Value.slice A' (n + 1) c').ownBlock = (Value.slice A n c).ownBlock ∨ (Value.slice A' (n + 1) c').ownBlock = some (w.alloc o).heap.size) (hS : ∀ k ∈ S, k < w.heap.size) : Prt w' S A' (n + 1) c' (vs ++ [.slice none 0 0]) (ls ++ [[]]) := by
  have hvl := h.vlen
  have hrow : ∀ (i : Nat) (l : List Int), ls[i]? = some l → ∃ v, vs[i]? = some v ∧ w'.ownsRow 0 5 1 v l.length (u8s l) ∧ ∀ k, v.ownBlock = some k → k ∉ S := fun i l hl => by
    obtain ⟨v, hv, ho, ha⟩ := h.row i l hl
    refine ⟨v, hv, own_same ho fun k hb => ?_, ha⟩
    have hlt := (ho.lt k hb).2
    exact (grow.block k (by simp; omega) (fun e => own_type h.own ho ty_ne e.symm hb)).trans (Below.heap_alloc w o k hlt)
  refine ⟨own, by rw [List.length_append, h.len]; rfl, ?_, ?_, ?_⟩
  · intro k hk
    rcases hat with e | e
    · rw [e] at hk; exact h.avoid k hk
    · rw [e] at hk
      injection hk with hk
      intro hm
      have := hS k hm
      simp at hk
      omega
  · intro i l hl
    rw [List.getElem?_append] at hl
    rw [List.getElem?_append, hvl]
    rw [h.len] at hl
    by_cases hi : i < n
    · rw [if_pos hi] at hl ⊢
      exact hrow i l hl
    · rw [if_neg hi] at hl ⊢
      have h0 : i - n = 0 := by
        rcases Nat.eq_zero_or_pos (i - n) with h0 | h0
        · exact h0
        · rw [List.getElem?_eq_none (by simp; omega)] at hl; cases hl
      rw [h0] at hl ⊢
      simp at hl
      subst hl
      exact ⟨_, rfl, World.ownsRow_nil w' 0 _ 1, fun k hk => by simp [Value.ownBlock] at hk⟩
  · intro i j v u k hij hv hu hk
    rw [List.getElem?_append, hvl] at hv hu
    by_cases hi : i < n
    · rw [if_pos hi] at hv
      by_cases hj : j < n
      · rw [if_pos hj] at hu
        exact h.apart i j v u k hij hv hu hk
      · rw [if_neg hj] at hu
        have : u = .slice none 0 0 := by
          have := List.mem_of_getElem? hu
          simpa using this
        subst this
        simp [Value.ownBlock]
    · rw [if_neg hi] at hv
      have : v = .slice none 0 0 := by
        have := List.mem_of_getElem? hv
        simpa using this
      subst this
      simp [Value.ownBlock] at hk

/-- 'parts[len(parts)-1] = append(parts[len(parts)-1], b)': the row has grown, and is stored. -/
theorem Prt.byte {g : Nat} {m : Nat} (h : Prt w S (some ⟨g, 0, none⟩) (m + 1) c vs ls) {v : Value} {l x : List Int} {A' : Option Addr} {c' : Nat} {w1 : World} {o : Obj} (hl : ls[m]? = some l) (hv : vs[m]? = some v)
    (own : w1.ownsRow 0 5 1 (.slice A' (l.length + 1) c') (l.length + 1) (u8s x)) (hx : x.length = l.length + 1) (grow : (w.alloc o).grownBy w1 v.ownBlock)
    (hat : (Value.slice A' (l.length + 1) c').ownBlock = v.ownBlock ∨ (Value.slice A' (l.length + 1) c').ownBlock = some (w.alloc o).heap.size) (hS : ∀ k ∈ S, k < w.heap.size) :
    Prt (w1.setCell ⟨g, m, none⟩ (.slice A' (l.length + 1) c')) S (some ⟨g, 0, none⟩) (m + 1) c (vs.set m (.slice A' (l.length + 1) c')) (ls.set m x) := by
  have hvl := h.vlen
  obtain ⟨v', hv', hov, hav⟩ := h.row m l hl
  rw [hv] at hv'
  injection hv' with hv'
  subst hv'
  have hgv : v.ownBlock ≠ some g := own_type h.own hov ty_ne rfl
  have hg : g < w.heap.size := own_lt h.own
  have hw1g : w1.heap[g]? = w.heap[g]? := (grow.block g (by simp; omega) (fun e => hgv e.symm)).trans (Below.heap_alloc w o g hg)
  have own1 : w1.ownsRow 0 34 1 (.slice (some ⟨g, 0, none⟩) (m + 1) c) (m + 1) vs := own_same h.own fun k hk => by
    simp [Value.ownBlock] at hk
    subst hk
    exact hw1g
  have hng : (Value.slice A' (l.length + 1) c').ownBlock ≠ some g := own_type own1 own ty_ne rfl
  refine ⟨(own1.stored m _).1, by rw [List.length_set, h.len], h.avoid, ?_, ?_⟩
  · intro i y hy
    rw [List.getElem?_set] at hy
    rw [List.getElem?_set]
    by_cases hi : m = i
    · subst hi
      rw [if_pos rfl, if_pos (by rw [h.len]; omega)] at hy
      rw [if_pos rfl, if_pos (by omega)]
      injection hy with hy
      subst hy
      refine ⟨_, rfl, ?_, ?_⟩
      · rw [hx]
        exact own_same own fun k hk => heap_setCell_other w1 ⟨g, m, none⟩ k _ (fun e => hng (by rw [hk, e]))
      · intro k hk
        rcases hat with e | e
        · rw [e] at hk; exact hav k hk
        · rw [e] at hk
          injection hk with hk
          intro hm
          have := hS k hm
          simp at hk
          omega
    · rw [if_neg hi] at hy ⊢
      obtain ⟨u, hu, hou, hau⟩ := h.row i y hy
      refine ⟨u, hu, own_same hou fun k hk => ?_, hau⟩
      have hkg : k ≠ g := fun e => own_type h.own hou ty_ne rfl (by rw [hk, e])
      have hlt := (hou.lt k hk).2
      exact (heap_setCell_other w1 ⟨g, m, none⟩ k _ hkg).trans ((grow.block k (by simp; omega) (fun e => h.apart m i v u k hi hv hu e.symm hk)).trans (Below.heap_alloc w o k hlt))
  · intro i j a b k hij ha hb hk
    rw [List.getElem?_set] at ha hb
    have hnew : ∀ (i : Nat) (u : Value), m ≠ i → vs[i]? = some u → ∀ k, (Value.slice A' (l.length + 1) c').ownBlock = some k → u.ownBlock ≠ some k := fun i u hi hu k hk hu' => by
      rcases hat with e | e
      · rw [e] at hk
        exact h.apart m i v u k hi hv hu hk hu'
      · rw [e] at hk
        injection hk with hk
        obtain ⟨y, hy⟩ : ∃ y, ls[i]? = some y := ⟨_, List.getElem?_eq_getElem (by rw [h.len, ← hvl]; exact (List.getElem?_eq_some_iff.1 hu).1)⟩
        obtain ⟨u', hu'', hou, _⟩ := h.row i y hy
        rw [hu] at hu''
        injection hu'' with hu''
        subst hu''
        have := (hou.lt k hu').2
        simp at hk
        omega
    by_cases hi : m = i
    · subst hi
      rw [if_pos rfl, if_pos (by omega)] at ha
      rw [if_neg hij] at hb
      injection ha with ha
      subst ha
      exact hnew j b hij hb k hk
    · rw [if_neg hi] at ha
      by_cases hj : m = j
      · subst hj
        rw [if_pos rfl, if_pos (by omega)] at hb
        injection hb with hb
        subst hb
        intro hk'
        exact hnew i a hi ha k hk' hk
      · rw [if_neg hj] at hb
        exact h.apart i j a b k hij ha hb hk
theorem Prt.kp_byte {g : Nat} {m : Nat} {v : Value} {w1 : World} {o : Obj} {T : List Nat} (grow : (w.alloc o).grownBy w1 v.ownBlock) (u : Value) (hv : ∀ k, v.ownBlock = some k → k ∈ T) (hg : g ∈ T) : Kp T w (w1.setCell ⟨g, m, none⟩ u) :=
  (((Kp.refl T w).alloc o).grown grow (fun k hk => .inl (hv k hk))).setCell (.inl hg) u
end
end Go.Proofs.YtjjcemdoefigkaaDoor.W
