/- Words: what a call on an object of several blocks keeps; slices within their capacity. -/
import Derived.Test.YtjjcemdoefigkaaDoorWords
namespace Go.Proofs.YtjjcemdoefigkaaDoor.W
set_option linter.unusedVariables false
set_option linter.unusedSimpArgs false
open Go.RowKit

/-- Of the blocks that were there only those in S may have turned. -/
structure Kp (S : List Nat) (w w' : World) : Prop where
  os : w'.os = w.os
  tape : w'.tape = w.tape
  output : w'.output = w.output
  size : w.heap.size ≤ w'.heap.size
  block : ∀ k, k < w.heap.size → k ∉ S → w'.heap[k]? = w.heap[k]?

theorem Kp.refl (S : List Nat) (w : World) : Kp S w w := ⟨rfl, rfl, rfl, Nat.le_refl _, fun _ _ _ => rfl⟩
theorem Kp.trans {S : List Nat} {a b c : World} (h : Kp S a b) (k : Kp S b c) : Kp S a c :=
  ⟨k.os.trans h.os, k.tape.trans h.tape, k.output.trans h.output, Nat.le_trans h.size k.size, fun i hi hn => (k.block i (Nat.lt_of_lt_of_le hi h.size) hn).trans (h.block i hi hn)⟩
theorem Kp.mono {S T : List Nat} {a b : World} (h : Kp S a b) (hs : ∀ k ∈ S, k ∈ T ∨ a.heap.size ≤ k) : Kp T a b :=
  ⟨h.os, h.tape, h.output, h.size, fun k hk hn => h.block k hk fun hm => (hs k hm).elim hn (fun h => by omega)⟩
theorem Kp.of_below {S : List Nat} {a b : World} (h : Below a.heap.size a b) : Kp S a b := ⟨h.os, h.tape, h.output, h.size, fun k hk _ => h.block k hk⟩
theorem Kp.of_grown {S : List Nat} {a b : World} {row : Option Nat} (h : a.grownBy b row) (hr : ∀ k, row = some k → k ∈ S ∨ a.heap.size ≤ k) : Kp S a b :=
  ⟨h.os, h.tape, h.output, h.size, fun k hk hn => h.block k hk fun e => (hr k e.symm).elim hn (fun h => by omega)⟩
theorem Kp.alloc {S : List Nat} {a b : World} (h : Kp S a b) (o : Obj) : Kp S a (b.alloc o) := h.trans (Kp.of_below ((Below.refl _ _).alloc (Nat.le_refl _) o))
theorem Kp.drewN {S : List Nat} {a b : World} (h : Kp S a b) (n : Nat) : Kp S a (b.drewN n) := ⟨h.os, h.tape, h.output, h.size, h.block⟩
theorem Kp.drew {S : List Nat} {a b : World} (h : Kp S a b) : Kp S a b.drew := ⟨h.os, h.tape, h.output, h.size, h.block⟩
theorem Kp.setCell {S : List Nat} {a b : World} (h : Kp S a b) {p : Addr} (hp : p.block ∈ S ∨ a.heap.size ≤ p.block) (u : Value) : Kp S a (b.setCell p u) :=
  ⟨h.os, h.tape, h.output, by simpa [World.setCell] using h.size, fun k hk hn => (Below.heap_setCell b p u k (by rintro rfl; exact hp.elim hn (fun h => by omega))).trans (h.block k hk hn)⟩
theorem Kp.grown {S : List Nat} {a b c : World} {row : Option Nat} (h : Kp S a b) (g : b.grownBy c row) (hr : ∀ k, row = some k → k ∈ S ∨ a.heap.size ≤ k) : Kp S a c :=
  ⟨g.os.trans h.os, g.tape.trans h.tape, g.output.trans h.output, Nat.le_trans h.size g.size, fun k hk hn => (g.block k (Nat.lt_of_lt_of_le hk h.size) fun e => (hr k e.symm).elim hn (fun h => by omega)).trans (h.block k hk hn)⟩
theorem Kp.below {S : List Nat} {a b : World} (h : Kp S a b) {B : Nat} (hB : B ≤ a.heap.size) (hs : ∀ k ∈ S, B ≤ k) : Below B a b :=
  ⟨h.os, h.tape, h.output, h.size, fun k hk => h.block k (by omega) fun hm => by have := hs k hm; omega⟩

/-- The slice at A reads as vs, and lies in none of the blocks S. -/
def RS (w : World) (S : List Nat) (A : Option Addr) (vs : List Value) : Prop :=
  ∀ i v, vs[i]? = some v → ∃ b off, A = some ⟨b, off, none⟩ ∧ b < w.heap.size ∧ b ∉ S ∧ w.cell? ⟨b, off + i, none⟩ = some v
theorem RS.reads {w : World} {S : List Nat} {A : Option Addr} {vs : List Value} (h : RS w S A vs) : RV w A vs := fun i v hv => by
  obtain ⟨b, off, hA, hb, _, hc⟩ := h i v hv
  exact ⟨b, off, hA, hb, hc⟩
theorem RS.kept {w w' : World} {S T : List Nat} {A : Option Addr} {vs : List Value} (h : RS w S A vs) (hk : Kp T w w') (ht : ∀ k ∈ T, k ∈ S ∨ w.heap.size ≤ k) : RS w' S A vs := fun i v hv => by
  obtain ⟨b, off, hA, hb, hn, hc⟩ := h i v hv
  refine ⟨b, off, hA, Nat.lt_of_lt_of_le hb hk.size, hn, (World.cell?_of_block (a := ⟨b, off + i, none⟩) (hk.block b hb ?_)).trans hc⟩
  intro hm
  rcases ht b hm with h | h
  · exact hn h
  · omega
theorem RV.avoids {w : World} {S : List Nat} {A : Option Addr} {vs : List Value} (h : RV w A vs) (hs : ∀ ad, A = some ad → ad.block ∉ S) : RS w S A vs := fun i v hv => by
  obtain ⟨b, off, hA, hb, hc⟩ := h i v hv
  exact ⟨b, off, hA, hb, hs _ hA, hc⟩
theorem RV.elder {w : World} {S : List Nat} {A : Option Addr} {vs : List Value} (h : RV w A vs) (hs : ∀ k ∈ S, w.heap.size ≤ k) : RS w S A vs := fun i v hv => by
  obtain ⟨b, off, hA, hb, hc⟩ := h i v hv
  exact ⟨b, off, hA, hb, fun hm => by have := hs b hm; omega, hc⟩
theorem RS.nil (w : World) (S : List Nat) (A : Option Addr) : RS w S A [] := fun i v hv => by simp at hv
theorem RS.widen {w : World} {S T : List Nat} {A : Option Addr} {vs : List Value} (h : RS w S A vs) (ht : ∀ k ∈ T, k ∈ S ∨ w.heap.size ≤ k) : RS w T A vs := fun i v hv => by
  obtain ⟨b, off, hA, hb, hn, hc⟩ := h i v hv
  exact ⟨b, off, hA, hb, fun hm => (ht b hm).elim hn (fun h => by omega), hc⟩

theorem own_elem {w : World} {base : Nat} {e : TypeId} {size g n cap : Nat} {xs : List Value} (h : w.ownsRow base e size (.slice (some ⟨g, 0, none⟩) n cap) n xs) {j : Nat} {v : Value} (hv : xs[j]? = some v) : w.cell? ⟨g, j, none⟩ = some v := by
  have hj : j < n * size := by
    have := (List.getElem?_eq_some_iff.1 hv).1
    rw [h.1] at this
    exact this
  rw [h.cellAt j hj, hv]
theorem own_kp {w w' : World} {base : Nat} {e : TypeId} {size g n cap : Nat} {xs : List Value} {S : List Nat} (h : w.ownsRow base e size (.slice (some ⟨g, 0, none⟩) n cap) n xs) (hk : Kp S w w') (hg : g ∉ S) : w'.ownsRow base e size (.slice (some ⟨g, 0, none⟩) n cap) n xs := by
  obtain ⟨h1, h2⟩ := h
  refine ⟨h1, ?_⟩
  rcases h2 with h2 | ⟨g', cap', cur, hv, hb, hg', rest⟩
  · exact .inl h2
  · refine .inr ⟨g', cap', cur, hv, hb, ?_, rest⟩
    have e1 : g = g' := by injection hv with h; injection h with h; injection h
    subst e1
    rw [hk.block g (Array.getElem?_eq_some_iff.1 hg').1 hg]
    exact hg'
theorem own_lt {w : World} {base : Nat} {e : TypeId} {size g n cap : Nat} {xs : List Value} (h : w.ownsRow base e size (.slice (some ⟨g, 0, none⟩) n cap) n xs) : g < w.heap.size := (h.lt g rfl).2
/-- 's = s[:0]'. -/
theorem own_zero {w : World} {base : Nat} {e : TypeId} {size g n cap : Nat} {xs : List Value} (h : w.ownsRow base e size (.slice (some ⟨g, 0, none⟩) n cap) n xs) : w.ownsRow base e size (.slice (some ⟨g, 0, none⟩) 0 cap) 0 [] := by
  obtain ⟨h1, h2⟩ := h
  rcases h2 with ⟨h2, _⟩ | ⟨g', cap', cur, hv, hb, hg', hn, hm, hsz, ht⟩
  · cases h2
  · injection hv with hA hn' hc'
    injection hA with hA
    injection hA with hA
    subst hA hc'
    exact ⟨by simp, .inr ⟨g, cap, cur, rfl, hb, hg', Nat.zero_le _, hm, hsz, by simp⟩⟩
theorem own_cap {w : World} {base : Nat} {e : TypeId} {size g n cap : Nat} {xs : List Value} (h : w.ownsRow base e size (.slice (some ⟨g, 0, none⟩) n cap) n xs) : n ≤ cap ∧ cap ≤ maxLen := by
  rcases h.2 with ⟨h2, _⟩ | ⟨g', cap', cur, hv, hb, hg', hn, hm, hsz, ht⟩
  · cases h2
  · injection hv with hA hn' hc'
    subst hc'
    exact ⟨hn, hm⟩
/-- A store into a block that is known whole. -/
theorem heap_set {w : World} {g : Nat} {cs : Array Value} {t : TypeId} (h : w.heap[g]? = some (.cells cs t (0, 0))) (i : Nat) (u : Value) : (w.setCell ⟨g, i, none⟩ u).heap[g]? = some (.cells (cs.setIfInBounds i u) t (0, 0)) := heap_setCell_same w g i cs t u h
/-- make([]T, 0, c): a row of the call's own. -/
theorem made_cap {w : World} {base : Nat} {e : TypeId} {z : Array Value} {size c : Nat} (hz : z.size = size) (hb : base ≤ w.heap.size) (hm : c ≤ maxLen) : (w.alloc (.cells (Builtin.zeroCells z c) e)).ownsRow base e size (.slice (some ⟨w.heap.size, 0, none⟩) 0 c) 0 [] :=
  World.ownsRow_made w (Builtin.zeroCells z c) c hb hm (by rw [size_zeroCells, hz])
end Go.Proofs.YtjjcemdoefigkaaDoor.W
