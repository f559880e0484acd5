/- Report: how rows of hits and of verdicts lie. -/
import Derived.Test.YtgjningfpkoooaaDoorQb
namespace Go.Proofs.YtgjningfpkoooaaDoor.Ro
set_option linter.unusedVariables false
set_option linter.unusedSimpArgs false
open Go.RowKit Go.Proofs.YtgjningfpkoooaaDoor.W

/-- A path as it lies: in no block below B, nor in the block g. -/
def PL (w : World) (B : Nat) (g : Option Nat) (v : Value) (l : List Int) : Prop :=
  ∃ A c, v = .slice A l.length c ∧ l.length ≤ c ∧ l.length ≤ 1000000000000 ∧ RX w g A (is64 l) ∧ ∀ ad, A = some ad → B ≤ ad.block ∧ ad.block < w.heap.size ∨ l = []
/-- The shape of a struct that has one path. -/
structure Sh (α : Type) where
  k : Nat
  pt : α → List Int
  cs : α → Value → List Value
  len : ∀ a v, (cs a v).length = k
def hS : Sh Ht := ⟨3, fun h => h.2.1, fun h v => [.int .i64 h.1, v, .int .i64 h.2.2], fun _ _ => rfl⟩
def vS : Sh Vd := ⟨2, fun h => h.1, fun h v => [v, .int .i64 h.2], fun _ _ => rfl⟩
/-- Such structs as they read, in blocks from B on. -/
def RR {α : Type} (S : Sh α) (w : World) (B : Nat) (A : Option Addr) (hs : List α) : Prop :=
  ∀ i h, hs[i]? = some h → ∃ b off v, A = some ⟨b, off, none⟩ ∧ b < w.heap.size ∧ B ≤ b ∧ (∀ j u, (S.cs h v)[j]? = some u → w.cell? ⟨b, off + i * S.k + j, none⟩ = some u) ∧ PL w B none v (S.pt h)
/-- The cells of such structs. -/
def OC {α : Type} (S : Sh α) (w : World) (B : Nat) (g : Option Nat) (cells : List Value) (hs : List α) : Prop :=
  cells.length = hs.length * S.k ∧ ∀ i h, hs[i]? = some h → ∃ v, (∀ j u, (S.cs h v)[j]? = some u → cells[i * S.k + j]? = some u) ∧ PL w B g v (S.pt h)
theorem rx_below {w w' : World} {g : Option Nat} {A : Option Addr} {vs : List Value} (h : RX w g A vs) (hb : Below w.heap.size w w') : RX w' g A vs := fun i v hv => by
  obtain ⟨b, off, hA, hlt, hne, hc⟩ := h i v hv
  exact ⟨b, off, hA, Nat.lt_of_lt_of_le hlt hb.size, hne, (World.cell?_of_block (a := ⟨b, off + i, none⟩) (hb.block b hlt)).trans hc⟩
theorem PL.below {w w' : World} {B : Nat} {g : Option Nat} {v : Value} {l : List Int} (h : PL w B g v l) (hb : Below w.heap.size w w') : PL w' B g v l := by
  obtain ⟨A, c, h1, h2, h3, h4, h5⟩ := h
  refine ⟨A, c, h1, h2, h3, rx_below h4 hb, fun ad ha => ?_⟩
  rcases h5 ad ha with ⟨q1, q2⟩ | q
  · exact .inl ⟨q1, Nat.lt_of_lt_of_le q2 hb.size⟩
  · exact .inr q
theorem PL.kept {w w' : World} {B : Nat} {g g' row : Option Nat} {v : Value} {l : List Int} (h : PL w B g v l) (hg : w.grownBy w' row) (hr : row = g ∨ row = none) (hg' : g' = g ∨ g' = none ∨ ∃ k, g' = some k ∧ w.heap.size ≤ k) : PL w' B g' v l := by
  obtain ⟨A, c, h1, h2, h3, h4, h5⟩ := h
  refine ⟨A, c, h1, h2, h3, h4.kept hg hr hg', fun ad ha => ?_⟩
  rcases h5 ad ha with ⟨q1, q2⟩ | q
  · exact .inl ⟨q1, Nat.lt_of_lt_of_le q2 hg.size⟩
  · exact .inr q
theorem PL.base {w : World} {B B' : Nat} {g : Option Nat} {v : Value} {l : List Int} (h : PL w B g v l) (hb : B' ≤ B) : PL w B' g v l := by
  obtain ⟨A, c, h1, h2, h3, h4, h5⟩ := h
  refine ⟨A, c, h1, h2, h3, h4, fun ad ha => ?_⟩
  rcases h5 ad ha with ⟨q1, q2⟩ | q
  · exact .inl ⟨by omega, q2⟩
  · exact .inr q
theorem PL.rv {w : World} {B : Nat} {g : Option Nat} {v : Value} {l : List Int} (h : PL w B g v l) : ∃ A n c, v = .slice A n c ∧ l.length = n ∧ n ≤ c ∧ n ≤ 1000000000000 ∧ RV w A (is64 l) := by
  obtain ⟨A, c, h1, h2, h3, h4, _⟩ := h
  exact ⟨A, _, c, h1, rfl, h2, h3, h4.reads⟩
theorem PL.plain {w : World} {B : Nat} {g : Option Nat} {v : Value} {l : List Int} (h : PL w B g v l) : PL w B none v l := by
  obtain ⟨A, c, h1, h2, h3, h4, h5⟩ := h
  refine ⟨A, c, h1, h2, h3, fun i v hv => ?_, h5⟩
  obtain ⟨b, off, q1, q2, _, q4⟩ := h4 i v hv
  exact ⟨b, off, q1, q2, by simp, q4⟩
/-- A path that a call has made. -/
theorem PL.own {w : World} {B : Nat} {g : Option Nat} {e : TypeId} {v : Value} {n : Nat} {l : List Int} (h : w.ownsRow B e 1 v n (is64 l)) (hn : n ≤ 1000000000000) (hg : ∀ k, v.ownBlock = some k → g ≠ some k) : PL w B g v l := by
  have hl : l.length = n := by have := h.1; unfold is64 at this; rw [List.length_map] at this; omega
  obtain ⟨A, c, rfl, hc⟩ := slice_form h
  subst hl
  refine ⟨A, c, rfl, hc, hn, (RV.own h).apart fun ad ha => ?_, fun ad ha => .inl (RV.own_block h ha)⟩
  subst ha
  exact fun e => hg _ rfl e.symm
theorem RR.below {α : Type} {S : Sh α} {w w' : World} {B : Nat} {A : Option Addr} {hs : List α} (h : RR S w B A hs) (hb : Below w.heap.size w w') : RR S w' B A hs := fun i x hx => by
  obtain ⟨b, off, v, h1, h2, h3, h4, h5⟩ := h i x hx
  exact ⟨b, off, v, h1, Nat.lt_of_lt_of_le h2 hb.size, h3, fun j u hu => (World.cell?_of_block (a := ⟨b, off + i * S.k + j, none⟩) (hb.block b h2)).trans (h4 j u hu), h5.below hb⟩
theorem RR.base {α : Type} {S : Sh α} {w : World} {B B' : Nat} {A : Option Addr} {hs : List α} (h : RR S w B A hs) (hb : B' ≤ B) : RR S w B' A hs := fun i x hx => by
  obtain ⟨b, off, v, h1, h2, h3, h4, h5⟩ := h i x hx
  exact ⟨b, off, v, h1, h2, by omega, h4, h5.base hb⟩
theorem RR.nil {α : Type} (S : Sh α) (w : World) (B : Nat) (A : Option Addr) : RR S w B A [] := fun i x hx => by simp at hx
theorem RR.drew {α : Type} {S : Sh α} {w : World} {B : Nat} {A : Option Addr} {hs : List α} (h : RR S w B A hs) (d : Nat) : RR S (w.drewN d) B A hs := h
theorem OC.nil {α : Type} (S : Sh α) (w : World) (B : Nat) (g : Option Nat) : OC S w B g [] [] := ⟨by simp, fun i x hx => by simp at hx⟩
theorem OC.below {α : Type} {S : Sh α} {w w' : World} {B : Nat} {g : Option Nat} {cells : List Value} {hs : List α} (h : OC S w B g cells hs) (hb : Below w.heap.size w w') : OC S w' B g cells hs :=
  ⟨h.1, fun i x hx => by obtain ⟨v, h1, h2⟩ := h.2 i x hx; exact ⟨v, h1, h2.below hb⟩⟩
theorem OC.kept {α : Type} {S : Sh α} {w w' : World} {B : Nat} {g g' row : Option Nat} {cells : List Value} {hs : List α} (h : OC S w B g cells hs) (hg : w.grownBy w' row) (hr : row = g ∨ row = none) (hg' : g' = g ∨ g' = none ∨ ∃ k, g' = some k ∧ w.heap.size ≤ k) : OC S w' B g' cells hs :=
  ⟨h.1, fun i x hx => by obtain ⟨v, h1, h2⟩ := h.2 i x hx; exact ⟨v, h1, h2.kept hg hr hg'⟩⟩
theorem OC.snoc {α : Type} {S : Sh α} {w : World} {B : Nat} {g : Option Nat} {cells : List Value} {hs : List α} (h : OC S w B g cells hs) {x : α} {v : Value} (hp : PL w B g v (S.pt x)) : OC S w B g (cells ++ S.cs x v) (hs ++ [x]) := by
  refine ⟨by rw [List.length_append, h.1, S.len, List.length_append, Nat.add_mul]; simp, fun i y hy => ?_⟩
  rcases Nat.lt_or_ge i hs.length with hi | hi
  · rw [List.getElem?_append_left hi] at hy
    obtain ⟨u, h1, h2⟩ := h.2 i y hy
    refine ⟨u, fun j z hz => ?_, h2⟩
    rw [List.getElem?_append_left (by
      have := (List.getElem?_eq_some_iff.1 (h1 j z hz)).1
      exact this)]
    exact h1 j z hz
  · rw [List.getElem?_append_right hi] at hy
    have hi0 : i - hs.length = 0 := by
      rcases Nat.eq_zero_or_pos (i - hs.length) with h0 | h0
      · exact h0
      · rw [List.getElem?_eq_none (by simp; omega)] at hy; cases hy
    rw [hi0] at hy
    simp at hy
    subst hy
    have hi1 : i = hs.length := by omega
    subst hi1
    refine ⟨v, fun j z hz => ?_, hp⟩
    rw [List.getElem?_append_right (by rw [h.1]; omega), h.1, Nat.add_sub_cancel_left]
    exact hz
/-- Cells of a row of the call's own, whatever their number for each element. -/
theorem rv_own {w : World} {base : Nat} {e : TypeId} {k : Nat} {A : Option Addr} {n c : Nat} {vs : List Value} (h : w.ownsRow base e k (.slice A n c) n vs) : ∀ i v, vs[i]? = some v → ∃ b, A = some ⟨b, 0, none⟩ ∧ b < w.heap.size ∧ base ≤ b ∧ w.cell? ⟨b, i, none⟩ = some v := fun i v hv => by
  rcases h.2 with ⟨h0, h1⟩ | ⟨g, cap, cur, hs, hb, hg, hn, hm, hsz, ht⟩
  · have hl := h.1
    rw [h1] at hl
    have := (List.getElem?_eq_some_iff.1 hv).1
    omega
  · injection hs with hA _ _
    subst hA
    refine ⟨g, rfl, (Array.getElem?_eq_some_iff.1 hg).1, hb, ?_⟩
    rw [cell_of_row w g i cur e (0, 0) hg]
    rw [← ht, List.getElem?_take] at hv
    split at hv
    · simpa using hv
    · cases hv
theorem OC.read {α : Type} {S : Sh α} (hk : 0 < S.k) {w : World} {B : Nat} {g : Option Nat} {e : TypeId} {A : Option Addr} {n c : Nat} {cells : List Value} {hs : List α} (h : OC S w B g cells hs) (ho : w.ownsRow B e S.k (.slice A n c) n cells) : RR S w B A hs := fun i x hx => by
  obtain ⟨v, h1, h2⟩ := h.2 i x hx
  obtain ⟨u0, hu0⟩ : ∃ u, (S.cs x v)[0]? = some u := ⟨_, List.getElem?_eq_getElem (by rw [S.len]; exact hk)⟩
  obtain ⟨b, q1, q2, q3, _⟩ := rv_own ho _ _ (h1 0 u0 hu0)
  refine ⟨b, 0, v, q1, q2, q3, fun j u hu => ?_, h2.plain⟩
  obtain ⟨b', q1', _, _, q4⟩ := rv_own ho _ _ (h1 j u hu)
  rw [q1] at q1'
  injection q1' with q1'
  injection q1' with q1'
  subst q1'
  rw [Nat.zero_add]
  exact q4
theorem RR.hit {w : World} {B : Nat} {A : Option Addr} {hs : List Ht} (h : RR hS w B A hs) {i : Nat} {x : Ht} (hx : hs[i]? = some x) : ∃ b off Ap n c, A = some ⟨b, off, none⟩ ∧ b < w.heap.size ∧ w.cell? ⟨b, off + i * 3, none⟩ = some (.int .i64 x.1) ∧ w.cell? ⟨b, off + i * 3 + 1, none⟩ = some (.slice Ap n c) ∧ w.cell? ⟨b, off + i * 3 + 2, none⟩ = some (.int .i64 x.2.2) ∧ x.2.1.length = n ∧ n ≤ c ∧ n ≤ 1000000000000 ∧ RV w Ap (is64 x.2.1) := by
  obtain ⟨b, off, v, h1, h2, _, h4, h5⟩ := h i x hx
  obtain ⟨Ap, n, c, rfl, q1, q2, q3, q4⟩ := h5.rv
  exact ⟨b, off, Ap, n, c, h1, h2, h4 0 _ rfl, h4 1 _ rfl, h4 2 _ rfl, q1, q2, q3, q4⟩
theorem RR.verd {w : World} {B : Nat} {A : Option Addr} {hs : List Vd} (h : RR vS w B A hs) {i : Nat} {x : Vd} (hx : hs[i]? = some x) : ∃ b off Ap n c, A = some ⟨b, off, none⟩ ∧ b < w.heap.size ∧ w.cell? ⟨b, off + i * 2, none⟩ = some (.slice Ap n c) ∧ w.cell? ⟨b, off + i * 2 + 1, none⟩ = some (.int .i64 x.2) ∧ x.1.length = n ∧ n ≤ c ∧ n ≤ 1000000000000 ∧ RV w Ap (is64 x.1) := by
  obtain ⟨b, off, v, h1, h2, _, h4, h5⟩ := h i x hx
  obtain ⟨Ap, n, c, rfl, q1, q2, q3, q4⟩ := h5.rv
  exact ⟨b, off, Ap, n, c, h1, h2, h4 0 _ rfl, h4 1 _ rfl, q1, q2, q3, q4⟩
/-- A report as it lies. -/
def RepAt (w : World) (B : Nat) (A : Option Addr) (n c : Nat) (A2 : Option Addr) (m c2 : Nat) (r : Rp) : Prop :=
  r.1.length = n ∧ n ≤ c ∧ r.2.length = m ∧ m ≤ c2 ∧ RR hS w B A r.1 ∧ RR vS w B A2 r.2
theorem RepAt.below {w w' : World} {B : Nat} {A : Option Addr} {n c : Nat} {A2 : Option Addr} {m c2 : Nat} {r : Rp} (h : RepAt w B A n c A2 m c2 r) (hb : Below w.heap.size w w') : RepAt w' B A n c A2 m c2 r :=
  ⟨h.1, h.2.1, h.2.2.1, h.2.2.2.1, h.2.2.2.2.1.below hb, h.2.2.2.2.2.below hb⟩
end Go.Proofs.YtgjningfpkoooaaDoor.Ro
