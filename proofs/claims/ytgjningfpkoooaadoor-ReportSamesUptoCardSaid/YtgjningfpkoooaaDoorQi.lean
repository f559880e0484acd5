/- Report: a report that is being made. -/
import Derived.Test.YtgjningfpkoooaaDoorQh
import Derived.Deep.Onto
namespace Go.Proofs.YtgjningfpkoooaaDoor.Ro
set_option linter.unusedVariables false
set_option linter.unusedSimpArgs false
open Go.RowKit Go.Proofs.YtgjningfpkoooaaDoor.W

theorem own_kp {w w' : World} {S : List Nat} {B n size : Nat} {e : TypeId} {v : Value} {xs : List Value} (h : w.ownsRow B e size v n xs) (hk : Kp S w w') (hs : ∀ k ∈ S, ∀ cs fr, w.heap[k]? ≠ some (.cells cs e fr)) : w'.ownsRow B e size v n xs := by
  refine ⟨h.1, ?_⟩
  rcases h.2 with h2 | ⟨g, cap, cur, rfl, hb, hg, rest⟩
  · exact .inl h2
  · exact .inr ⟨g, cap, cur, rfl, hb, (hk.block g (Array.getElem?_eq_some_iff.1 hg).1 (fun hm => hs g hm _ _ hg)).trans hg, rest⟩
/-- Cells of structs whose paths are the call's own. -/
def OP {α : Type} (S : Sh α) (w : World) (B : Nat) (cells : List Value) (hs : List α) : Prop :=
  cells.length = hs.length * S.k ∧ ∀ i h, hs[i]? = some h → ∃ v n, (∀ j u, (S.cs h v)[j]? = some u → cells[i * S.k + j]? = some u) ∧ w.ownsRow B 3 1 v n (is64 (S.pt h)) ∧ n ≤ 1000000000000
theorem OP.nil {α : Type} (S : Sh α) (w : World) (B : Nat) : OP S w B [] [] := ⟨by simp, fun i x hx => by simp at hx⟩
theorem OP.kp {α : Type} {S : Sh α} {w w' : World} {T : List Nat} {B : Nat} {cells : List Value} {hs : List α} (h : OP S w B cells hs) (hk : Kp T w w') (ht : ∀ k ∈ T, ∀ cs fr, w.heap[k]? ≠ some (.cells cs 3 fr)) : OP S w' B cells hs :=
  ⟨h.1, fun i x hx => by obtain ⟨v, n, h1, h2, h3⟩ := h.2 i x hx; exact ⟨v, n, h1, own_kp h2 hk ht, h3⟩⟩
theorem OP.snoc {α : Type} {S : Sh α} {w : World} {B : Nat} {cells : List Value} {hs : List α} (h : OP S w B cells hs) {x : α} {v : Value} {n : Nat} (hp : w.ownsRow B 3 1 v n (is64 (S.pt x))) (hn : n ≤ 1000000000000) : OP S w B (cells ++ S.cs x v) (hs ++ [x]) := by
  refine ⟨by rw [List.length_append, h.1, S.len, List.length_append, Nat.add_mul]; simp, fun i y hy => ?_⟩
  rcases Nat.lt_or_ge i hs.length with hi | hi
  · rw [List.getElem?_append_left hi] at hy
    obtain ⟨u, k, h1, h2, h3⟩ := h.2 i y hy
    refine ⟨u, k, fun j z hz => ?_, h2, h3⟩
    rw [List.getElem?_append_left (List.getElem?_eq_some_iff.1 (h1 j z hz)).1]
    exact h1 j z hz
  · rw [List.getElem?_append_right hi] at hy
    have hi0 : i - hs.length = 0 := by
      rcases Nat.eq_zero_or_pos (i - hs.length) with h0 | h0
      · exact h0
      · rw [List.getElem?_eq_none (by simp; omega)] at hy; cases hy
    rw [hi0] at hy
    simp at hy
    subst hy
    have hi1 : i = hs.length := by omega
    subst hi1
    refine ⟨v, n, fun j z hz => ?_, hp, hn⟩
    rw [List.getElem?_append_right (by rw [h.1]; omega), h.1, Nat.add_sub_cancel_left]
    exact hz
theorem OP.read {α : Type} {S : Sh α} (hk : 0 < S.k) {w : World} {B : Nat} {e : TypeId} {A : Option Addr} {n c : Nat} {cells : List Value} {hs : List α} (h : OP S w B cells hs) (ho : w.ownsRow B e S.k (.slice A n c) n cells) : RR S w B A hs :=
  OC.read (g := none) hk ⟨h.1, fun i x hx => by
    obtain ⟨v, k, h1, h2, h3⟩ := h.2 i x hx
    exact ⟨v, h1, PL.own h2 h3 (fun _ _ => by simp)⟩⟩ ho
theorem OP.base {α : Type} {S : Sh α} {w : World} {B B' : Nat} {cells : List Value} {hs : List α} (h : OP S w B cells hs) (hb : B' ≤ B) : OP S w B' cells hs :=
  ⟨h.1, fun i x hx => by obtain ⟨v, n, h1, h2, h3⟩ := h.2 i x hx; exact ⟨v, n, h1, h2.mono hb, h3⟩⟩
/-- The report that lies in block b, all its rows and paths the call's own. -/
def RO (w : World) (B b : Nat) (A : Option Addr) (n c : Nat) (A2 : Option Addr) (m c2 : Nat) (cs1 cs2 : List Value) (a : Rp) : Prop :=
  B ≤ b ∧ w.heap[b]? = some (.cells #[.slice A n c, .slice A2 m c2] 36 (0, 0)) ∧ a.1.length = n ∧ a.2.length = m ∧
  w.ownsRow B 44 3 (.slice A n c) n cs1 ∧ OP hS w B cs1 a.1 ∧ w.ownsRow B 68 2 (.slice A2 m c2) m cs2 ∧ OP vS w B cs2 a.2
def RepO (w : World) (B b : Nat) (a : Rp) : Prop := ∃ A n c A2 m c2 cs1 cs2, RO w B b A n c A2 m c2 cs1 cs2 a
theorem RO.kp {w w' : World} {T : List Nat} {B b : Nat} {A : Option Addr} {n c : Nat} {A2 : Option Addr} {m c2 : Nat} {cs1 cs2 : List Value} {a : Rp} (h : RO w B b A n c A2 m c2 cs1 cs2 a) (hk : Kp T w w') (ht : ∀ k ∈ T, w.heap.size ≤ k) : RO w' B b A n c A2 m c2 cs1 cs2 a := by
  have hn : ∀ k ∈ T, ∀ cs e fr, w.heap[k]? ≠ some (.cells cs e fr) := fun k hm cs e fr hc => by
    have h1 := (Array.getElem?_eq_some_iff.1 hc).1
    have := ht k hm
    omega
  obtain ⟨h0, h1, h2, h3, h4, h5, h6, h7⟩ := h
  have hlt := (Array.getElem?_eq_some_iff.1 h1).1
  exact ⟨h0, (hk.block b hlt (fun hm => by have := ht b hm; omega)).trans h1, h2, h3, own_kp h4 hk (fun k hm cs fr => hn k hm cs _ fr), h5.kp hk (fun k hm cs fr => hn k hm cs _ fr), own_kp h6 hk (fun k hm cs fr => hn k hm cs _ fr), h7.kp hk (fun k hm cs fr => hn k hm cs _ fr)⟩
theorem RO.below {w w' : World} {B b : Nat} {A : Option Addr} {n c : Nat} {A2 : Option Addr} {m c2 : Nat} {cs1 cs2 : List Value} {a : Rp} (h : RO w B b A n c A2 m c2 cs1 cs2 a) (hb : Below w.heap.size w w') : RO w' B b A n c A2 m c2 cs1 cs2 a :=
  h.kp (Kp.of_below (S := []) hb) (fun k hm => by cases hm)
theorem RO.cells {w : World} {B b : Nat} {A : Option Addr} {n c : Nat} {A2 : Option Addr} {m c2 : Nat} {cs1 cs2 : List Value} {a : Rp} (h : RO w B b A n c A2 m c2 cs1 cs2 a) : w.cell? ⟨b, 0, none⟩ = some (.slice A n c) ∧ w.cell? ⟨b, 1, none⟩ = some (.slice A2 m c2) ∧ b < w.heap.size :=
  ⟨cell_of_row w b 0 _ _ _ h.2.1, cell_of_row w b 1 _ _ _ h.2.1, (Array.getElem?_eq_some_iff.1 h.2.1).1⟩
theorem slice_cap {w : World} {base : Nat} {e : TypeId} {size : Nat} {A : Option Addr} {n c : Nat} {xs : List Value} (h : w.ownsRow base e size (.slice A n c) n xs) : n ≤ c := by
  obtain ⟨A', c', e, hc⟩ := slice_form h
  injection e with _ _ e2
  omega
theorem RO.read {w : World} {B b : Nat} {A : Option Addr} {n c : Nat} {A2 : Option Addr} {m c2 : Nat} {cs1 cs2 : List Value} {a : Rp} (h : RO w B b A n c A2 m c2 cs1 cs2 a) : RepAt w B A n c A2 m c2 a := by
  obtain ⟨h0, h1, h2, h3, h4, h5, h6, h7⟩ := h
  exact ⟨h2, slice_cap h4, h3, slice_cap h6, h5.read (by decide) h4, h7.read (by decide) h6⟩
/-- A block of one type, and what has turned in a world is a row of another. -/
theorem row_types {w : World} {B : Nat} {e : TypeId} {size n : Nat} {v : Value} {xs : List Value} (h : w.ownsRow B e size v n xs) {e2 : TypeId} (hne : e ≠ e2) : ∀ k, v.ownBlock = some k → ∀ cs fr, w.heap[k]? ≠ some (.cells cs e2 fr) := by
  intro k hk cs fr hc
  rcases h.2 with ⟨rfl, _⟩ | ⟨g, cap, cur, rfl, hb, hg, _⟩
  · cases hk
  · injection hk with hk
    subst hk
    rw [hg] at hc
    injection hc with hc
    injection hc with _ hc _
    exact hne hc
theorem heap_set {w : World} {b : Nat} {cs : Array Value} {t : TypeId} {fr : Nat × Nat} (h : w.heap[b]? = some (.cells cs t fr)) (i : Nat) (u : Value) : (w.setCell ⟨b, i, none⟩ u).heap[b]? = some (.cells (cs.set! i u) t fr) := by
  have hlt := (Array.getElem?_eq_some_iff.1 h).1
  unfold World.setCell
  simp [Array.getElem?_modify, h]
theorem kp_row {w w' : World} {v : Value} (hg : w.grownBy w' v.ownBlock) : Kp v.ownBlock.toList w w' := Kp.of_grown hg (fun k hk => .inl (by rw [hk]; simp))
theorem RO.blockH {w w1 : World} {B b : Nat} {A : Option Addr} {n c : Nat} {A2 : Option Addr} {m c2 : Nat} {cs1 cs2 : List Value} {a : Rp} (h : RO w B b A n c A2 m c2 cs1 cs2 a) (hg : w.grownBy w1 (Value.slice A n c).ownBlock) : w1.heap[b]? = some (.cells #[.slice A n c, .slice A2 m c2] 36 (0, 0)) := by
  obtain ⟨h0, h1, h2, h3, h4, h5, h6, h7⟩ := h
  exact ((kp_row hg).block b (Array.getElem?_eq_some_iff.1 h1).1 (fun hm => row_types h4 (by decide) b (by simpa using hm) _ _ h1)).trans h1
theorem RO.blockV {w w1 : World} {B b : Nat} {A : Option Addr} {n c : Nat} {A2 : Option Addr} {m c2 : Nat} {cs1 cs2 : List Value} {a : Rp} (h : RO w B b A n c A2 m c2 cs1 cs2 a) (hg : w.grownBy w1 (Value.slice A2 m c2).ownBlock) : w1.heap[b]? = some (.cells #[.slice A n c, .slice A2 m c2] 36 (0, 0)) := by
  obtain ⟨h0, h1, h2, h3, h4, h5, h6, h7⟩ := h
  exact ((kp_row hg).block b (Array.getElem?_eq_some_iff.1 h1).1 (fun hm => row_types h6 (by decide) b (by simpa using hm) _ _ h1)).trans h1
theorem RO.hit {w w1 : World} {B b : Nat} {A : Option Addr} {n c : Nat} {A2 : Option Addr} {m c2 : Nat} {cs1 cs2 : List Value} {a : Rp} (h : RO w B b A n c A2 m c2 cs1 cs2 a) {x : Ht} {v : Value} {k : Nat} (hp : w.ownsRow B 3 1 v k (is64 x.2.1)) (hk : k ≤ 1000000000000)
    {A' : Option Addr} {c' : Nat} (ho : w1.ownsRow B 44 3 (.slice A' (n + 1) c') (n + 1) (cs1 ++ hS.cs x v)) (hg : w.grownBy w1 (Value.slice A n c).ownBlock) :
    RO (w1.setCell ⟨b, 0, none⟩ (.slice A' (n + 1) c')) B b A' (n + 1) c' A2 m c2 (cs1 ++ hS.cs x v) cs2 (a.1 ++ [x], a.2) := by
  obtain ⟨h0, h1, h2, h3, h4, h5, h6, h7⟩ := h
  have K1 := kp_row hg
  have T : ∀ e2 : TypeId, 44 ≠ e2 → ∀ g ∈ (Value.slice A n c).ownBlock.toList, ∀ cs fr, w.heap[g]? ≠ some (.cells cs e2 fr) := fun e2 hne g hm => row_types h4 hne g (by simpa using hm)
  have hlt := (Array.getElem?_eq_some_iff.1 h1).1
  have hb1 : w1.heap[b]? = some (.cells #[.slice A n c, .slice A2 m c2] 36 (0, 0)) := (K1.block b hlt (fun hm => T _ (by decide) b hm _ _ h1)).trans h1
  have K2 : Kp [b] w1 (w1.setCell ⟨b, 0, none⟩ (.slice A' (n + 1) c')) := (Kp.refl _ _).setCell (.inl (by simp)) _
  have T2 : ∀ e2 : TypeId, 36 ≠ e2 → ∀ g ∈ [b], ∀ cs fr, w1.heap[g]? ≠ some (.cells cs e2 fr) := fun e2 hne g hm cs fr hc => by
    rw [List.mem_singleton.1 hm, hb1] at hc
    injection hc with hc
    injection hc with _ hc _
    exact hne hc
  refine ⟨h0, ?_, by rw [List.length_append, h2]; rfl, h3, own_kp ho K2 (T2 _ (by decide)), ?_, own_kp (own_kp h6 K1 (T _ (by decide))) K2 (T2 _ (by decide)), (h7.kp K1 (T _ (by decide))).kp K2 (T2 _ (by decide))⟩
  · rw [heap_set hb1]
    rfl
  · exact ((h5.kp K1 (T _ (by decide))).kp K2 (T2 _ (by decide))).snoc (own_kp (own_kp hp K1 (T _ (by decide))) K2 (T2 _ (by decide))) hk
theorem RO.verd {w w1 : World} {B b : Nat} {A : Option Addr} {n c : Nat} {A2 : Option Addr} {m c2 : Nat} {cs1 cs2 : List Value} {a : Rp} (h : RO w B b A n c A2 m c2 cs1 cs2 a) {x : Vd} {v : Value} {k : Nat} (hp : w.ownsRow B 3 1 v k (is64 x.1)) (hk : k ≤ 1000000000000)
    {A' : Option Addr} {c' : Nat} (ho : w1.ownsRow B 68 2 (.slice A' (m + 1) c') (m + 1) (cs2 ++ vS.cs x v)) (hg : w.grownBy w1 (Value.slice A2 m c2).ownBlock) :
    RO (w1.setCell ⟨b, 1, none⟩ (.slice A' (m + 1) c')) B b A n c A' (m + 1) c' cs1 (cs2 ++ vS.cs x v) (a.1, a.2 ++ [x]) := by
  obtain ⟨h0, h1, h2, h3, h4, h5, h6, h7⟩ := h
  have K1 := kp_row hg
  have T : ∀ e2 : TypeId, 68 ≠ e2 → ∀ g ∈ (Value.slice A2 m c2).ownBlock.toList, ∀ cs fr, w.heap[g]? ≠ some (.cells cs e2 fr) := fun e2 hne g hm => row_types h6 hne g (by simpa using hm)
  have hlt := (Array.getElem?_eq_some_iff.1 h1).1
  have hb1 : w1.heap[b]? = some (.cells #[.slice A n c, .slice A2 m c2] 36 (0, 0)) := (K1.block b hlt (fun hm => T _ (by decide) b hm _ _ h1)).trans h1
  have K2 : Kp [b] w1 (w1.setCell ⟨b, 1, none⟩ (.slice A' (m + 1) c')) := (Kp.refl _ _).setCell (.inl (by simp)) _
  have T2 : ∀ e2 : TypeId, 36 ≠ e2 → ∀ g ∈ [b], ∀ cs fr, w1.heap[g]? ≠ some (.cells cs e2 fr) := fun e2 hne g hm cs fr hc => by
    rw [List.mem_singleton.1 hm, hb1] at hc
    injection hc with hc
    injection hc with _ hc _
    exact hne hc
  refine ⟨h0, ?_, h2, by rw [List.length_append, h3]; rfl, own_kp (own_kp h4 K1 (T _ (by decide))) K2 (T2 _ (by decide)), (h5.kp K1 (T _ (by decide))).kp K2 (T2 _ (by decide)), own_kp ho K2 (T2 _ (by decide)), ?_⟩
  · rw [heap_set hb1]
    rfl
  · exact ((h7.kp K1 (T _ (by decide))).kp K2 (T2 _ (by decide))).snoc (own_kp (own_kp hp K1 (T _ (by decide))) K2 (T2 _ (by decide))) hk
theorem hit_info : ∃ i : TypeInfo, Tryd.prog.info? 44 = some i ∧ i.zero = some (.agg #[.int .i64 0, .slice none 0 0, .int .i64 0]) ∧ i.size = 3 ∧ i.bytes = 40 := info_parts (by kernel_rfl)
theorem verd_info : ∃ i : TypeInfo, Tryd.prog.info? 68 = some i ∧ i.zero = some (.agg #[.slice none 0 0, .int .i64 0]) ∧ i.size = 2 ∧ i.bytes = 32 := info_parts (by kernel_rfl)
theorem news_block (w : World) (cs : Array Value) (t : TypeId) : ∀ j u, cs.toList[j]? = some u → (w.alloc (.cells cs t)).cell? ((⟨w.heap.size, 0, none⟩ : Addr).add j) = some u := by
  intro j u hu
  obtain ⟨b, off, hA, _, hc⟩ := RV.new (w := w) cs t j u hu
  injection hA with hA
  injection hA with h1 h2
  subst h1 h2
  have : (⟨w.heap.size, 0, none⟩ : Addr).add j = ⟨w.heap.size, 0 + j, none⟩ := by unfold Addr.add; split <;> simp_all
  rw [this]
  exact hc
theorem one3 (x y : Value) (A : Option Addr) (n c : Nat) (hx : x.oneCell' = true) (hy : y.oneCell' = true) : ∀ u ∈ [x, .slice A n c, y], u.oneCell' = true := by
  intro u hu
  simp only [List.mem_cons, List.not_mem_nil, or_false] at hu
  rcases hu with rfl | rfl | rfl
  · exact hx
  · rfl
  · exact hy
theorem one2 (y : Value) (A : Option Addr) (n c : Nat) (hy : y.oneCell' = true) : ∀ u ∈ [.slice A n c, y], u.oneCell' = true := by
  intro u hu
  simp only [List.mem_cons, List.not_mem_nil, or_false] at hu
  rcases hu with rfl | rfl
  · rfl
  · exact hy
end Go.Proofs.YtgjningfpkoooaaDoor.Ro
