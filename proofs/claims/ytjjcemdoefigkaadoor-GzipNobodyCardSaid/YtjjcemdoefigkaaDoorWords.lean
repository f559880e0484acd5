/- Words for memory that the walks of this seat share: a slice that reads as a list of values; a block; what a call keeps. -/
import Derived.Test.YtjjcemdoefigkaaDoorRows
import Derived.WalkKit
import Derived.OwnWalk
import Derived.Below
import Derived.Deep.LoopGhost
import Derived.Deep.QuietTactic
import Derived.BigQuiet
import Derived.WalkSpells
import Derived.WalkLawsBesides
import Derived.Laws.OwnMore
import Derived.Deep.AppendLies
import Derived.Deep.Draws
import Derived.Maps.AppendAt
import Derived.Laws.BytesArg
import Derived.Outline
import Derived.IntWalk
import Derived.WalkSmall
import Derived.Lib.Hide
import Derived.Deep.DeepCutAuto
import Derived.Deep.CutBlock
import Derived.ProofKit
import Derived.Lib.AppendStr
namespace Go.Proofs.YtjjcemdoefigkaaDoor.W
set_option linter.unusedVariables false
set_option linter.unusedSimpArgs false
open Go.RowKit

/-- The slice at A reads as the values vs (one cell each). -/
def RV (w : World) (A : Option Addr) (vs : List Value) : Prop :=
  ∀ i v, vs[i]? = some v → ∃ b off, A = some ⟨b, off, none⟩ ∧ b < w.heap.size ∧ w.cell? ⟨b, off + i, none⟩ = some v

def u8s (l : List Int) : List Value := l.map (Value.int .u8)
def RB (w : World) (A : Option Addr) (l : List Int) : Prop := RV w A (u8s l)
/-- Numbers that are bytes. -/
def Bytes (l : List Int) : Prop := ∀ x ∈ l, 0 ≤ x ∧ x < 256

theorem RV.kept {w w' : World} {A : Option Addr} {vs : List Value} (h : RV w A vs) (hs : w.heap.size ≤ w'.heap.size)
    (hk : ∀ ad, A = some ad → ad.block < w.heap.size → w'.heap[ad.block]? = w.heap[ad.block]?) : RV w' A vs := fun i v hv => by
  obtain ⟨b, off, hA, hb, hc⟩ := h i v hv
  exact ⟨b, off, hA, by omega, (World.cell?_of_block (a := ⟨b, off + i, none⟩) (hk ⟨b, off, none⟩ hA hb)).trans hc⟩
theorem RV.below {w w' : World} {A : Option Addr} {vs : List Value} (h : RV w A vs) (hb : Below w.heap.size w w') : RV w' A vs :=
  h.kept hb.size fun _ _ hlt => hb.block _ hlt
theorem RV.grown {w w' : World} {A : Option Addr} {vs : List Value} {row : Option Nat} (h : RV w A vs) (hg : w.grownBy w' row) (hne : ∀ ad, A = some ad → some ad.block ≠ row) : RV w' A vs :=
  h.kept hg.size fun ad hA hlt => hg.block _ hlt (hne ad hA)
theorem RV.nil (w : World) (A : Option Addr) : RV w A [] := fun i v hv => by simp at hv
theorem RV.alloc {w : World} {A : Option Addr} {vs : List Value} (h : RV w A vs) (o : Obj) : RV (w.alloc o) A vs := h.below ((Below.refl _ _).alloc (Nat.le_refl _) o)
theorem RV.drewN {w : World} {A : Option Addr} {vs : List Value} (h : RV w A vs) (n : Nat) : RV (w.drewN n) A vs := h
theorem RV.drew {w : World} {A : Option Addr} {vs : List Value} (h : RV w A vs) : RV w.drew A vs := h
theorem RB.get {w : World} {A : Option Addr} {l : List Int} (h : RB w A l) {i : Nat} {x : Int} (hx : l[i]? = some x) : ∃ b off, A = some ⟨b, off, none⟩ ∧ b < w.heap.size ∧ w.cell? ⟨b, off + i, none⟩ = some (.int .u8 x) :=
  h i _ (by simp [u8s, hx])
/-- A slice of the call's own reads as what it owns. -/
theorem RV.own {w : World} {base : Nat} {e : TypeId} {A : Option Addr} {n c : Nat} {vs : List Value} (h : w.ownsRow base e 1 (.slice A n c) n vs) : RV w A vs := fun i v hv => by
  rcases h.2 with ⟨h0, h1⟩ | ⟨g, cap, cur, hs, hb, hg, hn, hm, hsz, ht⟩
  · have hl := h.1
    have : vs = [] := List.eq_nil_of_length_eq_zero (by omega)
    subst this
    simp at hv
  · injection hs with hA _ _
    subst hA
    refine ⟨g, 0, rfl, (Array.getElem?_eq_some_iff.1 hg).1, ?_⟩
    rw [Nat.zero_add, cell_of_row w g i cur e (0, 0) hg]
    rw [← ht, List.getElem?_take] at hv
    split at hv
    · simpa using hv
    · cases hv
theorem RV.own_block {w : World} {base : Nat} {e : TypeId} {A : Option Addr} {n c : Nat} {vs : List Value} (h : w.ownsRow base e 1 (.slice A n c) n vs) {ad : Addr} (hA : A = some ad) : base ≤ ad.block ∧ ad.block < w.heap.size :=
  h.lt _ (by subst hA; rfl)
/-- A block that was just made. -/
theorem RV.new {w : World} (cs : Array Value) (t : TypeId) : RV (w.alloc (.cells cs t)) (some ⟨w.heap.size, 0, none⟩) cs.toList := fun i v hv =>
  ⟨w.heap.size, 0, rfl, by simp, by rw [Nat.zero_add, cell_of_row _ _ i cs t (0, 0) (heap_alloc_new w _)]; simpa using hv⟩
theorem RV.drop {w : World} {b off : Nat} {vs : List Value} (h : RV w (some ⟨b, off, none⟩) vs) (k : Nat) : RV w (some ⟨b, off + k, none⟩) (vs.drop k) := fun i v hv => by
  rw [List.getElem?_drop] at hv
  obtain ⟨b', off', hA, hb, hc⟩ := h _ v hv
  injection hA with hA
  injection hA with h1 h2
  subst h1 h2
  exact ⟨_, _, rfl, hb, by rw [Nat.add_assoc]; exact hc⟩
theorem RV.take {w : World} {A : Option Addr} {vs : List Value} (h : RV w A vs) (k : Nat) : RV w A (vs.take k) := fun i v hv => by
  rw [List.getElem?_take] at hv
  split at hv
  · exact h i v hv
  · cases hv

/-- Where a slice has an element its address is a row's. -/
theorem RV.addr {w : World} {A : Option Addr} {vs : List Value} (h : RV w A vs) (hn : 0 < vs.length) : ∃ b off, A = some ⟨b, off, none⟩ ∧ b < w.heap.size := by
  obtain ⟨b, off, hA, hb, _⟩ := h 0 _ (List.getElem?_eq_getElem hn)
  exact ⟨b, off, hA, hb⟩

theorem u8s_length (l : List Int) : (u8s l).length = l.length := by simp [u8s]
theorem u8s_append (a b : List Int) : u8s (a ++ b) = u8s a ++ u8s b := by simp [u8s]
theorem u8s_one (l : List Int) : ∀ u ∈ u8s l, u.oneCell' = true := by
  intro u hu
  obtain ⟨x, _, rfl⟩ := List.mem_map.1 hu
  rfl
theorem u8s_get {l : List Int} {i : Nat} {x : Int} (h : l[i]? = some x) : (u8s l)[i]? = some (.int .u8 x) := by simp [u8s, h]

theorem decT {p : Prop} [Decidable p] (h : p) : decide p = true := decide_eq_true h
theorem decF {p : Prop} [Decidable p] (h : ¬ p) : decide p = false := decide_eq_false h
theorem eqT {a b : Int} (h : a = b) : (a == b) = true := beq_iff_eq.2 h
theorem eqF {a b : Int} (h : a ≠ b) : (a == b) = false := beq_eq_false_iff_ne.2 h
theorem neT {a b : Int} (h : a ≠ b) : (a != b) = true := bne_iff_ne.2 h
theorem neF {a b : Int} (h : a = b) : (a != b) = false := bne_eq_false_iff_eq.2 h

/-- string(b) of a slice that reads as bytes. -/
theorem run_string {P : Program} {w : World} (src dst e : TypeId) (hs : P.underlying src = some (.slice e)) (he : P.underlying e = some (.int .u8)) (hd : P.underlying dst = some .string)
    {A : Option Addr} {c n : Nat} {l : List Int} (h : RB w A l) (hn : l.length = n) : (convert src dst (.slice A n c)).run P w = .ok (.string (strOfNums l)) w := by
  subst hn
  by_cases h0 : l = []
  · subst h0
    rcases A with _ | ad
    · rw [List.length_nil, run_convert_bytes_nil w src e hs he 0 c dst hd]; rfl
    · have hl : (loadCells ad 0).run P w = .ok #[] w := by
        have := run_loadCells_list (P := P) w ad ([] : List Value) (fun j v hj => by simp at hj)
        simpa using this
      rw [List.length_nil, run_convert_bytes_string w src dst e _ 0 c hs he hd, run_bytesToString w _ 0 c [] hl]
      rfl
  · have hp : 0 < l.length := List.length_pos_iff.2 h0
    obtain ⟨b, off, rfl, hb⟩ := h.addr (by rw [u8s_length]; exact hp)
    refine run_convert_bytes_arg w src e hs he b off l.length c l rfl (fun i hi => ?_) dst hd
    obtain ⟨b', off', hA, _, hc⟩ := RB.get h (List.getElem?_eq_getElem hi)
    injection hA with hA
    injection hA with h1 h2
    subst h1 h2
    rw [hc]
    simp [List.getD, List.getElem?_eq_getElem hi]

/-! ### append onto a slice of the call's own, whatever the source -/
/-- t: a slice type; e: its element type, of one cell. -/
structure El (P : Program) (t e : TypeId) (z : Value) (bytes : Nat) : Prop where
  under : P.underlying t = some (.slice e)
  info : (P.info? e).map (fun i => (i.zero, i.size, i.bytes)) = some (some z, 1, bytes)
  one : z.cells.size = 1

theorem run_append_none {P : Program} {w : World} {base : Nat} {t ty e : TypeId} {i : TypeInfo} {size : Nat} (ht : P.underlying t = some (.slice e)) (hi : P.info? e = some i)
    {v : Value} {n : Nat} {xs : List Value} (hown : w.ownsRow base e size v n xs) (c : Nat) : (Builtin.append_ #[t, t] ty #[v, .slice none 0 c]).run P w = .ok v w := by
  rcases hown.2 with ⟨rfl, rfl⟩ | ⟨g, cap, cur, rfl, _, _, hnc, _⟩
  · simp [Builtin.append_, run_underlying ht, sizeOf, typeInfo, hi, Builtin.lenOf, Builtin.firstCells]
  · simp [Builtin.append_, run_underlying ht, sizeOf, typeInfo, hi, Builtin.lenOf, Builtin.firstCells, hnc, storeCells]

theorem slice_form {w : World} {base : Nat} {e : TypeId} {size : Nat} {v : Value} {n : Nat} {xs : List Value} (h : w.ownsRow base e size v n xs) : ∃ A c, v = .slice A n c ∧ n ≤ c := by
  rcases h.2 with ⟨rfl, rfl⟩ | ⟨g, cap, cur, rfl, _, _, hnc, _⟩
  · exact ⟨none, 0, rfl, Nat.le_refl _⟩
  · exact ⟨_, _, rfl, hnc⟩

theorem run_ap {P : Program} {w : World} {t e : TypeId} {z : Value} {bytes : Nat} (E : El P t e z bytes) (ty : TypeId) {base : Nat} {v : Value} {n : Nat} {xs : List Value} (hown : w.ownsRow base e 1 v n xs)
    {A : Option Addr} {m c : Nat} {news : List Value} (hl : news.length = m) (hr : RV w A news) (h1 : ∀ u ∈ news, u.oneCell' = true) (h63 : n + m ≤ maxLen) (hb : (n + m) * bytes ≤ 140737488355328) (hbase : base ≤ w.heap.size) :
    ∃ A' c' w', (Builtin.append_ #[t, t] ty #[v, .slice A m c]).run P w = .ok (.slice A' (n + m) c') w' ∧ w'.ownsRow base e 1 (.slice A' (n + m) c') (n + m) (xs ++ news) ∧ w.grownBy w' v.ownBlock ∧
      ((Value.slice A' (n + m) c').ownBlock = v.ownBlock ∨ (Value.slice A' (n + m) c').ownBlock = some w.heap.size) ∧ n + m ≤ c' := by
  obtain ⟨i, hi, hz, hs, hby⟩ := info_parts E.info
  rcases A with _ | ad
  · have hn : news = [] := by
      cases news with
      | nil => rfl
      | cons u _ => obtain ⟨_, _, h, _⟩ := hr 0 u rfl; cases h
    subst hn
    simp at hl
    subst hl
    obtain ⟨A', c', rfl, hc'⟩ := slice_form hown
    exact ⟨A', c', w, run_append_none E.under hi hown c, by simpa using hown, World.grownBy.refl _ _, .inl rfl, hc'⟩
  · obtain ⟨v', w', hrun, h2, h3, _, h5⟩ := run_append_own_at (P := P) w base t ty e i z 1 bytes E.under hi hz hs hby E.one (by omega) v n xs hown ad m c news (by omega)
      (fun j u hu => by
        obtain ⟨b, off, hA, _, hc⟩ := hr j u hu
        injection hA with hA
        subst hA
        have : (⟨b, off, none⟩ : Addr).add j = ⟨b, off + j, none⟩ := by unfold Addr.add; split <;> simp_all
        rw [this]; exact hc) h1 h63 hb hbase
    obtain ⟨A', c', rfl, hc'⟩ := slice_form h2
    exact ⟨A', c', w', hrun, h2, h3, h5, hc'⟩

theorem wp_ap {P : Program} {w : World} {t e : TypeId} {z : Value} {bytes : Nat} (E : El P t e z bytes) {o : Oper} {a : Act} {K : Act → World → Prop} {Q : Exit → Act → World → Prop} (s x : Operand)
    (ho : o.op = .call { callee := .builtin .append, args := #[s, x], argTypes := #[t, t] })
    {base : Nat} {v : Value} {n : Nat} {xs : List Value} (hs : a.eval s = v) (hown : w.ownsRow base e 1 v n xs)
    {A : Option Addr} {m c : Nat} {news : List Value} (hx : a.eval x = .slice A m c) (hl : news.length = m) (hr : RV w A news) (h1 : ∀ u ∈ news, u.oneCell' = true) (h63 : n + m ≤ maxLen) (hb : (n + m) * bytes ≤ 140737488355328) (hbase : base ≤ w.heap.size)
    (h : ∀ A' c' w', w'.ownsRow base e 1 (.slice A' (n + m) c') (n + m) (xs ++ news) → w.grownBy w' v.ownBlock →
      ((Value.slice A' (n + m) c').ownBlock = v.ownBlock ∨ (Value.slice A' (n + m) c').ownBlock = some w.heap.size) → n + m ≤ c' → K (a.put o.dst (.slice A' (n + m) c')) w') : o.wp P a w K Q := by
  obtain ⟨A', c', w', hrun, h2, h3, h4, h5⟩ := run_ap E o.type hown (c := c) hl hr h1 h63 hb hbase
  unfold Oper.wp execOp
  simp only [ho, resolve, invoke, builtin, Sem.run_bind, Sem.run_pure, Result.andThen_ok, List.map_toArray, List.map_cons, List.map_nil, hs, hx, hrun]
  exact h A' c' w' h2 h3 h4 h5

/-- At a plain region's list: behind 'at_builtin'. -/
theorem wpList_ap {P : Program} {w : World} {t e : TypeId} {z : Value} {bytes : Nat} (E : El P t e z bytes) {ops : Array Oper} {rest : List Oper} {o : Oper} {a : Act} {Q : Exit → Act → World → Prop} (hgd : o.guard = none) (s x : Operand)
    (ho : o.op = .call { callee := .builtin .append, args := #[s, x], argTypes := #[t, t] })
    {base : Nat} {v : Value} {n : Nat} {xs : List Value} (hs : a.eval s = v) (hown : w.ownsRow base e 1 v n xs)
    {A : Option Addr} {m c : Nat} {news : List Value} (hx : a.eval x = .slice A m c) (hl : news.length = m) (hr : RV w A news) (h1 : ∀ u ∈ news, u.oneCell' = true) (h63 : n + m ≤ maxLen) (hb : (n + m) * bytes ≤ 140737488355328) (hbase : base ≤ w.heap.size)
    (h : ∀ A' c' w', w'.ownsRow base e 1 (.slice A' (n + m) c') (n + m) (xs ++ news) → w.grownBy w' v.ownBlock →
      ((Value.slice A' (n + m) c').ownBlock = v.ownBlock ∨ (Value.slice A' (n + m) c').ownBlock = some w.heap.size) → n + m ≤ c' → wpList P ops Q rest (a.put o.dst (.slice A' (n + m) c')) w') : wpList P ops Q (o :: rest) a w :=
  wpList_plain hgd fun _ hK => wp_ap E s x ho hs hown hx hl hr h1 h63 hb hbase fun A' c' w' h2 h3 h4 h5 => hK _ _ (h A' c' w' h2 h3 h4 h5)

/-- A literal's row: '[]byte{..}'. -/
theorem own_lit {w : World} {base : Nat} {e : TypeId} (cs : Array Value) {n : Nat} (hn : cs.size = n) (hb : base ≤ w.heap.size) (hm : n ≤ maxLen) : (w.alloc (.cells cs e)).ownsRow base e 1 (.slice (some ⟨w.heap.size, 0, none⟩) n n) n cs.toList :=
  World.ownsRow_lit w cs n hb hm (by omega)

/-- The slice at A reads as vs, and lies not in block g. -/
def RX (w : World) (g : Option Nat) (A : Option Addr) (vs : List Value) : Prop :=
  ∀ i v, vs[i]? = some v → ∃ b off, A = some ⟨b, off, none⟩ ∧ b < w.heap.size ∧ some b ≠ g ∧ w.cell? ⟨b, off + i, none⟩ = some v
theorem RX.reads {w : World} {g : Option Nat} {A : Option Addr} {vs : List Value} (h : RX w g A vs) : RV w A vs := fun i v hv => by
  obtain ⟨b, off, hA, hb, _, hc⟩ := h i v hv
  exact ⟨b, off, hA, hb, hc⟩
theorem RV.apart {w : World} {g : Option Nat} {A : Option Addr} {vs : List Value} (h : RV w A vs) (hg : ∀ ad, A = some ad → some ad.block ≠ g) : RX w g A vs := fun i v hv => by
  obtain ⟨b, off, hA, hb, hc⟩ := h i v hv
  exact ⟨b, off, hA, hb, hg _ hA, hc⟩
theorem RX.kept {w w' : World} {g g' row : Option Nat} {A : Option Addr} {vs : List Value} (h : RX w g A vs) (hg : w.grownBy w' row) (hr : row = g ∨ row = none) (hg' : g' = g ∨ g' = none ∨ ∃ k, g' = some k ∧ w.heap.size ≤ k) : RX w' g' A vs := fun i v hv => by
  obtain ⟨b, off, hA, hb, hne, hc⟩ := h i v hv
  have h1 : some b ≠ row := by rcases hr with rfl | rfl <;> simp_all
  refine ⟨b, off, hA, Nat.lt_of_lt_of_le hb hg.size, ?_, (World.cell?_of_block (a := ⟨b, off + i, none⟩) (hg.block b hb h1)).trans hc⟩
  rcases hg' with rfl | rfl | ⟨k, rfl, hk⟩
  · exact hne
  · simp
  · intro h; injection h; omega

/-- A list of rows of bytes, none of them in block g. -/
def BRows (w : World) (g : Option Nat) (vs : List Value) (ls : List (List Int)) : Prop :=
  vs.length = ls.length ∧ ∀ (i : Nat) (l : List Int), ls[i]? = some l → ∃ (A : Option Addr) (c : Nat), vs[i]? = some (Value.slice A l.length c) ∧ l.length ≤ c ∧ RX w g A (u8s l)
theorem BRows.kept {w w' : World} {g g' row : Option Nat} {vs : List Value} {ls : List (List Int)} (h : BRows w g vs ls) (hg : w.grownBy w' row) (hr : row = g ∨ row = none) (hg' : g' = g ∨ g' = none ∨ ∃ k, g' = some k ∧ w.heap.size ≤ k) : BRows w' g' vs ls :=
  ⟨h.1, fun i l hl => by
    obtain ⟨A, c, hv, hc, hx⟩ := h.2 i l hl
    exact ⟨A, c, hv, hc, hx.kept hg hr hg'⟩⟩
theorem BRows.nil (w : World) (g : Option Nat) : BRows w g [] [] := ⟨rfl, fun i l hl => by simp at hl⟩
theorem BRows.snoc {w : World} {g : Option Nat} {vs : List Value} {ls : List (List Int)} (h : BRows w g vs ls) {A : Option Addr} {c n : Nat} {l : List Int} (hn : l.length = n) (hc : n ≤ c) (hx : RX w g A (u8s l)) : BRows w g (vs ++ [Value.slice A n c]) (ls ++ [l]) := by
  subst hn
  refine ⟨by simp [h.1], fun i l' hl => ?_⟩
  rw [List.getElem?_append] at hl
  rw [List.getElem?_append]
  split at hl
  · rename_i hlt
    rw [h.1, if_pos hlt]
    exact h.2 i l' hl
  · rename_i hge
    rw [h.1, if_neg hge]
    have : i - ls.length = 0 := by
      rcases Nat.eq_zero_or_pos (i - ls.length) with h0 | h0
      · exact h0
      · rw [List.getElem?_eq_none (by simp; omega)] at hl; cases hl
    rw [this] at hl ⊢
    simp at hl
    subst hl
    exact ⟨A, c, rfl, hc, hx⟩
theorem grownBy_drew (w : World) (row : Option Nat) : w.grownBy w.drew row := ⟨rfl, rfl, rfl, Nat.le_refl _, fun _ _ _ => rfl⟩
theorem grownBy_drewN (w : World) (n : Nat) (row : Option Nat) : w.grownBy (w.drewN n) row := ⟨rfl, rfl, rfl, Nat.le_refl _, fun _ _ _ => rfl⟩
theorem below_grownBy {w w' : World} (h : Below w.heap.size w w') (row : Option Nat) : w.grownBy w' row := ⟨h.os, h.tape, h.output, h.size, fun k hk _ => h.block k hk⟩
theorem grownBy_below {w w' : World} (h : w.grownBy w' none) : Below w.heap.size w w' := ⟨h.os, h.tape, h.output, h.size, fun k hk => h.block k hk (by simp)⟩
theorem RX.alloc {w : World} {g : Option Nat} {A : Option Addr} {vs : List Value} (h : RX w g A vs) (o : Obj) : RX (w.alloc o) g A vs := h.kept (World.grownBy_alloc w o none) (.inr rfl) (.inl rfl)
theorem RX.below {w w' : World} {g : Option Nat} {A : Option Addr} {vs : List Value} (h : RX w g A vs) (hb : Below w.heap.size w w') : RX w' g A vs := h.kept (below_grownBy hb none) (.inr rfl) (.inl rfl)
theorem RX.new {w : World} {g : Option Nat} (cs : Array Value) (t : TypeId) (hg : some w.heap.size ≠ g) : RX (w.alloc (.cells cs t)) g (some ⟨w.heap.size, 0, none⟩) cs.toList :=
  (RV.new cs t).apart fun ad h => by cases h; exact hg
theorem BRows.alloc {w : World} {g : Option Nat} {vs : List Value} {ls : List (List Int)} (h : BRows w g vs ls) (o : Obj) : BRows (w.alloc o) g vs ls := h.kept (World.grownBy_alloc w o none) (.inr rfl) (.inl rfl)
/-- What a slice of the call's own holds lies not in a block that is newer, or elder, than its own. -/
theorem own_apart {w : World} {base : Nat} {e : TypeId} {A : Option Addr} {n c : Nat} {vs : List Value} (h : w.ownsRow base e 1 (.slice A n c) n vs) {g : Option Nat} (hg : ∀ k, g = some k → k < base ∨ w.heap.size ≤ k) : RX w g A vs :=
  (RV.own h).apart fun ad hA he => by
    have h1 := RV.own_block h hA
    rcases hg _ he.symm with h2 | h2 <;> omega
/-- Behind an append onto a row that is new: of what was there nothing has turned. -/
theorem grow_new {w w' : World} {o : Obj} {row : Option Nat} (h : (w.alloc o).grownBy w' row) (hr : ∀ k, row = some k → w.heap.size ≤ k) : w.grownBy w' none :=
  ⟨h.os, h.tape, h.output, by have := h.size; simp at this; omega, fun k hk _ => (h.block k (by simp; omega) (fun e => by have := hr k e.symm; omega)).trans (Below.heap_alloc w o k hk)⟩
theorem grow_new' {w w' : World} {o : Obj} {n c : Nat} (h : (w.alloc o).grownBy w' (Value.slice (some ⟨w.heap.size, 0, none⟩) n c).ownBlock) : w.grownBy w' none :=
  grow_new h fun k hk => by simp [Value.ownBlock] at hk; omega
theorem grow_row {w w' w2 : World} {row : Option Nat} (h : w.grownBy w' none) (k : w'.grownBy w2 row) (hr : ∀ k, row = some k → w.heap.size ≤ k) : w.grownBy w2 none :=
  ⟨k.os.trans h.os, k.tape.trans h.tape, k.output.trans h.output, Nat.le_trans h.size k.size, fun i hi _ => (k.block i (Nat.lt_of_lt_of_le hi h.size) (fun e => by have := hr i e.symm; omega)).trans (h.block i hi (by simp))⟩
theorem RX.new' {w : World} {g : Option Nat} {cs : Array Value} {t : TypeId} {k : Nat} {vs : List Value} (hk : w.heap.size = k) (hv : cs.toList = vs) (hg : some k ≠ g) : RX (w.alloc (.cells cs t)) g (some ⟨k, 0, none⟩) vs := by
  subst hk hv
  exact RX.new cs t hg

/-! ### a string appended onto a slice of bytes of the call's own -/
def strL (s : ByteArray) : List Int := s.data.toList.map fun b => (b.toNat : Int)
theorem strL_length (s : ByteArray) : (strL s).length = s.size := by rw [strL, List.length_map, Array.length_toList]; rfl
theorem strL_bytes (s : ByteArray) : Bytes (strL s) := fun x hx => by
  obtain ⟨b, _, rfl⟩ := List.mem_map.1 hx
  have := b.toNat_lt
  omega
theorem strCells_eq (s : ByteArray) : Lib.strCells s = u8s (strL s) := by simp [Lib.strCells, u8s, strL]

theorem run_aps {P : Program} {w : World} {t u e : TypeId} (E : El P t e (.int .u8 0) 1) (hu : P.underlying u = some .string) (ty : TypeId) {base : Nat} {v : Value} {n : Nat} {l : List Int} (hown : w.ownsRow base e 1 v n (u8s l)) (s : ByteArray)
    (h63 : n + s.size ≤ maxLen) (hb : n + s.size ≤ 140737488355328) (hbase : base ≤ w.heap.size) :
    ∃ A' c' w', (Builtin.append_ #[t, u] ty #[v, .string s]).run P w = .ok (.slice A' (n + s.size) c') w' ∧ w'.ownsRow base e 1 (.slice A' (n + s.size) c') (n + s.size) (u8s (l ++ strL s)) ∧ w.grownBy w' v.ownBlock ∧
      ((Value.slice A' (n + s.size) c').ownBlock = v.ownBlock ∨ (Value.slice A' (n + s.size) c').ownBlock = some w.heap.size) ∧ n + s.size ≤ c' := by
  obtain ⟨i, hi, hz, hs1, hby⟩ := info_parts E.info
  rw [u8s_append, ← strCells_eq]
  have hxl : (u8s l).length = n := by simpa using hown.1
  have hlen : (u8s l ++ Lib.strCells s).length = (n + s.size) * 1 := by rw [List.length_append, hxl, Lib.strCells_length, Nat.mul_one]
  have h63' : n + s.size ≤ 9223372036854775807 := by simp only [maxLen] at h63; omega
  have grown : ∀ (old : Nat), old < n + s.size → ∀ (row : Option Nat),
      (w.drew.alloc (.cells ((u8s l).toArray ++ (Lib.strCells s).toArray ++ Builtin.zeroCells (Value.int .u8 0).cells (grownCap w (n + s.size) old e - (n + s.size))) e)).ownsRow base e 1
        (.slice (some ⟨w.heap.size, 0, none⟩) (n + s.size) (grownCap w (n + s.size) old e)) (n + s.size) (u8s l ++ Lib.strCells s) ∧
      w.grownBy (w.drew.alloc (.cells ((u8s l).toArray ++ (Lib.strCells s).toArray ++ Builtin.zeroCells (Value.int .u8 0).cells (grownCap w (n + s.size) old e - (n + s.size))) e)) row := by
    intro old ho row
    have hge := grownCap_ge w (n + s.size) old e
    have hcm : grownCap w (n + s.size) old e ≤ maxLen := grownCap_le_maxLen w (n + s.size) old e h63
    refine ⟨⟨hlen, .inr ⟨w.heap.size, _, _, rfl, hbase, heap_alloc_new w.drew _, hge, hcm, ?_, ?_⟩⟩, ⟨rfl, rfl, rfl, by simp, fun k hk _ => Below.heap_alloc w.drew _ k hk⟩⟩
    · have hz1 : (Value.int IntKind.u8 0).cells.size = 1 := rfl
      simp only [Array.size_append, List.size_toArray, size_zeroCells, hz1, hxl, Lib.strCells_length]
      omega
    · simp only [Array.toList_append, List.append_assoc]
      rw [← List.append_assoc, ← hlen]
      exact List.take_left
  rcases hown.2 with ⟨rfl, rfl⟩ | ⟨g, cap, cur, rfl, hbg, hg, hnc, hcm, hcs, htake⟩
  · have hx : u8s l = [] := List.eq_nil_of_length_eq_zero hxl
    rw [hx] at grown ⊢
    by_cases hm : s.size = 0
    · have hn : Lib.strCells s = [] := List.eq_nil_of_length_eq_zero (by rw [Lib.strCells_length]; exact hm)
      have hf := Lib.run_firstCells_string (P := P) w 1 s
      rw [hm] at hf
      refine ⟨none, 0, w, ?_, by rw [hm, hn]; exact World.ownsRow_nil w base e 1, World.grownBy.refl _ _, .inl rfl, by omega⟩
      rw [hm]
      simp [Builtin.append_, run_underlying E.under, run_underlying hu, sizeOf, typeInfo, hi, hs1, Builtin.lenOf, hm, hf]
    · have hr := run_append_nil_string (P := P) w t u ty e i (.int .u8 0) E.under hu hi hz s (by omega) (by omega) (by rw [hby]; omega)
      have hgr := grown 0 (by omega) (Value.ownBlock (.slice none 0 0))
      simp only [Nat.zero_add, List.nil_append, Array.empty_append] at hgr ⊢
      have e1 : (s.data.map fun b => Value.int .u8 b.toNat) = (Lib.strCells s).toArray := by
        apply Array.ext'
        simp [Lib.strCells]
      rw [e1] at hr
      exact ⟨_, _, _, hr, hgr.1, hgr.2, .inr rfl, grownCap_ge w _ _ _⟩
  · by_cases hroom : n + s.size ≤ cap
    · have hcs' : cur.size = cap := by simpa using hcs
      have hr := Lib.run_append_room_string (P := P) w t u ty e i E.under hu hi hs1 g n cap cur hg s hroom (by omega)
      refine ⟨_, _, _, hr, ⟨hlen, .inr ⟨g, cap, _, rfl, hbg, setRow_heap w g cur _ e _ hg, hroom, hcm, ?_, ?_⟩⟩, ⟨rfl, rfl, rfl, by simp, fun k _ hk => setRow_other w g k _ (fun e => hk (by simp [Value.ownBlock, e]))⟩, .inl rfl, hroom⟩
      · simp only [List.size_toArray, List.length_append, List.length_take, List.length_drop, Array.length_toList, Lib.strCells_length]
        omega
      · have ht' : cur.toList.take n = u8s l := by simpa using htake
        rw [ht', ← hlen]
        exact List.take_left
    · have holds : ∀ j u, (u8s l)[j]? = some u → w.cell? ((⟨g, 0, none⟩ : Addr).add j) = some u := hown.cells (g := g) rfl
      have hr := Lib.run_append_grow_string (P := P) w t u ty e i (.int .u8 0) E.under hu hi hz ⟨g, 0, none⟩ n cap (u8s l) (by rw [hs1]; simpa using hxl) holds s (by omega) (by omega) (by rw [hby]; exact growslice_fits (by omega) (by omega))
      have hgr := grown cap (by omega) (Value.ownBlock (.slice (some ⟨g, 0, none⟩) n cap))
      exact ⟨_, _, _, hr, hgr.1, hgr.2, .inr rfl, grownCap_ge w _ _ _⟩

theorem wpList_aps {P : Program} {w : World} {t u e : TypeId} (E : El P t e (.int .u8 0) 1) (hu : P.underlying u = some .string) {ops : Array Oper} {rest : List Oper} {o : Oper} {a : Act} {Q : Exit → Act → World → Prop} (hgd : o.guard = none) (sl x : Operand)
    (ho : o.op = .call { callee := .builtin .append, args := #[sl, x], argTypes := #[t, u] })
    {base : Nat} {v : Value} {n : Nat} {l : List Int} (hs : a.eval sl = v) (hown : w.ownsRow base e 1 v n (u8s l)) (s : ByteArray) (hx : a.eval x = .string s)
    (h63 : n + s.size ≤ maxLen) (hb : n + s.size ≤ 140737488355328) (hbase : base ≤ w.heap.size)
    (h : ∀ A' c' w', w'.ownsRow base e 1 (.slice A' (n + s.size) c') (n + s.size) (u8s (l ++ strL s)) → w.grownBy w' v.ownBlock →
      ((Value.slice A' (n + s.size) c').ownBlock = v.ownBlock ∨ (Value.slice A' (n + s.size) c').ownBlock = some w.heap.size) → n + s.size ≤ c' → wpList P ops Q rest (a.put o.dst (.slice A' (n + s.size) c')) w') : wpList P ops Q (o :: rest) a w := by
  refine wpList_plain hgd fun K hK => ?_
  obtain ⟨A', c', w', hr, h2, h3, h4, h5⟩ := run_aps E hu o.type hown s h63 hb hbase
  unfold Oper.wp execOp
  simp only [ho, resolve, invoke, builtin, Sem.run_bind, Sem.run_pure, Result.andThen_ok, List.map_toArray, List.map_cons, List.map_nil, hs, hx, hr]
  exact hK _ _ (h A' c' w' h2 h3 h4 h5)

/-- make([]T, n): every world. -/
theorem run_mk {P : Program} {t e : TypeId} {z : Value} {bytes : Nat} (E : El P t e z bytes) (kl kc : IntKind) {n c : Nat} (hnc : n ≤ c) (hb : bytes * c ≤ 281474976710656) (h63 : c ≤ 9223372036854775807) (w : World) :
    (Instr.makeSlice t (.int kl (n : Int)) (.int kc (c : Int))).run P w = .ok (.slice (some ⟨w.heap.size, 0, none⟩) n c) (w.alloc (.cells (madeCells z.cells c) e)) := by
  obtain ⟨i, hi, hz, hs1, hby⟩ := info_parts E.info
  have hb' : (i.bytes : Int) * (c : Int) ≤ 281474976710656 := by
    have h : ((i.bytes * c : Nat) : Int) ≤ 281474976710656 := by rw [hby]; omega
    rwa [Int.natCast_mul] at h
  have hr := run_make (P := P) w t e i z E.under hi hz kl kc n c (by omega) (by omega) hb' (by omega)
  simp only [Int.toNat_natCast, hs1, Nat.mul_one] at hr
  exact hr
theorem made_own {w : World} {base : Nat} {e : TypeId} {z : Value} {n : Nat} (hz : z.cells = #[z]) (hb : base ≤ w.heap.size) (hm : n ≤ maxLen) : (w.alloc (.cells (madeCells z.cells n) e)).ownsRow base e 1 (.slice (some ⟨w.heap.size, 0, none⟩) n n) n (List.replicate n z) := by
  have h := own_lit (w := w) (base := base) (e := e) (madeCells z.cells n) (n := n) (by rw [size_madeCells]) hb hm
  rw [hz] at h ⊢
  rw [toList_madeCells_one] at h
  exact h
end Go.Proofs.YtjjcemdoefigkaaDoor.W
