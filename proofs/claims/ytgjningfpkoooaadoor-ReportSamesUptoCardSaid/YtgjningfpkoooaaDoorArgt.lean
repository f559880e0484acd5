/- How an argument that is a report is opened. -/
import Derived.Test.YtgjningfpkoooaaDoorArgs
import Derived.Test.YtgjningfpkoooaaDoorQs
import Derived.Deep.SlicePairs
namespace Go.Proofs.YtgjningfpkoooaaDoor.W
set_option linter.unusedVariables false
set_option linter.unusedSimpArgs false
open Go.RowKit Go.ChangeShapes Go.WideShapes Go.Deep Go.Proofs.YtgjningfpkoooaaDoor.Ro

theorem arg_isl {H : Type} {enc : TypeId × Value → H} {P : Program} {W : World} {base : Nat} {spare : Nat → Bool} {held : Bool} {e q : TypeId} {v : Value} {y : DataW H × List MemPlace} {m : Nat}
    (he : P.underlying e = some (.slice q)) (hq : P.underlying q = some (.int .i64)) (cq : P.cellsOf q = 1) (h : DataW.trod enc P W base spare held m e [v] = some y) :
    ∃ (A : Option Addr) (n c : Nat) (l : List Int), v = .slice A n c ∧ l.length = n ∧ n ≤ c ∧ RV W A (is64 l) ∧ n + 1 ≤ Rows.uptoBulk y.1 := by
  rcases open_ints he hq cq h with ⟨hcs, _⟩ | ⟨x, l, c', zs, hcs, _, hl, _, hz, hx, hcell, hwf⟩
  · simp at hcs
    subst hcs
    exact ⟨none, 0, 0, [], rfl, rfl, Nat.le_refl _, RV.nil _ _, bulk_one _⟩
  · simp at hcs
    subst hcs hx
    have hl2 : l ≤ zs.length := by
      rw [hz]
      split
      · exact hl
      · exact Nat.le_refl _
    refine ⟨some x, l, c', zs.take l, rfl, by simp; omega, hl, fun i u hi => ?_, ?_⟩
    · unfold is64 at hi
      have hin : i < l := by
        rcases Nat.lt_or_ge i l with h2 | h2
        · exact h2
        · rw [List.getElem?_eq_none (by simp; omega)] at hi; cases hi
      obtain ⟨b, off, rfl, hc⟩ := ints_at hcell (by omega)
      have hci := hc i (by omega)
      refine ⟨b, off, rfl, World.block_lt_of_cell? W ⟨b, off + i, none⟩ hci, ?_⟩
      rw [hci, ← hi, List.getElem?_map, List.getElem?_take, if_pos hin, List.getElem?_eq_getElem (show i < zs.length by omega)]
      simp [List.getD, List.getElem?_eq_getElem (show i < zs.length by omega)]
    · have h1 := bulk_length (H := H) (lits .i64 (zs.take l))
      have h2 : (lits (H := H) .i64 (zs.take l)).length = l := by simp [lits]; omega
      simp only [Rows.uptoBulk]
      omega
theorem pl_arg {w : World} {A : Option Addr} {n c : Nat} {l : List Int} (h1 : l.length = n) (h2 : n ≤ c) (h3 : RV w A (is64 l)) (h4 : n ≤ 1000000000000) : PL w 0 none (.slice A n c) l := by
  subst h1
  refine ⟨A, c, rfl, h2, h4, RV.apart h3 (fun ad _ => by simp), fun ad ha => ?_⟩
  cases l with
  | nil => exact .inr rfl
  | cons x l =>
    obtain ⟨b, off, e, hlt, _⟩ := h3 0 (.int .i64 x) rfl
    rw [ha] at e
    injection e with e
    subst e
    exact .inl ⟨Nat.zero_le _, hlt⟩
theorem bulk_sum {H : Type} (D : Nat → DataW H) (f : Nat → Nat) : ∀ (rs : List Nat), (∀ r ∈ rs, f r + 1 ≤ Rows.uptoBulk (D r)) → rs.length + (rs.map f).sum ≤ Rows.uptoBulkAll (rs.map D) := by
  intro rs
  induction rs with
  | nil => intro _; simp
  | cons r rs ih =>
    intro h
    have h1 := ih (fun x hx => h x (List.mem_cons_of_mem _ hx))
    have h2 := h r (by simp)
    simp only [List.map_cons, List.length_cons, List.sum_cons, Rows.uptoBulkAll]
    omega
/-- A slice of structs, each of which has a path, out of what is known of each. -/
theorem arg_srow {H : Type} {enc : TypeId × Value → H} {P : Program} {W : World} {base : Nat} {spare : Nat → Bool} {held : Bool} {α : Type} (S : Sh α) (hk : 0 < S.k) {t e : TypeId} {v : Value} {y : DataW H × List MemPlace} {m : Nat}
    (hu : P.underlying t = some (.slice e)) (hce : P.cellsOf e = S.k) [Inhabited α]
    (one : ∀ (n : Nat) (cs : List Value) (x : DataW H × List MemPlace), cs.length = S.k → DataW.trod enc P W base spare held n e cs = some x → ∃ (a : α) (u : Value), cs = S.cs a u ∧ (∃ A k c, u = .slice A k c ∧ (S.pt a).length = k ∧ k ≤ c ∧ RV W A (is64 (S.pt a))) ∧ (S.pt a).length + 1 ≤ Rows.uptoBulk x.1)
    (hb : Rows.uptoBulk y.1 ≤ 1048576) (h : DataW.trod enc P W base spare held m t [v] = some y) :
    ∃ (A : Option Addr) (n c : Nat) (hs : List α), v = .slice A n c ∧ hs.length = n ∧ n ≤ c ∧ RR S W 0 A hs ∧ n + (hs.map fun a => (S.pt a).length).sum ≤ Rows.uptoBulk y.1 := by
  rcases Go.Deep.open_slice hu h with ⟨hcs, _⟩ | ⟨a, len, cap, mm, n', D, Pl, hcs, _, hl, _, hm, hx, hcell⟩
  · simp at hcs
    subst hcs
    exact ⟨none, 0, 0, [], rfl, rfl, Nat.le_refl _, RR.nil _ _ _ _, by simp⟩
  · simp at hcs
    subst hcs hx
    have hnm : len ≤ mm := by rw [hm]; split <;> omega
    rw [hce] at hcell
    have key : ∀ i, ∃ (q : α × Value), i < len → (∀ j u, (S.cs q.1 q.2)[j]? = some u → W.cell? (a.add (i * S.k + j)) = some u) ∧ (∃ A k c, q.2 = .slice A k c ∧ (S.pt q.1).length = k ∧ k ≤ c ∧ RV W A (is64 (S.pt q.1))) ∧ (S.pt q.1).length + 1 ≤ Rows.uptoBulk (D i) := fun i => by
      by_cases hi : i < len
      · obtain ⟨cs', h1, h2⟩ := hcell i (by omega)
        obtain ⟨_, hlen, hc⟩ := World.cells?_some h1
        obtain ⟨x, u, rfl, q1, q2⟩ := one _ _ _ hlen h2
        refine ⟨(x, u), fun _ => ⟨fun j z hz => ?_, q1, q2⟩⟩
        have hj : j < S.k := by have := (List.getElem?_eq_some_iff.1 hz).1; rw [S.len] at this; exact this
        have := hc j hj
        rw [Go.Deep.add_add] at this
        rw [this, ← hz]
      · exact ⟨(default, .bool false), fun h => absurd h hi⟩
    obtain ⟨q, hq⟩ : ∃ q : Nat → α × Value, ∀ i, i < len → (∀ j u, (S.cs (q i).1 (q i).2)[j]? = some u → W.cell? (a.add (i * S.k + j)) = some u) ∧ (∃ A k c, (q i).2 = .slice A k c ∧ (S.pt (q i).1).length = k ∧ k ≤ c ∧ RV W A (is64 (S.pt (q i).1))) ∧ (S.pt (q i).1).length + 1 ≤ Rows.uptoBulk (D i) := ⟨fun i => (key i).choose, fun i => (key i).choose_spec⟩
    have hbs := bulk_sum D (fun i => (S.pt (q i).1).length) (List.range len) (fun i hi => (hq i (by simpa using hi)).2.2)
    have hsum : len + (((List.range len).map fun i => (q i).1).map fun a => (S.pt a).length).sum ≤ Rows.uptoBulkAll ((List.range len).map D) := by
      rw [List.map_map]
      rw [List.length_range] at hbs
      exact hbs
    refine ⟨some a, len, cap, (List.range len).map fun i => (q i).1, rfl, by simp, hl, fun i x hi => ?_, ?_⟩
    · have hin : i < len := by
        rcases Nat.lt_or_ge i len with h2 | h2
        · exact h2
        · rw [List.getElem?_eq_none (by simp; omega)] at hi; cases hi
      have hqi : (q i).1 = x := by simpa [hin] using hi
      obtain ⟨g1, ⟨Ap, k, c, e1, e2, e3, e4⟩, g3⟩ := hq i hin
      rw [hqi] at g1 e2 e4 g3
      obtain ⟨u0, hu0⟩ : ∃ u, (S.cs x (q i).2)[0]? = some u := ⟨_, List.getElem?_eq_getElem (by rw [S.len]; exact hk)⟩
      have hc0 := g1 0 u0 hu0
      obtain ⟨b1, off, spot⟩ := a
      have hspot : spot = none := by
        obtain ⟨u1, hu1⟩ : ∃ u, (S.cs (q 0).1 (q 0).2)[0]? = some u := ⟨_, List.getElem?_eq_getElem (by rw [S.len]; exact hk)⟩
        have h00 := (hq 0 (by omega)).1 0 u1 hu1
        rw [Nat.zero_mul] at h00
        simpa [Addr.add] using World.cell?_spot h00
      subst hspot
      have hpl : (S.pt x).length ≤ 1048576 := by
        have hall : Rows.uptoBulk (D i) ≤ Rows.uptoBulkAll ((List.range len).map D) := by
          have : ∀ (l : List Nat), i ∈ l → Rows.uptoBulk (D i) ≤ Rows.uptoBulkAll (l.map D) := by
            intro l
            induction l with
            | nil => intro h; cases h
            | cons z l ih =>
              intro h
              simp only [List.map_cons, Rows.uptoBulkAll]
              rcases List.mem_cons.1 h with rfl | h
              · omega
              · have := ih h; omega
          exact this _ (by simpa using hin)
        simp only [Rows.uptoBulk] at hb
        omega
      refine ⟨b1, off, (q i).2, rfl, ?_, Nat.zero_le _, fun j u hu => ?_, ?_⟩
      · rw [Go.WideShapes.add_plain] at hc0
        exact World.block_lt_of_cell? W ⟨b1, off + (i * S.k + 0), none⟩ hc0
      · have := g1 j u hu
        rw [Go.WideShapes.add_plain, ← Nat.add_assoc] at this
        exact this
      · rw [e1]
        exact pl_arg e2 e3 e4 (by omega)
    · simp only [Rows.uptoBulk]
      omega
theorem one_hit {H : Type} {enc : TypeId × Value → H} {P : Program} {W : World} {base : Nat} {spare : Nat → Bool} {held : Bool} {e q : TypeId} {f0 f1 f2 : Field}
    (he : P.underlying e = some (.struct #[f0, f1, f2])) (o0 : f0.offset = 0) (o1 : f1.offset = 1) (o2 : f2.offset = 2) (c0 : P.cellsOf f0.type = 1) (c1 : P.cellsOf f1.type = 1) (c2 : P.cellsOf f2.type = 1)
    (t0 : P.underlying f0.type = some (.int .i64)) (t1 : P.underlying f1.type = some (.slice q)) (t2 : P.underlying f2.type = some (.int .i64)) (tq : P.underlying q = some (.int .i64)) (cq : P.cellsOf q = 1) :
    ∀ (n : Nat) (cs : List Value) (x : DataW H × List MemPlace), cs.length = hS.k → DataW.trod enc P W base spare held n e cs = some x → ∃ (a : Ht) (u : Value), cs = hS.cs a u ∧ (∃ A k c, u = .slice A k c ∧ (hS.pt a).length = k ∧ k ≤ c ∧ RV W A (is64 (hS.pt a))) ∧ (hS.pt a).length + 1 ≤ Rows.uptoBulk x.1 := by
  intro n cs x hlen h2
  obtain ⟨xs, k, hk, hxy, _, hxl, hff⟩ := DataW.trod_struct he h2
  match xs, hxl, cs, hlen with
  | [y0, y1, y2], _, [v0, v1, v2], _ =>
    have g0 := hff 0 f0 rfl
    have g1 := hff 1 f1 rfl
    have g2 := hff 2 f2 rfl
    simp [o0, o1, o2, c0, c1, c2] at g0 g1 g2
    obtain ⟨z0, q0, _, _⟩ := DataW.trod_int t0 g0
    obtain ⟨z2, q2, _, _⟩ := DataW.trod_int t2 g2
    obtain ⟨A, m, c, l, rfl, h3, h4, h5, h6⟩ := arg_isl t1 tq cq g1
    injection q0 with q0
    injection q2 with q2
    subst q0 q2 hxy
    refine ⟨(z0, l, z2), .slice A m c, rfl, ⟨A, m, c, rfl, h3, h4, h5⟩, ?_⟩
    show l.length + 1 ≤ _
    simp only [Rows.uptoBulk, List.map_cons, List.map_nil, Rows.uptoBulkAll]
    omega
theorem one_verd {H : Type} {enc : TypeId × Value → H} {P : Program} {W : World} {base : Nat} {spare : Nat → Bool} {held : Bool} {e q : TypeId} {f0 f1 : Field}
    (he : P.underlying e = some (.struct #[f0, f1])) (o0 : f0.offset = 0) (o1 : f1.offset = 1) (c0 : P.cellsOf f0.type = 1) (c1 : P.cellsOf f1.type = 1)
    (t0 : P.underlying f0.type = some (.slice q)) (t1 : P.underlying f1.type = some (.int .i64)) (tq : P.underlying q = some (.int .i64)) (cq : P.cellsOf q = 1) :
    ∀ (n : Nat) (cs : List Value) (x : DataW H × List MemPlace), cs.length = vS.k → DataW.trod enc P W base spare held n e cs = some x → ∃ (a : Vd) (u : Value), cs = vS.cs a u ∧ (∃ A k c, u = .slice A k c ∧ (vS.pt a).length = k ∧ k ≤ c ∧ RV W A (is64 (vS.pt a))) ∧ (vS.pt a).length + 1 ≤ Rows.uptoBulk x.1 := by
  intro n cs x hlen h2
  obtain ⟨xs, k, hk, hxy, _, hxl, hff⟩ := DataW.trod_struct he h2
  match xs, hxl, cs, hlen with
  | [y0, y1], _, [v0, v1], _ =>
    have g0 := hff 0 f0 rfl
    have g1 := hff 1 f1 rfl
    simp [o0, o1, c0, c1] at g0 g1
    obtain ⟨z1, q1, _, _⟩ := DataW.trod_int t1 g1
    obtain ⟨A, m, c, l, rfl, h3, h4, h5, h6⟩ := arg_isl t0 tq cq g0
    injection q1 with q1
    subst q1 hxy
    refine ⟨(l, z1), .slice A m c, rfl, ⟨A, m, c, rfl, h3, h4, h5⟩, ?_⟩
    show l.length + 1 ≤ _
    simp only [Rows.uptoBulk, List.map_cons, List.map_nil, Rows.uptoBulkAll]
    omega
set_option maxRecDepth 100000 in
/-- A report that came in. -/
theorem arg_report {H : Type} {enc : TypeId × Value → H} {W : World} {b0 base : Nat} {spare : Nat → Bool} {held : Bool} {r : Reach} {v : Value} {d : DataW H} {ps : List MemPlace}
    (hb : Rows.uptoBulk d ≤ 1048576) (hv : Value.okWide Tryd.prog W r b0 36 v) (h : DataW.Trod enc Tryd.prog W base spare held 36 v d ps) :
    ∃ (A : Option Addr) (n c : Nat) (A2 : Option Addr) (m c2 : Nat) (q : Rp), v = .agg #[.slice A n c, .slice A2 m c2] ∧ RepAt W 0 A n c A2 m c2 q ∧ wgt q ≤ Rows.uptoBulk d := by
  obtain ⟨fuel, hf⟩ := h
  obtain ⟨cs, rfl, hcs⟩ := okWide_struct Tryd.underlying36 hv
  rw [show Tryd.prog.cellsOf 36 = 2 by kernel_rfl] at hcs
  obtain ⟨v0, v1, rfl⟩ : ∃ v0 v1, cs = #[v0, v1] := by
    obtain ⟨l⟩ := cs
    match l, hcs with
    | [a, b], _ => exact ⟨a, b, rfl⟩
  obtain ⟨xs, k, hk, hxy, _, hxl, hff⟩ := DataW.trod_struct Tryd.underlying36 hf
  match xs, hxl with
  | [y0, y1], _ =>
    have g0 := hff 0 _ rfl
    have g1 := hff 1 _ rfl
    have k0 : Tryd.prog.cellsOf 33 = 1 := by kernel_rfl
    have k1 : Tryd.prog.cellsOf 34 = 1 := by kernel_rfl
    simp [Value.cells, k0, k1] at g0 g1
    obtain ⟨hd, _⟩ := Prod.mk.inj hxy
    subst hd
    simp only [Rows.uptoBulk, List.map_cons, List.map_nil, Rows.uptoBulkAll] at hb ⊢
    obtain ⟨A, n, c, hs, rfl, h1, h2, h3, h4⟩ := arg_srow hS (by decide) Tryd.underlying33 (by kernel_rfl) (one_hit Tryd.underlying44 rfl rfl rfl (by kernel_rfl) (by kernel_rfl) (by kernel_rfl) Tryd.underlying3 Tryd.underlying22 Tryd.underlying3 Tryd.underlying3 (by kernel_rfl)) (by omega) g0
    obtain ⟨A2, m, c2, vs, rfl, h5, h6, h7, h8⟩ := arg_srow vS (by decide) Tryd.underlying34 (by kernel_rfl) (one_verd Tryd.underlying68 rfl rfl (by kernel_rfl) (by kernel_rfl) Tryd.underlying22 Tryd.underlying66 Tryd.underlying3 (by kernel_rfl)) (by omega) g1
    refine ⟨A, n, c, A2, m, c2, (hs, vs), rfl, ⟨h1, h2, h5, h6, h3, h7⟩, ?_⟩
    unfold wgt
    dsimp only
    have e1 : (hs.map fun h => h.2.1.length).sum = (hs.map fun a => (hS.pt a).length).sum := rfl
    have e2 : (vs.map fun h => h.1.length).sum = (vs.map fun a => (vS.pt a).length).sum := rfl
    omega
end Go.Proofs.YtgjningfpkoooaaDoor.W
