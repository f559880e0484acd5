/- How a [][]byte argument of a row is opened. -/
import Derived.Test.YtmalacamfjdimaaArgs
import Derived.Test.YtmalacamfjdimaaRk
import Derived.Deep.Matrix
namespace Go.Proofs.Ytmalacamfjdimaa.W
open Go.RowKit Go.ChangeShapes Go.WideShapes Go.Deep

/-- Rows of bytes that came in. -/
structure RowsArg (w : World) (A : Option Addr) (n c : Nat) (l : List (List Int)) : Prop where
  len : l.length = n
  cap : n ≤ c
  rr : Pt.RR w A l
  by_ : ∀ r ∈ l, Bytes r
theorem bulk_row {H : Type} (k : IntKind) (A : Option Addr) (L : Nat) (Z : List Int) (hL : L ≤ Z.length) (h0 : A = none → L = 0) : L + 1 ≤ Rows.uptoBulk (intRow (H := H) k A L Z) := by
  cases A with
  | none => rw [h0 rfl]; exact bulk_one _
  | some a =>
    show L + 1 ≤ Rows.uptoBulk (.slice (lits (H := H) k (Z.take L)) (lits k (Z.drop L)))
    have h := bulk_length (H := H) (lits k (Z.take L))
    have h2 : (lits (H := H) k (Z.take L)).length = L := by simp [lits]; omega
    simp only [Rows.uptoBulk]
    omega
theorem bulk_rows {H : Type} (k : IntKind) (A : Nat → Option Addr) (L : Nat → Nat) (Z : Nat → List Int) : ∀ (rs : List Nat), (∀ r ∈ rs, L r ≤ (Z r).length ∧ (A r = none → L r = 0)) →
    rs.length + (rs.map L).sum ≤ Rows.uptoBulkAll (rs.map fun r => intRow (H := H) k (A r) (L r) (Z r)) := by
  intro rs
  induction rs with
  | nil => intro _; simp
  | cons r rs ih =>
    intro h
    have h1 := ih (fun x hx => h x (List.mem_cons_of_mem _ hx))
    have h2 := bulk_row (H := H) k (A r) (L r) (Z r) (h r (by simp)).1 (h r (by simp)).2
    simp only [List.map_cons, List.length_cons, List.sum_cons, Rows.uptoBulkAll]
    omega

theorem arg_rows {H : Type} {enc : TypeId × Value → H} {P : Program} {W : World} {b0 base : Nat} {held : Bool} {r : Reach} {t e q : TypeId} {v : Value} {d : DataW H} {ps : List MemPlace} {ts : List TypeId} {ds : List (DataW H)} {j : Nat}
    (_ : (DataW.weightsEach P ts ds).all (· ≤ reachBytes) = true) (_ : ts[j]? = some t) (_ : ds[j]? = some d) (hu : P.underlying t = some (.slice e)) (he : P.underlying e = some (.slice q)) (hq : P.underlying q = some (.int .u8)) (ce : P.cellsOf e = 1) (cq : P.cellsOf q = 1) (_ : P.bytesOf e = 24) (_ : P.bytesOf q = 1)
    (hv : Value.okWide P W r b0 t v) (h : DataW.Trod enc P W base (fun _ => true) held t v d ps) :
    ∃ (A : Option Addr) (n c : Nat) (l : List (List Int)), v = .slice A n c ∧ RowsArg W A n c l ∧ n + (l.map List.length).sum ≤ Rows.uptoBulk d := by
  obtain ⟨A, n, c, rfl⟩ := okWide_slice hu hv
  obtain ⟨fuel, hf⟩ := h
  rcases open_int_rows hu he hq ce cq hf with ⟨hcs, _⟩ | ⟨a, len, cap, Ar, L, C, Z, hcs, _, hl, _, hx, hcell⟩
  · simp [Value.cells] at hcs
    obtain ⟨rfl, rfl, rfl⟩ := hcs
    exact ⟨none, 0, 0, [], rfl, ⟨rfl, Nat.le_refl _, ⟨[], rfl, RV.nil _ _, fun i l hl => by simp at hl⟩, fun r hr => by cases hr⟩, by simp⟩
  · simp [Value.cells] at hcs
    obtain ⟨rfl, rfl, rfl⟩ := hcs
    obtain ⟨hx, _⟩ := Prod.mk.inj hx
    subst hx
    have hget : ∀ i (l : List Int), ((List.range n).map fun r => (Z r).take (L r))[i]? = some l → i < n ∧ l = (Z i).take (L i) := fun i l hi => by
      rw [List.getElem?_map] at hi
      by_cases hin : i < n
      · rw [List.getElem?_range hin] at hi
        injection hi with hi
        exact ⟨hin, hi.symm⟩
      · rw [List.getElem?_eq_none (by simp; omega)] at hi; cases hi
    have hsp : ∀ (p : Addr) (x : Value), W.cell? p = some x → p.spot = none := fun p x hp => World.cell?_spot hp
    refine ⟨some a, n, c, (List.range n).map fun r => (Z r).take (L r), rfl, ⟨by simp, hl, ⟨(List.range n).map fun r => .slice (Ar r) (L r) (C r), by simp, ?_, ?_⟩, ?_⟩, ?_⟩
    · intro i u hi
      rw [List.getElem?_map] at hi
      by_cases hin : i < n
      · rw [List.getElem?_range hin] at hi
        injection hi with hi
        subst hi
        obtain ⟨b, o, s⟩ := a
        have h0 := (hcell 0 (by omega)).1
        obtain rfl : s = none := hsp _ _ (by simpa [Addr.add] using h0)
        have hci := (hcell i (by omega)).1
        rw [Pt.add_pl'] at hci
        exact ⟨b, o, rfl, World.block_lt_of_cell? W ⟨b, o + i, none⟩ hci, hci⟩
      · rw [List.getElem?_eq_none (by simp; omega)] at hi; cases hi
    · intro i l hi
      obtain ⟨hin, rfl⟩ := hget i l hi
      obtain ⟨_, hLC, _, hZ, hwf, hnil, hc⟩ := hcell i (by omega)
      have hlen : ((Z i).take (L i)).length = L i := by rw [List.length_take]; omega
      refine ⟨Ar i, C i, by rw [List.getElem?_map, List.getElem?_range hin, hlen]; rfl, by rw [hlen]; exact hLC, ?_, hnil⟩
      · intro k u hk
        have hkl : k < L i := by
          have := (List.getElem?_eq_some_iff.1 hk).1
          simp [u8s] at this
          omega
        cases hA : Ar i with
        | none => have := hnil hA; omega
        | some a' =>
          obtain ⟨b, o, s⟩ := a'
          have h2 := (hc _ hA).2
          obtain rfl : s = none := hsp _ _ (by simpa [Addr.add] using h2 0 (by omega))
          have hck := h2 k (by omega)
          rw [Pt.add_pl'] at hck
          refine ⟨b, o, rfl, World.block_lt_of_cell? W ⟨b, o + k, none⟩ hck, ?_⟩
          rw [hck, ← hk]
          simp only [u8s, List.getElem?_map, List.getElem?_take, if_pos hkl]
          rw [List.getElem?_eq_getElem (by omega)]
          simp [List.getD, List.getElem?_eq_getElem (show k < (Z i).length by omega)]
    · intro rr hr
      obtain ⟨i, hi, rfl⟩ := List.mem_map.1 hr
      have hin : i < n := by simpa using hi
      have hwf := (hcell i (by omega)).2.2.2.2.1
      exact bytes_wf (fun x hx => hwf x (List.mem_of_mem_take hx))
    · have h1 := bulk_rows (H := H) .u8 Ar L Z (List.range n) (fun i hi => by
        have hin : i < n := by simpa using hi
        obtain ⟨_, hLC, _, hZ, _, hnil, _⟩ := hcell i (by omega)
        exact ⟨by omega, fun h => by have := hnil h; omega⟩)
      have h2 : (((List.range n).map fun r => (Z r).take (L r)).map List.length).sum = ((List.range n).map L).sum := by
        rw [List.map_map]
        congr 1
        apply List.map_congr_left
        intro i hi
        have hin : i < n := by simpa using hi
        obtain ⟨_, hLC, _, hZ, _⟩ := hcell i (by omega)
        simp
        omega
      rw [h2]
      simp only [Rows.uptoBulk]
      simp at h1
      omega
end Go.Proofs.Ytmalacamfjdimaa.W
