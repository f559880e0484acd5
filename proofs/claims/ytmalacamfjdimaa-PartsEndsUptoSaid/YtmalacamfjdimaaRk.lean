/- The comparisons Same, Rows; the reference's Parts. -/
import Derived.Test.YtmalacamfjdimaaPn
namespace Go.Proofs.Ytmalacamfjdimaa.Pt
open Go.RowKit Go.Proofs.Ytmalacamfjdimaa.W

theorem take_snoc' {α : Type} {l : List α} {k : Nat} {x : α} (h : l[k]? = some x) : l.take (k + 1) = l.take k ++ [x] := by
  obtain ⟨h1, h2⟩ := List.getElem?_eq_some_iff.1 h
  rw [List.take_succ_eq_append_getElem h1, h2]
theorem ne_at {α : Type} {l l2 : List α} {k : Nat} {x y : α} (h : l[k]? = some x) (h2 : l2[k]? = some y) (hxy : x ≠ y) : l ≠ l2 := fun e => by
  subst e
  rw [h] at h2
  injection h2 with h2
  exact hxy h2
def SameIs (w : World) (b : Bool) (e : Ending) (w' : World) : Prop := e = .returned (.bool b) ∧ ∃ d, w' = w.drewN d

set_option maxHeartbeats 1000000 in
set_option maxRecDepth 100000 in
theorem c_same (A A2 : Option Addr) (n m c c2 : Nat) (l l2 : List Int) (w : World) (hl : l.length = n) (hm : l2.length = m) (hn : n ≤ 140737488355328) (hm2 : m ≤ 140737488355328) (hr : RB w A l) (hr2 : RB w A2 l2) :
    Calls Try.prog 18 #[.slice A n c, .slice A2 m c2] w (SameIs w (decide (l = l2))) := by
  have HC := Lib.hid hr
  have HC2 := Lib.hid hr2
  have HL := Lib.hid hl
  have HL2 := Lib.hid hm
  clear hr hr2 hl hm
  by_cases hnm : n = m
  · subst hnm
    go_enter Try.func18, Try.ntmps18
    go_wp2
    go_loopg [5] n (fun g t wx => ∃ k d : Nat, k + g = n ∧ t = .int .i64 k ∧ wx = w.drewN d ∧ Hid (l.take k = l2.take k))
    case atStart => exact ⟨0, 0, by omega, rfl, rfl, Lib.hid rfl⟩
    case round =>
      obtain ⟨k, d, hkg, rfl, rfl, hT⟩ := hrel
      cases gk with
      | zero =>
        obtain rfl : k = n := by omega
        have hk : ¬ (k : Int) < (k : Int) := by omega
        have he : decide (l = l2) = true := by
          have h := hT.out
          rw [List.take_of_length_le (by rw [HL.out]; exact Nat.le_refl _), List.take_of_length_le (by rw [HL2.out]; exact Nat.le_refl _)] at h
          exact decT h
        have HE := Lib.hid he
        clear he
        go_wp2
        go_ret
        exact ⟨by rw [HE.out]; rfl, _, rfl⟩
      | succ g =>
        have hk : (k : Int) < (n : Int) := by omega
        obtain ⟨x, hx⟩ : ∃ x, l[k]? = some x := ⟨_, List.getElem?_eq_getElem (by rw [HL.out]; omega)⟩
        obtain ⟨y, hy⟩ : ∃ y, l2[k]? = some y := ⟨_, List.getElem?_eq_getElem (by rw [HL2.out]; omega)⟩
        obtain ⟨b, off, rfl, hb, hc⟩ := RB.get HC.out hx
        obtain ⟨b2, off2, rfl, hb2, hc2⟩ := RB.get HC2.out hy
        have HX := Lib.hid hx
        have HY := Lib.hid hy
        clear hx hy
        by_cases hxy : x = y
        · have HT := Lib.hid (show l.take (k + 1) = l2.take (k + 1) by rw [take_snoc' HX.out, take_snoc' HY.out, hT.out, hxy])
          have e1 := neF hxy
          clear hxy
          go_wp2
          go_quiet (fail)
          go_wp2
          go_roundg g
          case measure => omega
          case rel => exact ⟨k + 1, _, by omega, by go_num, rfl, HT⟩
        · have HE := Lib.hid (show decide (l = l2) = false from decF (ne_at HX.out HY.out hxy))
          have e1 := neT hxy
          clear hxy
          go_wp2
          go_quiet (fail)
          go_wp2
          go_ret
          exact ⟨by rw [HE.out]; rfl, _, World.drewN_drewN ..⟩
  · have HE := Lib.hid (show decide (l = l2) = false from decF (fun e => hnm (by rw [← HL.out, ← HL2.out, e])))
    have hnm2 : ¬ (n : Int) = (m : Int) := by omega
    clear hnm
    go_enter Try.func18, Try.ntmps18
    go_wp2
    go_ret
    exact ⟨by rw [HE.out]; rfl, 0, rfl⟩

/-- A slice of slices of bytes, as it is read. -/
structure RR (w : World) (A : Option Addr) (ls : List (List Int)) : Prop where
  ex : ∃ vs : List Value, vs.length = ls.length ∧ RV w A vs ∧ ∀ (i : Nat) (l : List Int), ls[i]? = some l → ∃ (A' : Option Addr) (c : Nat), vs[i]? = some (.slice A' l.length c) ∧ l.length ≤ c ∧ RB w A' l ∧ (A' = none → c = 0)
theorem RR.get {w : World} {A : Option Addr} {ls : List (List Int)} (h : RR w A ls) {i : Nat} {l : List Int} (hl : ls[i]? = some l) :
    ∃ b off A' c, A = some ⟨b, off, none⟩ ∧ b < w.heap.size ∧ w.cell? ⟨b, off + i, none⟩ = some (.slice A' l.length c) ∧ l.length ≤ c ∧ RB w A' l ∧ (A' = none → c = 0) := by
  obtain ⟨vs, hv, hr, hrow⟩ := h.ex
  obtain ⟨A', c, hi, hc, hb, ha⟩ := hrow i l hl
  obtain ⟨b, off, hA, hlt, hcell⟩ := hr i _ hi
  exact ⟨b, off, A', c, hA, hlt, hcell, hc, hb, ha⟩
theorem RR.below {w w' : World} {A : Option Addr} {ls : List (List Int)} (h : RR w A ls) (hb : Below w.heap.size w w') : RR w' A ls := by
  obtain ⟨vs, hv, hr, hrow⟩ := h.ex
  refine ⟨vs, hv, hr.below hb, fun i l hl => ?_⟩
  obtain ⟨A', c, hi, hc, hrb, ha⟩ := hrow i l hl
  exact ⟨A', c, hi, hc, RV.below hrb hb, ha⟩
theorem RR.drewN {w : World} {A : Option Addr} {ls : List (List Int)} (h : RR w A ls) (d : Nat) : RR (w.drewN d) A ls := ⟨h.ex⟩
theorem RR.of_prt {w : World} {S : List Nat} {A : Option Addr} {n c : Nat} {vs : List Value} {ls : List (List Int)} (h : Prt w S A n c vs ls) : RR w A ls := by
  refine ⟨vs, by rw [h.vlen, h.len], RV.own h.own, fun i l hl => ?_⟩
  obtain ⟨v, hv, ho, _⟩ := h.row i l hl
  obtain ⟨A', c', rfl, hc⟩ := slice_form ho
  refine ⟨A', c', hv, hc, RV.own ho, fun e => ?_⟩
  subst e
  rcases ho.2 with ⟨h1, _⟩ | ⟨g, cap, cur, h1, _⟩
  · injection h1
  · injection h1 with h2; cases h2
theorem add_pl' (b o i : Nat) : (⟨b, o, none⟩ : Addr).add i = ⟨b, o + i, none⟩ := by unfold Addr.add; split <;> simp_all
theorem strOf_inj {l l2 : List Int} (h1 : Bytes l) (h2 : Bytes l2) (h : strOfNums l = strOfNums l2) : l = l2 := by
  have e : ∀ {l : List Int}, Bytes l → strL (strOfNums l) = l := fun {l} hb => by
    unfold strL strOfNums
    simp only [List.map_map]
    rw [List.map_congr_left (g := id)]
    · simp
    · intro x hx
      have := hb x hx
      simp
      omega
  rw [← e h1, ← e h2, h]

set_option maxHeartbeats 1000000 in
set_option maxRecDepth 100000 in
theorem c_rows (A A2 : Option Addr) (n m c c2 : Nat) (l l2 : List (List Int)) (w : World) (hl : l.length = n) (hm : l2.length = m) (hn : n ≤ 140737488355328) (hm2 : m ≤ 140737488355328) (hr : RR w A l) (hr2 : RR w A2 l2) (hbb : l ≠ l2 → (∀ r ∈ l, Bytes r) ∧ (∀ r ∈ l2, Bytes r)) :
    Calls Try.prog 16 #[.slice A n c, .slice A2 m c2] w (SameIs w (decide (l = l2))) := by
  have HC := Lib.hid hr
  have HC2 := Lib.hid hr2
  have HL := Lib.hid hl
  have HL2 := Lib.hid hm
  have HB := Lib.hid hbb
  clear hr hr2 hl hm hbb
  by_cases hnm : n = m
  · subst hnm
    go_enter Try.func16, Try.ntmps16
    go_wp2
    go_loopg [5] n (fun g t wx => ∃ k d : Nat, k + g = n ∧ t = .int .i64 k ∧ wx = w.drewN d ∧ Hid (l.take k = l2.take k))
    case atStart => exact ⟨0, 0, by omega, rfl, rfl, Lib.hid rfl⟩
    case round =>
      obtain ⟨k, d, hkg, rfl, rfl, hT⟩ := hrel
      cases gk with
      | zero =>
        obtain rfl : k = n := by omega
        have hk : ¬ (k : Int) < (k : Int) := by omega
        have he : decide (l = l2) = true := by
          have h := hT.out
          rw [List.take_of_length_le (by rw [HL.out]; exact Nat.le_refl _), List.take_of_length_le (by rw [HL2.out]; exact Nat.le_refl _)] at h
          exact decT h
        have HE := Lib.hid he
        clear he
        go_wp2
        go_ret
        exact ⟨by rw [HE.out]; rfl, _, rfl⟩
      | succ g =>
        have hk : (k : Int) < (n : Int) := by omega
        obtain ⟨x, hx⟩ : ∃ x, l[k]? = some x := ⟨_, List.getElem?_eq_getElem (by rw [HL.out]; omega)⟩
        obtain ⟨y, hy⟩ : ∃ y, l2[k]? = some y := ⟨_, List.getElem?_eq_getElem (by rw [HL2.out]; omega)⟩
        obtain ⟨b, off, A', c', rfl, hb, hc, _, hx1, _⟩ := RR.get HC.out hx
        obtain ⟨b2, off2, A'', c'', rfl, hb2, hc2, _, hy1, _⟩ := RR.get HC2.out hy
        have s1 := fun d => run_string (P := Try.prog) (w := w.drewN d) _ _ _ Try.underlying22 Try.underlying5 Try.underlying9 (c := c') hx1 rfl
        have s2 := fun d => run_string (P := Try.prog) (w := w.drewN d) _ _ _ Try.underlying22 Try.underlying5 Try.underlying9 (c := c'') hy1 rfl
        have HX := Lib.hid hx
        have HY := Lib.hid hy
        clear hx hy hx1 hy1
        by_cases hxy : x = y
        · have HT := Lib.hid (show l.take (k + 1) = l2.take (k + 1) by rw [take_snoc' HX.out, take_snoc' HY.out, hT.out, hxy])
          have hs : strOfNums x = strOfNums y := by rw [hxy]
          generalize strOfNums x = sx at *
          generalize strOfNums y = sy at *
          subst hs
          clear hxy
          go_wp2
          go_quiet (fail)
          go_wp2
          go_roundg g
          case measure => omega
          case rel => exact ⟨k + 1, _, by omega, by go_num, rfl, HT⟩
        · have HE := Lib.hid (show decide (l = l2) = false from decF (ne_at HX.out HY.out hxy))
          have hs : strOfNums x ≠ strOfNums y := fun e => hxy (strOf_inj ((HB.out (ne_at HX.out HY.out hxy)).1 _ (List.mem_of_getElem? HX.out)) ((HB.out (ne_at HX.out HY.out hxy)).2 _ (List.mem_of_getElem? HY.out)) e)
          generalize strOfNums x = sx at *
          generalize strOfNums y = sy at *
          have hs1 : (sx.toList == sy.toList) = false := by
            rw [beq_eq_false_iff_ne]
            intro e
            rw [Go.Lib.toList_data, Go.Lib.toList_data] at e
            exact hs (Go.WideShapes.bytes_inj e)
          clear hxy hs
          go_wp2
          go_quiet (fail)
          go_wp2
          go_ret
          exact ⟨by rw [HE.out]; rfl, _, World.drewN_drewN ..⟩
  · have HE := Lib.hid (show decide (l = l2) = false from decF (fun e => hnm (by rw [← HL.out, ← HL2.out, e])))
    have hnm2 : ¬ (n : Int) = (m : Int) := by omega
    clear hnm
    go_enter Try.func16, Try.ntmps16
    go_wp2
    go_ret
    exact ⟨by rw [HE.out]; rfl, 0, rfl⟩
end Go.Proofs.Ytmalacamfjdimaa.Pt
