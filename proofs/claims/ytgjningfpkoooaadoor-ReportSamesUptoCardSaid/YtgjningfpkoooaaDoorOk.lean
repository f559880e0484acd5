/- Paths compared. -/
import Derived.Test.YtgjningfpkoooaaDoorOj
import Derived.BigQuiet
namespace Go.Proofs.YtgjningfpkoooaaDoor.Ro
set_option linter.unusedVariables false
set_option linter.unusedSimpArgs false
open Go.RowKit Go.Proofs.YtgjningfpkoooaaDoor.W

theorem RV.geti {w : World} {A : Option Addr} {l : List Int} (h : RV w A (is64 l)) {i : Nat} {x : Int} (hx : l[i]? = some x) : ∃ b off, A = some ⟨b, off, none⟩ ∧ b < w.heap.size ∧ w.cell? ⟨b, off + i, none⟩ = some (.int .i64 x) :=
  h i _ (by unfold is64; rw [List.getElem?_map, hx]; rfl)
theorem take_snoc' {α : Type} {l : List α} {k : Nat} {x : α} (h : l[k]? = some x) : l.take (k + 1) = l.take k ++ [x] := by
  obtain ⟨h1, h2⟩ := List.getElem?_eq_some_iff.1 h
  rw [List.take_succ_eq_append_getElem h1, h2]
theorem ne_at {α : Type} {l l2 : List α} {k : Nat} {x y : α} (h : l[k]? = some x) (h2 : l2[k]? = some y) (hxy : x ≠ y) : l ≠ l2 := fun e => by
  subst e
  rw [h] at h2
  injection h2 with h2
  exact hxy h2
def SameIs (w : World) (b : Bool) (e : Ending) (w' : World) : Prop := e = .returned (.bool b) ∧ ∃ d, w' = w.drewN d
set_option maxHeartbeats 2000000 in
set_option maxRecDepth 100000 in
theorem c_ints (A A2 : Option Addr) (n m c c2 : Nat) (l l2 : List Int) (w : World) (hl : l.length = n) (hm : l2.length = m) (hn : n ≤ 140737488355328) (hm2 : m ≤ 140737488355328) (hr : RV w A (is64 l)) (hr2 : RV w A2 (is64 l2)) :
    Calls Tryd.prog 16 #[.slice A n c, .slice A2 m c2] w (SameIs w (decide (l = l2))) := by
  have HC := Lib.hid hr
  have HC2 := Lib.hid hr2
  have HL := Lib.hid hl
  have HL2 := Lib.hid hm
  clear hr hr2 hl hm
  by_cases hnm : n = m
  · subst hnm
    go_enter Tryd.func16, Tryd.ntmps16
    go_wp2
    go_loopg [5] n (fun g t wx => ∃ k d : Nat, k + g = n ∧ t = .int .i64 k ∧ wx = w.drewN d ∧ Hid (l.take k = l2.take k))
    case atStart => exact ⟨0, 0, by omega, rfl, rfl, Lib.hid rfl⟩
    case round =>
      obtain ⟨k, d, hkg, rfl, rfl, hT⟩ := hrel
      cases gk with
      | zero =>
        obtain rfl : k = n := by omega
        have hk : ¬ (k : Int) < (k : Int) := by omega
        have he : decide (l = l2) = true := by
          have h := hT.out
          rw [List.take_of_length_le (by rw [HL.out]; exact Nat.le_refl _), List.take_of_length_le (by rw [HL2.out]; exact Nat.le_refl _)] at h
          exact decT h
        have HE := Lib.hid he
        clear he
        go_wp2
        go_ret
        exact ⟨by rw [HE.out]; rfl, _, rfl⟩
      | succ g =>
        have hk : (k : Int) < (n : Int) := by omega
        obtain ⟨x, hx⟩ : ∃ x, l[k]? = some x := ⟨_, List.getElem?_eq_getElem (by rw [HL.out]; omega)⟩
        obtain ⟨y, hy⟩ : ∃ y, l2[k]? = some y := ⟨_, List.getElem?_eq_getElem (by rw [HL2.out]; omega)⟩
        obtain ⟨b, off, rfl, hb, hc⟩ := RV.geti HC.out hx
        obtain ⟨b2, off2, rfl, hb2, hc2⟩ := RV.geti HC2.out hy
        have HX := Lib.hid hx
        have HY := Lib.hid hy
        clear hx hy
        by_cases hxy : x = y
        · have HT := Lib.hid (show l.take (k + 1) = l2.take (k + 1) by rw [take_snoc' HX.out, take_snoc' HY.out, hT.out, hxy])
          have e1 := neF hxy
          clear hxy
          go_wp2
          go_quiet (fail)
          go_wp2
          go_roundg g
          case measure => omega
          case rel => exact ⟨k + 1, _, by omega, by go_num, rfl, HT⟩
        · have HE := Lib.hid (show decide (l = l2) = false from decF (ne_at HX.out HY.out hxy))
          have e1 := neT hxy
          clear hxy
          go_wp2
          go_quiet (fail)
          go_wp2
          go_ret
          exact ⟨by rw [HE.out]; rfl, _, World.drewN_drewN ..⟩
  · have HE := Lib.hid (show decide (l = l2) = false from decF (fun e => hnm (by rw [← HL.out, ← HL2.out, e])))
    have e1 : ((n : Int) != (m : Int)) = true := W.neT (by omega)
    clear hnm
    go_enter Tryd.func16, Tryd.ntmps16
    go_wp2
    go_ret
    exact ⟨by rw [HE.out]; rfl, 0, rfl⟩
def NumIs (w : World) (n : Nat) (e : Ending) (w' : World) : Prop := e = .returned (.int .i64 (n : Nat)) ∧ ∃ d, w' = w.drewN d
set_option maxHeartbeats 2000000 in
set_option maxRecDepth 100000 in
theorem c_common (A A2 : Option Addr) (n m c c2 : Nat) (l l2 : List Int) (w : World) (hl : l.length = n) (hm : l2.length = m) (hn : n ≤ 140737488355328) (hm2 : m ≤ 140737488355328) (hr : RV w A (is64 l)) (hr2 : RV w A2 (is64 l2)) :
    Calls Tryd.prog 40 #[.slice A n c, .slice A2 m c2] w (NumIs w (com l l2)) := by
  have HC := Lib.hid hr
  have HC2 := Lib.hid hr2
  have HL := Lib.hid hl
  have HL2 := Lib.hid hm
  clear hr hr2 hl hm
  go_enter Tryd.func40, Tryd.ntmps40
  go_wp2
  go_loopg [5] (min n m) (fun g t wx => ∃ k d : Nat, k + g = min n m ∧ t = .int .i64 k ∧ wx = w.drewN d ∧ Hid (∀ i, i < k → l[i]? = l2[i]?))
  case atStart => exact ⟨0, 0, by omega, rfl, rfl, Lib.hid (fun i hi => by omega)⟩
  case round =>
    obtain ⟨k, d, hkg, rfl, rfl, hT⟩ := hrel
    have hkn : k ≤ n := by omega
    have hkm : k ≤ m := by omega
    by_cases hn1 : k = n
    · have g1 : decide ((k : Int) < (n : Int)) = false := decide_eq_false (by omega)
      have g1n : decide (k < n) = false := decide_eq_false (by omega)
      have HE := Lib.hid (show com l l2 = k from com_eq hT.out (by rw [HL.out, HL2.out]; exact ⟨hkn, hkm⟩) (.inl (by rw [HL.out]; exact hn1)))
      clear hn1
      go_wp2
      go_quiet (fail)
      go_wp2
      go_ret
      exact ⟨by rw [HE.out]; rfl, _, World.drewN_drewN ..⟩
    · have hk : (k : Int) < (n : Int) := by omega
      have g1 : decide ((k : Int) < (n : Int)) = true := decide_eq_true (by omega)
      have g1n : decide (k < n) = true := decide_eq_true (by omega)
      by_cases hm1 : k = m
      · have g2 : decide ((k : Int) < (m : Int)) = false := decide_eq_false (by omega)
        have g2n : decide (k < m) = false := decide_eq_false (by omega)
        have HE := Lib.hid (show com l l2 = k from com_eq hT.out (by rw [HL.out, HL2.out]; exact ⟨hkn, hkm⟩) (.inr (.inl (by rw [HL2.out]; exact hm1))))
        clear hm1 hn1
        go_wp2
        go_quiet (fail)
        go_wp2
        go_ret
        exact ⟨by rw [HE.out]; rfl, _, World.drewN_drewN ..⟩
      · have hk2 : (k : Int) < (m : Int) := by omega
        have g2 : decide ((k : Int) < (m : Int)) = true := decide_eq_true (by omega)
        have g2n : decide (k < m) = true := decide_eq_true (by omega)
        have hk0 : (0 : Int) ≤ (k : Int) := by omega
        obtain ⟨x, hx⟩ : ∃ x, l[k]? = some x := ⟨_, List.getElem?_eq_getElem (by rw [HL.out]; omega)⟩
        obtain ⟨y, hy⟩ : ∃ y, l2[k]? = some y := ⟨_, List.getElem?_eq_getElem (by rw [HL2.out]; omega)⟩
        obtain ⟨b, off, rfl, hb, hc⟩ := RV.geti HC.out hx
        obtain ⟨b2, off2, rfl, hb2, hc2⟩ := RV.geti HC2.out hy
        have HX := Lib.hid hx
        have HY := Lib.hid hy
        clear hx hy
        obtain ⟨g, rfl⟩ : ∃ g, gk = g + 1 := ⟨gk - 1, by omega⟩
        by_cases hxy : x = y
        · have HT := Lib.hid (show ∀ i, i < k + 1 → l[i]? = l2[i]? from fun i hi => by
            rcases Nat.lt_succ_iff_lt_or_eq.1 hi with h | rfl
            · exact hT.out i h
            · rw [HX.out, HY.out, hxy])
          have e1 : (x == y) = true := W.eqT hxy
          clear hxy hm1 hn1
          go_wp2
          go_quiet (fail)
          go_wp2
          go_roundg g
          case measure => omega
          case rel => exact ⟨k + 1, _, by omega, by go_num, rfl, HT⟩
        · have HE := Lib.hid (show com l l2 = k from com_eq hT.out (by rw [HL.out, HL2.out]; exact ⟨hkn, hkm⟩) (.inr (.inr (by rw [HX.out, HY.out]; exact fun h => hxy (Option.some.inj h)))))
          have e1 : (x == y) = false := W.eqF hxy
          clear hxy hm1 hn1
          go_wp2
          go_quiet (fail)
          go_wp2
          go_ret
          exact ⟨by rw [HE.out]; rfl, _, World.drewN_drewN ..⟩
set_option maxHeartbeats 2000000 in
set_option maxRecDepth 100000 in
theorem c_pless (A A2 : Option Addr) (n m c c2 : Nat) (l l2 : List Int) (w : World) (hl : l.length = n) (hm : l2.length = m) (hn : n ≤ 140737488355328) (hm2 : m ≤ 140737488355328) (hr : RV w A (is64 l)) (hr2 : RV w A2 (is64 l2)) :
    Calls Tryd.prog 19 #[.slice A n c, .slice A2 m c2] w (SameIs w (less l l2)) := by
  have C := Lib.hid (c_common A A2 n m c c2 l l2 w hl hm hn hm2 hr hr2)
  have HC := Lib.hid hr
  have HC2 := Lib.hid hr2
  have HLC := Lib.hid (less_com l l2)
  have hle := com_le l l2
  obtain ⟨q, hq⟩ : ∃ q, com l l2 = q := ⟨_, rfl⟩
  rw [hq] at C hle HLC
  rw [hl, hm] at HLC
  rw [hl, hm] at hle
  have HL := Lib.hid hl
  have HL2 := Lib.hid hm
  clear hr hr2 hl hm hq
  by_cases h1 : q = n
  · have e1 : ((q : Int) == (n : Int)) = true := W.eqT (by omega)
    have HE := Lib.hid (show less l l2 = decide (n < m) by rw [HLC.out, if_pos (.inl h1)])
    clear h1
    go_enter Tryd.func19, Tryd.ntmps19
    go_wp2_with (go_at_call 40; go_must (refine C.out.mono ?_); rintro e w2 ⟨rfl, d, rfl⟩)
    go_ret
    refine ⟨?_, d, rfl⟩
    rw [HE.out]
    first | rfl | (congr 2; simp)
  · have e1 : ((q : Int) == (n : Int)) = false := W.eqF (by omega)
    by_cases h2 : q = m
    · have e2 : ((q : Int) == (m : Int)) = true := W.eqT (by omega)
      have HE := Lib.hid (show less l l2 = decide (n < m) by rw [HLC.out, if_pos (.inr h2)])
      clear h1 h2
      go_enter Tryd.func19, Tryd.ntmps19
      go_wp2_with (go_at_call 40; go_must (refine C.out.mono ?_); rintro e w2 ⟨rfl, d, rfl⟩)
      go_ret
      refine ⟨?_, d, rfl⟩
      rw [HE.out]
      first | rfl | (congr 2; simp)
    · have e2 : ((q : Int) == (m : Int)) = false := W.eqF (by omega)
      have i1 : (q : Int) < (n : Int) := by omega
      have i2 : (q : Int) < (m : Int) := by omega
      have i0 : (0 : Int) ≤ (q : Int) := by omega
      obtain ⟨x, hx⟩ : ∃ x, l[q]? = some x := ⟨_, List.getElem?_eq_getElem (by rw [HL.out]; omega)⟩
      obtain ⟨y, hy⟩ : ∃ y, l2[q]? = some y := ⟨_, List.getElem?_eq_getElem (by rw [HL2.out]; omega)⟩
      obtain ⟨b, off, rfl, hb, hc⟩ := RV.geti HC.out hx
      obtain ⟨b2, off2, rfl, hb2, hc2⟩ := RV.geti HC2.out hy
      have HE := Lib.hid (show less l l2 = decide (x < y) by rw [HLC.out, if_neg (by omega), List.getD_eq_getElem?_getD, List.getD_eq_getElem?_getD, hx, hy]; rfl)
      clear h1 h2 hx hy
      go_enter Tryd.func19, Tryd.ntmps19
      go_wp2_with (go_at_call 40; go_must (refine C.out.mono ?_); rintro e w2 ⟨rfl, d, rfl⟩)
      go_quiet (fail)
      go_wp2
      go_ret
      exact ⟨by rw [HE.out]; rfl, _, World.drewN_drewN ..⟩
set_option maxHeartbeats 2000000 in
set_option maxRecDepth 100000 in
theorem c_punder (A A2 : Option Addr) (n m c c2 : Nat) (l l2 : List Int) (w : World) (hl : l.length = n) (hm : l2.length = m) (hn : n ≤ 140737488355328) (hm2 : m ≤ 140737488355328) (hr : RV w A (is64 l)) (hr2 : RV w A2 (is64 l2)) :
    Calls Tryd.prog 21 #[.slice A n c, .slice A2 m c2] w (SameIs w (under l l2)) := by
  have C := Lib.hid (c_common A A2 n m c c2 l l2 w hl hm hn hm2 hr hr2)
  have HU := Lib.hid (under_com l l2)
  obtain ⟨q, hq⟩ : ∃ q, com l l2 = q := ⟨_, rfl⟩
  rw [hq] at C HU
  rw [hm] at HU
  clear hr hr2 hl hm hq
  by_cases h2 : q = m
  · have e2 : ((q : Int) == (m : Int)) = true := W.eqT (by omega)
    have HE := Lib.hid (show under l l2 = true by rw [HU.out]; exact decide_eq_true h2)
    clear h2
    go_enter Tryd.func21, Tryd.ntmps21
    go_wp2_with (go_at_call 40; go_must (refine C.out.mono ?_); rintro e w2 ⟨rfl, d, rfl⟩)
    go_ret
    exact ⟨by rw [HE.out]; rfl, d, rfl⟩
  · have e2 : ((q : Int) == (m : Int)) = false := W.eqF (by omega)
    have HE := Lib.hid (show under l l2 = false by rw [HU.out]; exact decide_eq_false h2)
    clear h2
    go_enter Tryd.func21, Tryd.ntmps21
    go_wp2_with (go_at_call 40; go_must (refine C.out.mono ?_); rintro e w2 ⟨rfl, d, rfl⟩)
    go_ret
    exact ⟨by rw [HE.out]; rfl, d, rfl⟩
set_option maxHeartbeats 2000000 in
set_option maxRecDepth 100000 in
theorem r_pless (A A2 : Option Addr) (n m c c2 : Nat) (l l2 : List Int) (w : World) (hl : l.length = n) (hm : l2.length = m) (hn : n ≤ 140737488355328) (hm2 : m ≤ 140737488355328) (hr : RV w A (is64 l)) (hr2 : RV w A2 (is64 l2)) :
    Calls Tryd.prog 20 #[.slice A n c, .slice A2 m c2] w (SameIs w (less l l2)) := by
  have HC := Lib.hid hr
  have HC2 := Lib.hid hr2
  have HL := Lib.hid hl
  have HL2 := Lib.hid hm
  clear hr hr2 hl hm
  go_enter Tryd.func20, Tryd.ntmps20
  go_wp2
  go_loopg [5] m (fun g t wx => ∃ k d : Nat, k + g = m ∧ t = .int .i64 k ∧ k ≤ n ∧ wx = w.drewN d ∧ Hid (∀ i, i < k → l[i]? = l2[i]?))
  case atStart => exact ⟨0, 0, by omega, rfl, by omega, rfl, Lib.hid (fun i hi => by omega)⟩
  case round =>
    obtain ⟨k, d, hkg, rfl, hkn, rfl, hT⟩ := hrel
    cases gk with
    | zero =>
      obtain rfl : k = m := by omega
      have hk : ¬ (k : Int) < (k : Int) := by omega
      have HE := Lib.hid (show less l l2 = false by
        rw [less_com, com_eq hT.out (by rw [HL.out, HL2.out]; omega) (.inr (.inl HL2.out.symm)), if_pos (.inr HL2.out.symm), HL.out, HL2.out]
        exact decide_eq_false (by omega))
      go_wp2
      go_ret
      exact ⟨by rw [HE.out]; rfl, _, rfl⟩
    | succ g =>
      have hk : (k : Int) < (m : Int) := by omega
      have hk0 : (0 : Int) ≤ (k : Int) := by omega
      by_cases h1 : k = n
      · have e1 : ((k : Int) == (n : Int)) = true := W.eqT (by omega)
        have HE := Lib.hid (show less l l2 = true by
          rw [less_com, com_eq hT.out (by rw [HL.out, HL2.out]; omega) (.inl (by rw [HL.out]; exact h1)), if_pos (.inl (by rw [HL.out]; exact h1)), HL.out, HL2.out]
          exact decide_eq_true (by omega))
        clear h1
        go_wp2
        go_ret
        exact ⟨by rw [HE.out]; rfl, _, rfl⟩
      · have e1 : ((k : Int) == (n : Int)) = false := W.eqF (by omega)
        have hkn1 : (k : Int) < (n : Int) := by omega
        obtain ⟨x, hx⟩ : ∃ x, l[k]? = some x := ⟨_, List.getElem?_eq_getElem (by rw [HL.out]; omega)⟩
        obtain ⟨y, hy⟩ : ∃ y, l2[k]? = some y := ⟨_, List.getElem?_eq_getElem (by rw [HL2.out]; omega)⟩
        obtain ⟨b, off, rfl, hb, hc⟩ := RV.geti HC.out hx
        obtain ⟨b2, off2, rfl, hb2, hc2⟩ := RV.geti HC2.out hy
        have HX := Lib.hid hx
        have HY := Lib.hid hy
        clear hx hy
        by_cases hxy : x = y
        · have HT := Lib.hid (show ∀ i, i < k + 1 → l[i]? = l2[i]? from fun i hi => by
            rcases Nat.lt_succ_iff_lt_or_eq.1 hi with h | rfl
            · exact hT.out i h
            · rw [HX.out, HY.out, hxy])
          have e2 : (x != y) = false := W.neF hxy
          clear hxy h1
          go_wp2
          go_quiet (fail)
          go_wp2
          go_roundg g
          case measure => omega
          case rel => exact ⟨k + 1, _, by omega, by go_num, by omega, rfl, HT⟩
        · have HE := Lib.hid (show less l l2 = decide (x < y) by
            rw [less_com, com_eq hT.out (by rw [HL.out, HL2.out]; omega) (.inr (.inr (by rw [HX.out, HY.out]; exact fun h => hxy (Option.some.inj h)))), if_neg (by rw [HL.out, HL2.out]; omega), List.getD_eq_getElem?_getD, List.getD_eq_getElem?_getD, HX.out, HY.out]
            rfl)
          have e2 : (x != y) = true := W.neT hxy
          clear hxy h1
          go_wp2
          go_quiet (fail)
          go_wp2
          go_quiet (fail)
          go_wp2
          go_ret
          refine ⟨by rw [HE.out]; rfl, ?_⟩
          rw [World.drewN_drewN, World.drewN_drewN]
          exact ⟨_, rfl⟩
set_option maxHeartbeats 2000000 in
set_option maxRecDepth 100000 in
theorem r_punder (A A2 : Option Addr) (n m c c2 : Nat) (l l2 : List Int) (w : World) (hl : l.length = n) (hm : l2.length = m) (hn : n ≤ 140737488355328) (hm2 : m ≤ 140737488355328) (hr : RV w A (is64 l)) (hr2 : RV w A2 (is64 l2)) :
    Calls Tryd.prog 22 #[.slice A n c, .slice A2 m c2] w (SameIs w (under l l2)) := by
  have HC := Lib.hid hr
  have HC2 := Lib.hid hr2
  have HL := Lib.hid hl
  have HL2 := Lib.hid hm
  clear hr hr2 hl hm
  go_enter Tryd.func22, Tryd.ntmps22
  go_wp2
  go_loopg [5] m (fun g t wx => ∃ k d : Nat, k + g = m ∧ t = .int .i64 k ∧ k ≤ n ∧ wx = w.drewN d ∧ Hid (∀ i, i < k → l[i]? = l2[i]?))
  case atStart => exact ⟨0, 0, by omega, rfl, by omega, rfl, Lib.hid (fun i hi => by omega)⟩
  case round =>
    obtain ⟨k, d, hkg, rfl, hkn, rfl, hT⟩ := hrel
    cases gk with
    | zero =>
      obtain rfl : k = m := by omega
      have hk : ¬ (k : Int) < (k : Int) := by omega
      have HE := Lib.hid (show under l l2 = true by
        rw [under_com, com_eq hT.out (by rw [HL.out, HL2.out]; omega) (.inr (.inl HL2.out.symm)), HL2.out]
        exact decide_eq_true rfl)
      go_wp2
      go_ret
      exact ⟨by rw [HE.out]; rfl, _, rfl⟩
    | succ g =>
      have hk : (k : Int) < (m : Int) := by omega
      have hk0 : (0 : Int) ≤ (k : Int) := by omega
      by_cases h1 : k = n
      · have g1 : decide ((k : Int) ≥ (n : Int)) = true := decide_eq_true (by omega)
        have g2 : decide ((n : Int) ≤ (k : Int)) = true := decide_eq_true (by omega)
        have g3 : decide (n ≤ k) = true := decide_eq_true (by omega)
        have HE := Lib.hid (show under l l2 = false by
          rw [under_com, com_eq hT.out (by rw [HL.out, HL2.out]; omega) (.inl (by rw [HL.out]; exact h1)), HL2.out]
          exact decide_eq_false (by omega))
        clear h1
        go_wp2
        go_quiet (fail)
        go_wp2
        go_ret
        exact ⟨by rw [HE.out]; rfl, _, World.drewN_drewN ..⟩
      · have g1 : decide ((k : Int) ≥ (n : Int)) = false := decide_eq_false (by omega)
        have g2 : decide ((n : Int) ≤ (k : Int)) = false := decide_eq_false (by omega)
        have g3 : decide (n ≤ k) = false := decide_eq_false (by omega)
        have hkn1 : (k : Int) < (n : Int) := by omega
        obtain ⟨x, hx⟩ : ∃ x, l[k]? = some x := ⟨_, List.getElem?_eq_getElem (by rw [HL.out]; omega)⟩
        obtain ⟨y, hy⟩ : ∃ y, l2[k]? = some y := ⟨_, List.getElem?_eq_getElem (by rw [HL2.out]; omega)⟩
        obtain ⟨b, off, rfl, hb, hc⟩ := RV.geti HC.out hx
        obtain ⟨b2, off2, rfl, hb2, hc2⟩ := RV.geti HC2.out hy
        have HX := Lib.hid hx
        have HY := Lib.hid hy
        clear hx hy
        by_cases hxy : x = y
        · have HT := Lib.hid (show ∀ i, i < k + 1 → l[i]? = l2[i]? from fun i hi => by
            rcases Nat.lt_succ_iff_lt_or_eq.1 hi with h | rfl
            · exact hT.out i h
            · rw [HX.out, HY.out, hxy])
          have e2 : (x != y) = false := W.neF hxy
          clear hxy h1
          go_wp2
          go_quiet (fail)
          go_wp2
          go_roundg g
          case measure => omega
          case rel => exact ⟨k + 1, _, by omega, by go_num, by omega, rfl, HT⟩
        · have HE := Lib.hid (show under l l2 = false by
            rw [under_com, com_eq hT.out (by rw [HL.out, HL2.out]; omega) (.inr (.inr (by rw [HX.out, HY.out]; exact fun h => hxy (Option.some.inj h)))), HL2.out]
            exact decide_eq_false (by omega))
          have e2 : (x != y) = true := W.neT hxy
          clear hxy h1
          go_wp2
          go_quiet (fail)
          go_wp2
          go_ret
          exact ⟨by rw [HE.out]; rfl, _, World.drewN_drewN ..⟩
/-- A child's path, as new memory. -/
def ChildIs (w : World) (l : List Int) (x : Int) (e : Ending) (w' : World) : Prop := ∃ A c, e = .returned (.slice A (l.length + 1) c) ∧ w'.ownsRow w.heap.size 3 1 (.slice A (l.length + 1) c) (l.length + 1) (is64 (l ++ [x])) ∧ Below w.heap.size w w'
def CloneIs (w : World) (l : List Int) (e : Ending) (w' : World) : Prop := ∃ A c, e = .returned (.slice A l.length c) ∧ w'.ownsRow w.heap.size 3 1 (.slice A l.length c) l.length (is64 l) ∧ Below w.heap.size w w'
theorem c_clone (A : Option Addr) (n c : Nat) (l : List Int) (w : World) (hl : l.length = n) (hn : n * 8 ≤ 140737488355328) (hr : RV w A (is64 l)) : Calls Tryd.prog 39 #[.slice A n c] w (CloneIs w l) := by
  cases A with
  | none =>
    have h0 : l = [] := by
      cases l with
      | nil => rfl
      | cons x l =>
        obtain ⟨b, off, h, _⟩ := hr 0 _ rfl
        cases h
    subst h0
    refine (Tryd.slices_Clone_int_nil n c w).mono ?_
    rintro e w' ⟨rfl, rfl⟩
    exact ⟨none, 0, rfl, World.ownsRow_nil _ _ _ _, Below.refl _ _⟩
  | some a =>
    by_cases h0 : n = 0
    · subst h0
      have hl0 : l = [] := List.eq_nil_of_length_eq_zero hl
      subst hl0
      refine (Tryd.slices_Clone_int_zero a c w).mono ?_
      rintro e w' ⟨v, rfl, h1, _, h2⟩
      obtain ⟨A', c', rfl, _⟩ := W.slice_form h1
      exact ⟨A', c', rfl, h1, h2⟩
    · obtain ⟨x, hx⟩ : ∃ x, l[0]? = some x := ⟨_, List.getElem?_eq_getElem (by omega)⟩
      obtain ⟨b, off, ha, _, _⟩ := RV.geti hr hx
      injection ha with ha
      subst ha
      refine (Tryd.slices_Clone_int b off n c l w (by omega) hn (fun j hj => ?_)).mono ?_
      · obtain ⟨b', off', ha, _, hc⟩ := RV.geti hr (List.getElem?_eq_getElem hj)
        injection ha with ha
        injection ha with h1 h2
        subst h1 h2
        rw [hc, List.getD_eq_getElem?_getD, List.getElem?_eq_getElem hj]
        rfl
      · rintro e w' ⟨v, rfl, h1, _, h2⟩
        obtain ⟨A', c', rfl, _⟩ := W.slice_form h1
        rw [List.take_of_length_le (by omega)] at h1
        refine ⟨A', c', by rw [hl], ?_, h2⟩
        rw [hl]
        exact h1
set_option maxHeartbeats 2000000 in
set_option maxRecDepth 100000 in
theorem c_child (A : Option Addr) (n c : Nat) (l : List Int) (x : Int) (w : World) (hl : l.length = n) (hn : n * 8 ≤ 140737488351232) (hr : RV w A (is64 l)) : Calls Tryd.prog 18 #[.slice A n c, .int .i64 x] w (ChildIs w l x) := by
  have C := Lib.hid (c_clone A n c l w hl (by omega) hr)
  subst hl
  clear hr
  go_enter Tryd.func18, Tryd.ntmps18
  go_wp2_with (first
    | (go_at_call 39; go_must (refine C.out.mono ?_); rintro e w2 ⟨A2, c2, rfl, h1, h2⟩; have HO2 := Lib.hid h1; have HB2 := Lib.hid h2; have HNW := Lib.hid (RV.new (w := w2) #[Value.int .i64 x] 3); have hz2 := h2.size; clear h1 h2)
    | (at_builtin; go_must (refine wpList_ap int8 rfl _ _ rfl rfl (HO2.out.alloc _) rfl (m := 1) (news := [Value.int .i64 x]) rfl HNW.out (by intro z hz; rw [List.mem_singleton.1 hz]; rfl) (by unfold maxLen; omega) (by omega) (by simp; omega) ?_); intro A5 c5 w5 hown5 hgrow5 hob5 hcap5; have HO5 := Lib.hid hown5; have HB5 := Lib.hid ((HB2.out.alloc hz2 _).grown hgrow5 (by simp; omega) (fun k hk => (HO2.out.lt k hk).1)); clear hown5 hgrow5 hob5 hcap5))
  go_ret
  refine ⟨A5, c5, rfl, ?_, HB5.out⟩
  have h9 := HO5.out
  unfold is64 at h9 ⊢
  rw [List.map_append]
  exact h9
end Go.Proofs.YtgjningfpkoooaaDoor.Ro
