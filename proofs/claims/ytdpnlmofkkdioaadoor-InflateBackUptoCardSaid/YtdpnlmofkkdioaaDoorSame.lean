/- The comparison of two slices of bytes. -/
import Derived.Test.YtdpnlmofkkdioaaDoorWords
namespace Go.Proofs.YtdpnlmofkkdioaaDoor.W
set_option linter.unusedVariables false
set_option linter.unusedSimpArgs false
open Go.RowKit

theorem take_snoc' {α : Type} {l : List α} {k : Nat} {x : α} (h : l[k]? = some x) : l.take (k + 1) = l.take k ++ [x] := by
  obtain ⟨h1, h2⟩ := List.getElem?_eq_some_iff.1 h
  rw [List.take_succ_eq_append_getElem h1, h2]
theorem ne_at {α : Type} {l l2 : List α} {k : Nat} {x y : α} (h : l[k]? = some x) (h2 : l2[k]? = some y) (hxy : x ≠ y) : l ≠ l2 := fun e => by
  subst e
  rw [h] at h2
  injection h2 with h2
  exact hxy h2
def SameIs (w : World) (b : Bool) (e : Ending) (w' : World) : Prop := e = .returned (.bool b) ∧ ∃ d, w' = w.drewN d

set_option maxHeartbeats 1000000 in
set_option maxRecDepth 100000 in
theorem c_same (A A2 : Option Addr) (n m c c2 : Nat) (l l2 : List Int) (w : World) (hl : l.length = n) (hm : l2.length = m) (hn : n ≤ 140737488355328) (hm2 : m ≤ 140737488355328) (hr : RB w A l) (hr2 : RB w A2 l2) :
    Calls Tryd.prog 12 #[.slice A n c, .slice A2 m c2] w (SameIs w (decide (l = l2))) := by
  have HC := Lib.hid hr
  have HC2 := Lib.hid hr2
  have HL := Lib.hid hl
  have HL2 := Lib.hid hm
  clear hr hr2 hl hm
  by_cases hnm : n = m
  · subst hnm
    go_enter Tryd.func12, Tryd.ntmps12
    go_wp2
    go_loopg [5] n (fun g t wx => ∃ k d : Nat, k + g = n ∧ t = .int .i64 k ∧ wx = w.drewN d ∧ Hid (l.take k = l2.take k))
    case atStart => exact ⟨0, 0, by omega, rfl, rfl, Lib.hid rfl⟩
    case round =>
      obtain ⟨k, d, hkg, rfl, rfl, hT⟩ := hrel
      cases gk with
      | zero =>
        obtain rfl : k = n := by omega
        have hk : ¬ (k : Int) < (k : Int) := by omega
        have he : decide (l = l2) = true := by
          have h := hT.out
          rw [List.take_of_length_le (by rw [HL.out]; exact Nat.le_refl _), List.take_of_length_le (by rw [HL2.out]; exact Nat.le_refl _)] at h
          exact decT h
        have HE := Lib.hid he
        clear he
        go_wp2
        go_ret
        exact ⟨by rw [HE.out]; rfl, _, rfl⟩
      | succ g =>
        have hk : (k : Int) < (n : Int) := by omega
        obtain ⟨x, hx⟩ : ∃ x, l[k]? = some x := ⟨_, List.getElem?_eq_getElem (by rw [HL.out]; omega)⟩
        obtain ⟨y, hy⟩ : ∃ y, l2[k]? = some y := ⟨_, List.getElem?_eq_getElem (by rw [HL2.out]; omega)⟩
        obtain ⟨b, off, rfl, hb, hc⟩ := RB.get HC.out hx
        obtain ⟨b2, off2, rfl, hb2, hc2⟩ := RB.get HC2.out hy
        have HX := Lib.hid hx
        have HY := Lib.hid hy
        clear hx hy
        by_cases hxy : x = y
        · have HT := Lib.hid (show l.take (k + 1) = l2.take (k + 1) by rw [take_snoc' HX.out, take_snoc' HY.out, hT.out, hxy])
          have e1 := neF hxy
          clear hxy
          go_wp2
          go_quiet (fail)
          go_wp2
          go_roundg g
          case measure => omega
          case rel => exact ⟨k + 1, _, by omega, by go_num, rfl, HT⟩
        · have HE := Lib.hid (show decide (l = l2) = false from decF (ne_at HX.out HY.out hxy))
          have e1 := neT hxy
          clear hxy
          go_wp2
          go_quiet (fail)
          go_wp2
          go_ret
          exact ⟨by rw [HE.out]; rfl, _, World.drewN_drewN ..⟩
  · have HE := Lib.hid (show decide (l = l2) = false from decF (fun e => hnm (by rw [← HL.out, ← HL2.out, e])))
    have hnm2 : ¬ (n : Int) = (m : Int) := by omega
    clear hnm
    go_enter Tryd.func12, Tryd.ntmps12
    go_wp2
    go_ret
    exact ⟨by rw [HE.out]; rfl, 0, rfl⟩
end Go.Proofs.YtdpnlmofkkdioaaDoor.W
