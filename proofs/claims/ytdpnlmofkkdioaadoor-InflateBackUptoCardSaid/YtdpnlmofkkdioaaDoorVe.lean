/- The reference's writer: symbol; lengthSymbol, distanceSymbol. -/
import Derived.Test.YtdpnlmofkkdioaaDoorVd
namespace Go.Proofs.YtdpnlmofkkdioaaDoor.Hf
set_option linter.unusedVariables false
set_option linter.unusedSimpArgs false
open Go.RowKit Go.Proofs.YtdpnlmofkkdioaaDoor.W

theorem Tr.fw {B : Nat} {w w' : World} {p : Nat} {lens : List Nat} (h : Tr w p lens) (hf : Fw B w w') : Tr w' p lens := by
  obtain ⟨g, cs, h1, h2, h3⟩ := h.ex
  refine ⟨g, cs, hf.block p _ h1 (.inr ⟨_, _, rfl, by decide, by decide⟩), hf.block g _ h2 (.inr ⟨_, _, rfl, by decide, by decide⟩), fun i hi => ?_⟩
  obtain ⟨A, m, c, h4, h5, h6⟩ := h3 i hi
  refine ⟨A, m, c, h4, h5, fun j v hv => ?_⟩
  obtain ⟨b, xs, h7, h8, h9⟩ := h6 j v hv
  exact ⟨b, xs, h7, hf.block b _ h8 (.inr ⟨_, _, rfl, by decide, by decide⟩), h9⟩
/-- A row of a code's bits stays. -/
def Cb (w : World) (A : Option Addr) (l : List Bool) : Prop := ∀ (j : Nat) (v : Value), (bls l)[j]? = some v → ∃ (b : Nat) (xs : Array Value), A = some ⟨b, 0, none⟩ ∧ w.heap[b]? = some (.cells xs 4 (0, 0)) ∧ xs[j]? = some v
theorem Cb.fw {B : Nat} {w w' : World} {A : Option Addr} {l : List Bool} (h : Cb w A l) (hf : Fw B w w') : Cb w' A l := fun j v hv => by
  obtain ⟨b, xs, h7, h8, h9⟩ := h j v hv
  exact ⟨b, xs, h7, hf.block b _ h8 (.inr ⟨_, _, rfl, by decide, by decide⟩), h9⟩
set_option maxHeartbeats 4000000 in
set_option maxRecDepth 100000 in
theorem w_symbol (w : World) (B wb p : Nat) (lens : List Nat) (bs : List Bool) (y : Nat) (h : Wz w B wb bs) (ht : Tr w p lens) (hle : ∀ n ∈ lens, n ≤ 15) (hy : y < lens.length) (hl : bs.length ≤ 900000000000) (hll : lens.length ≤ 1000) :
    Calls Tryd.prog 57 #[.pointer (some ⟨wb, 0, none⟩), .pointer (some ⟨p, 0, none⟩), .int .i64 (y : Nat)] w (WP w B wb (bs ++ code lens y)) := by
  obtain ⟨g, cs, h1, h2, h3⟩ := ht.ex
  obtain ⟨A, m, c, h4, h5, h6⟩ := h3 y hy
  have c0 := cell_of_row w p 0 _ _ _ h1
  have cy : w.cell? ⟨g, y, none⟩ = some (.slice A m c) := (cell_of_row w g y _ _ _ h2).trans h4
  simp only [List.getElem?_toArray, List.getElem?_cons_zero] at c0
  have HCB := Lib.hid (show Cb w A (code lens y) from h6)
  have hm15 : m ≤ 15 := by rw [h5]; exact code_len15 hle hy
  have HM := Lib.hid h5
  have H := Lib.hid h
  have hyi : (y : Int) < (lens.length : Int) := by omega
  have hy0 : (0 : Int) ≤ (y : Int) := by omega
  clear h ht h1 h2 h3 h4 h5 h6
  go_enter Tryd.func57, Tryd.ntmps57
  go_wp2_with (fail)
  go_loopg [7] m (fun g s5 wx => ∃ i, i + g = m ∧ s5 = .int .i64 (i : Nat) ∧ Wz wx B wb (bs ++ (code lens y).take i) ∧ Fw B w wx)
  case atStart => exact ⟨0, by omega, rfl, by rw [List.take_zero, List.append_nil]; exact H.out, Fw.refl _ _⟩
  case round =>
    obtain ⟨i, hig, rfl, hwz, hfw⟩ := hrel
    have HW := Lib.hid hwz
    have HF := Lib.hid hfw
    clear hwz hfw
    cases gk with
    | zero =>
      obtain rfl : i = m := by omega
      have hk : ¬ (i : Int) < (i : Int) := by omega
      go_wp2_with (fail)
      refine bodyPost_end (results_none rfl _ _ _) rfl ?_
      have h9 := HW.out
      rw [List.take_of_length_le (by rw [HM.out]; exact Nat.le_refl _)] at h9
      exact ⟨rfl, h9, HF.out⟩
    | succ g =>
      have hk : (i : Int) < (m : Int) := by omega
      obtain ⟨bit, hbit⟩ : ∃ b, (code lens y)[i]? = some b := ⟨_, List.getElem?_eq_getElem (by rw [← HM.out]; omega)⟩
      obtain ⟨cb, xs, rfl, hx1, hx2⟩ := (HCB.out.fw HF.out) i (.bool bit) (by simp [bls, hbit])
      have hcb : wr.cell? ⟨cb, i, none⟩ = some (.bool bit) := (cell_of_row wr cb i _ _ _ hx1).trans hx2
      have HNX := Lib.hid (show bs ++ (code lens y).take (i + 1) = (bs ++ (code lens y).take i) ++ bitsOf 1 bit.toNat from by
        obtain ⟨h4, h5⟩ := List.getElem?_eq_some_iff.1 hbit
        rw [List.take_succ_eq_append_getElem h4, h5, List.append_assoc, bitsOf_one])
      have hlen : (bs ++ (code lens y).take i).length ≤ 1000000000000 := by rw [List.length_append, List.length_take]; omega
      clear hbit hx1 hx2
      cases bit with
      | false =>
        have CN := Lib.hid (w_number wr B wb _ 0 1 HW.out (by omega) (by omega) hlen)
        go_wp2_with (first
          | (go_at_call 38; go_must (refine CN.out.mono ?_); rintro e w5 ⟨rfl, hz5, hf5⟩))
        go_roundg g
        case measure => omega
        case rel => exact ⟨i + 1, by omega, by go_num, by rw [HNX.out]; exact hz5, HF.out.trans hf5⟩
      | true =>
        have CN := Lib.hid (w_number wr B wb _ 1 1 HW.out (by omega) (by omega) hlen)
        go_wp2_with (first
          | (go_at_call 38; go_must (refine CN.out.mono ?_); rintro e w5 ⟨rfl, hz5, hf5⟩))
        go_roundg g
        case measure => omega
        case rel => exact ⟨i + 1, by omega, by go_num, by rw [HNX.out]; exact hz5, HF.out.trans hf5⟩

theorem find_first {n y : Nat} {p : Nat → Bool} (h : ∀ j, j < y → p j = false) (hy : p y = true) (hn : y < n) : (List.range n).find? p = some y := by
  rw [List.find?_range_eq_some]
  exact ⟨hy, by simpa using hn, fun j hj => by rw [h j hj]; rfl⟩
theorem find_no {n : Nat} {p : Nat → Bool} (h : ∀ j, j < n → p j = false) : (List.range n).find? p = none := by
  rw [List.find?_eq_none]
  intro j hj
  rw [h j (by simpa using hj)]
  simp
def Tup3 (w : World) (a b c : Nat) (e : Ending) (w' : World) : Prop := e = .returned (.tuple #[.int .i64 (a : Nat), .int .i64 (b : Nat), .int .i64 (c : Nat)]) ∧ w = w'
set_option maxHeartbeats 4000000 in
set_option maxRecDepth 100000 in
theorem w_lsym (w : World) (n : Nat) (h3 : 3 ≤ n) (h258 : n ≤ 258) : Calls Tryd.prog 58 #[.int .i64 (n : Nat)] w (Tup3 w (257 + lsy n) (n - lL.getD (lsy n) 0) (mL.getD (lsy n) 0)) := by
  go_enter Tryd.func58, Tryd.ntmps58
  go_wp2_with (fail)
  go_loopg [5] 28 (fun g s5 wx => ∃ y T : Nat, y + g = 28 ∧ T = 257 + y ∧ s5 = .int .i64 (T : Nat) ∧ w = wx ∧ Hid (∀ j, j < y → decide (n < lL.getD j 0 + 2 ^ mL.getD j 0 ∧ n ≠ 258) = false))
  case atStart => exact ⟨0, 257, by omega, rfl, rfl, rfl, Lib.hid (fun j hj => by omega)⟩
  case round =>
    obtain ⟨y, T, hyg, hT, rfl, rfl, hno⟩ := hrel
    have hT2 : (T : Int) = 257 + (y : Int) := by omega
    have HT := Lib.hid hT
    clear hT hT2
    have hTl : T ≤ 285 := by have := HT.out; omega
    cases gk with
    | zero =>
      obtain rfl : y = 28 := by omega
      have hk : ¬ (T : Int) < 285 := by have := HT.out; omega
      have HE := Lib.hid (show lsy n = 28 from by unfold lsy; rw [find_no hno.out]; rfl)
      have hn258 : n = 258 := by
        have := (lsy_ok h3 h258).2.1
        rw [HE.out] at this
        have e : lL.getD 28 0 = 258 := rfl
        omega
      have HN := Lib.hid hn258
      clear hn258
      go_wp2_with (fail)
      go_ret3
      rw [HE.out, HN.out]
      exact ⟨rfl, rfl⟩
    | succ g =>
      have hk : (T : Int) < 285 := by have := HT.out; omega
      have cB := r_lbase w y (by omega)
      unfold BaseIs at cB
      rw [← HT.out] at cB
      obtain ⟨q1, q2⟩ := lL_le ⟨y, by omega⟩
      dsimp only at q1 q2
      obtain ⟨a, ha⟩ : ∃ a, lL.getD y 0 = a := ⟨_, rfl⟩
      obtain ⟨b, hb⟩ : ∃ b, mL.getD y 0 = b := ⟨_, rfl⟩
      rw [ha, hb] at cB
      rw [ha] at q1
      rw [hb] at q2
      have CB := Lib.hid cB
      have hp : 2 ^ b ≤ 2 ^ 5 := Nat.pow_le_pow_right (by omega) q2
      obtain ⟨P, hP⟩ : ∃ P : Nat, 2 ^ b = P := ⟨_, rfl⟩
      have e0 : ((2 : Int) ^ b) = (P : Int) := by rw [← hP]; push_cast; rfl
      rw [hP, show (2 : Nat) ^ 5 = 32 by decide] at hp
      by_cases hc : n < a + P ∧ n ≠ 258
      · have HE := Lib.hid (show lsy n = y from by unfold lsy; rw [find_first hno.out (by rw [ha, hb, hP]; exact decide_eq_true hc) (by omega)]; rfl)
        have HA := Lib.hid (show a ≤ n from by have := (lsy_ok h3 h258).2.1; rw [HE.out, ha] at this; exact this)
        have HAB := Lib.hid (show lL.getD y 0 = a ∧ mL.getD y 0 = b from ⟨ha, hb⟩)
        have i1 : (n : Int) < (a : Int) + (P : Int) := by omega
        have i2 : ((n : Int) != 258) = true := W.neT (by omega)
        have i3 : ((n : Int) == 258) = false := W.eqF (by omega)
        have han := HA.out
        clear hc ha hb hP
        go_wp2_with (first
          | (go_at_call 64; go_must (refine CB.out.mono ?_); rintro e w2 ⟨rfl, rfl⟩))
        go_ret3
        rw [HE.out, HAB.out.1, HAB.out.2, ← HT.out]
        exact ⟨by show Ending.returned (.tuple #[.int .i64 (T : Nat), .int .i64 ((n : Int) - (a : Int)), .int .i64 (b : Nat)]) = _; rw [show ((n : Int) - (a : Int)) = ((n - a : Nat) : Int) by omega], rfl⟩
      · have HNO := Lib.hid (show ∀ j, j < y + 1 → decide (n < lL.getD j 0 + 2 ^ mL.getD j 0 ∧ n ≠ 258) = false from fun j hj => by
          rcases Nat.lt_succ_iff_lt_or_eq.1 hj with h | rfl
          · exact hno.out j h
          · rw [ha, hb, hP]; exact decide_eq_false hc)
        have hc2 : ¬ n < a + P ∨ n = 258 := by omega
        clear hc ha hb hP
        rcases hc2 with hc | hc
        · have i1 : ¬ (n : Int) < (a : Int) + (P : Int) := by omega
          go_wp2_with (first
            | (go_at_call 64; go_must (refine CB.out.mono ?_); rintro e w2 ⟨rfl, rfl⟩))
          go_roundg g
          case measure => omega
          case rel => exact ⟨y + 1, T + 1, by omega, by have := HT.out; omega, by go_num, rfl, HNO⟩
        · have HN := Lib.hid hc
          have i2 : ((n : Int) != 258) = false := W.neF (by omega)
          have i3 : ((n : Int) == 258) = true := W.eqT (by omega)
          clear hc
          by_cases hlt : n < a + P
          · have i1 : (n : Int) < (a : Int) + (P : Int) := by omega
            clear hlt
            go_wp2_with (first
              | (go_at_call 64; go_must (refine CB.out.mono ?_); rintro e w2 ⟨rfl, rfl⟩))
            go_roundg g
            case measure => omega
            case rel => exact ⟨y + 1, T + 1, by omega, by have := HT.out; omega, by go_num, rfl, HNO⟩
          · have i1 : ¬ (n : Int) < (a : Int) + (P : Int) := by omega
            clear hlt
            go_wp2_with (first
              | (go_at_call 64; go_must (refine CB.out.mono ?_); rintro e w2 ⟨rfl, rfl⟩))
            go_roundg g
            case measure => omega
            case rel => exact ⟨y + 1, T + 1, by omega, by have := HT.out; omega, by go_num, rfl, HNO⟩
set_option maxHeartbeats 4000000 in
set_option maxRecDepth 100000 in
theorem w_dsym (w : World) (n : Nat) (h1 : 1 ≤ n) (h200 : n ≤ 200) : Calls Tryd.prog 59 #[.int .i64 (n : Nat)] w (Tup3 w (dsy n) (n - lB.getD (dsy n) 0) (mB.getD (dsy n) 0)) := by
  go_enter Tryd.func59, Tryd.ntmps59
  go_wp2_with (fail)
  go_loopg [5] 15 (fun g s5 wx => ∃ y : Nat, y + g = 15 ∧ s5 = .int .i64 (y : Nat) ∧ w = wx ∧ Hid (∀ j, j < y → decide (n < lB.getD j 0 + 2 ^ mB.getD j 0) = false))
  case atStart => exact ⟨0, by omega, rfl, rfl, Lib.hid (fun j hj => by omega)⟩
  case round =>
    obtain ⟨y, hyg, rfl, rfl, hno⟩ := hrel
    have cB := r_dbase w y (by omega)
    unfold BaseIs at cB
    obtain ⟨q1, q2⟩ := lB_le ⟨y, by omega⟩
    dsimp only at q1 q2
    obtain ⟨a, ha⟩ : ∃ a, lB.getD y 0 = a := ⟨_, rfl⟩
    obtain ⟨b, hb⟩ : ∃ b, mB.getD y 0 = b := ⟨_, rfl⟩
    rw [ha, hb] at cB
    rw [ha] at q1
    rw [hb] at q2
    have CB := Lib.hid cB
    have hp : 2 ^ b ≤ 2 ^ 13 := Nat.pow_le_pow_right (by omega) q2
    obtain ⟨P, hP⟩ : ∃ P : Nat, 2 ^ b = P := ⟨_, rfl⟩
    have e0 : ((2 : Int) ^ b) = (P : Int) := by rw [← hP]; push_cast; rfl
    rw [hP, show (2 : Nat) ^ 13 = 8192 by decide] at hp
    by_cases hc : n < a + P
    · have HE := Lib.hid (show dsy n = y from by unfold dsy; rw [find_first hno.out (by rw [ha, hb, hP]; exact decide_eq_true hc) (by omega)]; rfl)
      have HA := Lib.hid (show a ≤ n from by have := (dsy_ok h1 h200).2.1; rw [HE.out, ha] at this; exact this)
      have HAB := Lib.hid (show lB.getD y 0 = a ∧ mB.getD y 0 = b from ⟨ha, hb⟩)
      have i1 : (n : Int) < (a : Int) + (P : Int) := by omega
      have han := HA.out
      clear hc ha hb hP
      go_wp2_with (first
        | (go_at_call 65; go_must (refine CB.out.mono ?_); rintro e w2 ⟨rfl, rfl⟩))
      go_ret3
      rw [HE.out, HAB.out.1, HAB.out.2]
      exact ⟨by show Ending.returned (.tuple #[.int .i64 (y : Nat), .int .i64 ((n : Int) - (a : Int)), .int .i64 (b : Nat)]) = _; rw [show ((n : Int) - (a : Int)) = ((n - a : Nat) : Int) by omega], rfl⟩
    · have HNO := Lib.hid (show ∀ j, j < y + 1 → decide (n < lB.getD j 0 + 2 ^ mB.getD j 0) = false from fun j hj => by
        rcases Nat.lt_succ_iff_lt_or_eq.1 hj with h | rfl
        · exact hno.out j h
        · rw [ha, hb, hP]; exact decide_eq_false hc)
      have i1 : ¬ (n : Int) < (a : Int) + (P : Int) := by omega
      cases gk with
      | zero =>
        exfalso
        obtain rfl : y = 15 := by omega
        have e1 : lB.getD 15 0 = 193 := rfl
        have e2 : mB.getD 15 0 = 6 := rfl
        rw [e1] at ha
        rw [e2] at hb
        subst ha hb
        have : (2 : Nat) ^ 6 = 64 := by decide
        omega
      | succ g =>
        clear hc ha hb hP
        go_wp2_with (first
          | (go_at_call 65; go_must (refine CB.out.mono ?_); rintro e w2 ⟨rfl, rfl⟩))
        go_roundg g
        case measure => omega
        case rel => exact ⟨y + 1, by omega, by go_num, rfl, HNO⟩
end Go.Proofs.YtdpnlmofkkdioaaDoor.Hf
