/- Report: kind, value, words. -/
import Derived.Test.YtgjningfpkoooaaDoorQd
import Derived.Test.YtgjningfpkoooaaDoorQc
import Derived.Test.YtgjningfpkoooaaDoorOj
namespace Go.Proofs.YtgjningfpkoooaaDoor.Ro
set_option linter.unusedVariables false
set_option linter.unusedSimpArgs false
open Go.RowKit Go.Proofs.YtgjningfpkoooaaDoor.W

theorem str_eqb (w k : List UInt8) {S : ByteArray} (hS : (⟨w.toArray⟩ : ByteArray) = S) : (S.toList == k) = decide (w = k) := by
  subst hS
  rw [ByteArray.toList_eq]
  show (w.toArray.toList == k) = _
  rw [List.toList_toArray]
  cases h : decide (w = k) with
  | true => rw [decide_eq_true_eq] at h; rw [h]; simp
  | false => rw [decide_eq_false_iff_not] at h; exact beq_eq_false_iff_ne.2 h
def KindIs (w : World) (ws : List (List UInt8)) (e : Ending) (w' : World) : Prop := e = .returned (.int .i64 (kindW ws : Nat)) ∧ w' = w
theorem strs_at {w : World} {bk : Nat} {ws : List (List UInt8)} (hr : RV w (some ⟨bk, 0, none⟩) (strs ws)) {i : Nat} (hi : i < ws.length) : w.cell? ⟨bk, i, none⟩ = some (.string ⟨(ws.getD i []).toArray⟩) ∧ bk < w.heap.size := by
  obtain ⟨b, off, h1, h2, h3⟩ := hr i (.string ⟨(ws.getD i []).toArray⟩) (by
    unfold strs
    rw [List.getElem?_map, List.getD_eq_getElem?_getD, List.getElem?_eq_getElem hi]
    rfl)
  injection h1 with h1
  injection h1 with h1 h4
  subst h1 h4
  rw [Nat.zero_add] at h3
  exact ⟨h3, h2⟩
set_option maxHeartbeats 4000000 in
set_option maxRecDepth 100000 in
theorem c_kind (bk n c : Nat) (ws : List (List UInt8)) (w : World) (hr : RV w (some ⟨bk, 0, none⟩) (strs ws)) (hn : ws.length = n) (h0 : 0 < n) : Calls Tryd.prog 45 #[.slice (some ⟨bk, 0, none⟩) n c] w (KindIs w ws) := by
  obtain ⟨c0, hlt⟩ := strs_at hr (i := 0) (by omega)
  obtain ⟨S, hS⟩ : ∃ S : ByteArray, (⟨(ws.getD 0 []).toArray⟩ : ByteArray) = S := ⟨_, rfl⟩
  have e1 := str_eqb _ hitW hS
  have e2 := str_eqb _ whyW hS
  unfold hitW at e1
  unfold whyW at e2
  rw [hS] at c0
  have HN := Lib.hid hn
  have hn0 : (0 : Int) < (n : Int) := by omega
  clear hS hr hn
  have walk : ∀ k : Nat, kindW ws = k → (((S.toList == [104, 105, 116]) = true ∧ ((n : Int) == 4) = true ∧ k = 1) ∨ (((S.toList == [104, 105, 116]) = true ∧ ((n : Int) == 4) = false ∨ (S.toList == [104, 105, 116]) = false) ∧ ((((S.toList == [119, 104, 121]) = true ∧ ((n : Int) == 3) = true) ∧ k = 2) ∨ (((S.toList == [119, 104, 121]) = true ∧ ((n : Int) == 3) = false ∨ (S.toList == [119, 104, 121]) = false) ∧ k = 0)))) →
      Calls Tryd.prog 45 #[.slice (some ⟨bk, 0, none⟩) n c] w (KindIs w ws) := by
    intro k hk h
    have HK := Lib.hid hk
    clear hk e1 e2
    rcases h with ⟨b1, i4, rfl⟩ | ⟨h1, h2⟩
    · go_enter Tryd.func45, Tryd.ntmps45
      go_wp2_with (fail)
      go_ret
      exact ⟨by rw [HK.out]; rfl, rfl⟩
    · rcases h1 with ⟨b1, i4⟩ | b1
      all_goals rcases h2 with ⟨⟨b2, i3⟩, rfl⟩ | ⟨⟨b2, i3⟩ | b2, rfl⟩
      all_goals go_enter Tryd.func45, Tryd.ntmps45
      all_goals go_wp2_with (fail)
      all_goals go_ret
      all_goals exact ⟨by rw [HK.out]; rfl, rfl⟩
  refine walk _ rfl ?_
  have d1 : (S.toList == [104, 105, 116]) = decide (ws.getD 0 [] = hitW) := by rw [e1]; rfl
  have d2 : (S.toList == [119, 104, 121]) = decide (ws.getD 0 [] = whyW) := by rw [e2]; rfl
  rw [d1, d2]
  have hlen := HN.out
  unfold kindW
  by_cases hh : ws.getD 0 [] = hitW
  · have hw : ¬ ws.getD 0 [] = whyW := by rw [hh]; decide
    by_cases h4 : n = 4
    · left
      exact ⟨decide_eq_true hh, W.eqT (by omega), by rw [if_pos ⟨hh, by omega⟩]⟩
    · right
      refine ⟨.inl ⟨decide_eq_true hh, W.eqF (by omega)⟩, .inr ⟨.inr (decide_eq_false hw), ?_⟩⟩
      rw [if_neg (fun h => h4 (by omega)), if_neg (fun h => hw h.1)]
  · right
    refine ⟨.inr (decide_eq_false hh), ?_⟩
    by_cases hw : ws.getD 0 [] = whyW
    · by_cases h3 : n = 3
      · exact .inl ⟨⟨decide_eq_true hw, W.eqT (by omega)⟩, by rw [if_neg (fun h => hh h.1), if_pos ⟨hw, by omega⟩]⟩
      · exact .inr ⟨.inl ⟨decide_eq_true hw, W.eqF (by omega)⟩, by rw [if_neg (fun h => hh h.1), if_neg (fun h => h3 (by omega))]⟩
    · exact .inr ⟨.inr (decide_eq_false hw), by rw [if_neg (fun h => hh h.1), if_neg (fun h => hw h.1)]⟩
/-! ### a number's value -/
def ValIs (w : World) (s : List UInt8) (e : Ending) (w' : World) : Prop := e = .returned (.tuple #[.int .i64 ((valN s).getD 0 : Nat), .bool (valN s).isSome]) ∧ Below w.heap.size w w'
theorem slash_data (s : ByteArray) : ((⟨#[47]⟩ : ByteArray) ++ s).data.toList = 47 :: s.data.toList := by simp
theorem valN_none {s : List UInt8} (h : parseP (47 :: s) = none) : valN s = none := by unfold valN; rw [h]
theorem valN_many {s : List UInt8} {l : List Nat} (h : parseP (47 :: s) = some l) (hl : l.length ≠ 1) : valN s = none := by
  unfold valN
  rw [h]
  rcases l with _ | ⟨a, _ | ⟨b, l⟩⟩
  · rfl
  · exact absurd rfl hl
  · rfl
theorem valN_one {s : List UInt8} {u : Nat} (h : parseP (47 :: s) = some [u]) : valN s = some u := by unfold valN; rw [h]
set_option maxHeartbeats 4000000 in
set_option maxRecDepth 100000 in
theorem c_value (s : ByteArray) (w : World) (hs : s.size ≤ 1000000000) (hG : Gw w) : Calls Tryd.prog 64 #[.string s] w (ValIs w s.data.toList) := by
  obtain ⟨X, hX⟩ : ∃ X, (⟨#[47]⟩ : ByteArray) ++ s = X := ⟨_, rfl⟩
  have hXs : X.data.toList = 47 :: s.data.toList := by rw [← hX]; exact slash_data s
  have hXn : X.size ≤ 1048576000 := by rw [← hX, ByteArray.size_append]; have : (⟨#[47]⟩ : ByteArray).size = 1 := rfl; omega
  have C1 := Lib.hid (c_parse X w hXn hG)
  have HXS := Lib.hid hXs
  have HX := Lib.hid hX
  have z1 : s.size ≤ 1000000000 := hs
  clear hX hXs hXn
  cases hp : parseP X.data.toList with
  | none =>
    have HP := Lib.hid hp
    have HV := Lib.hid (valN_none (by rw [← HXS.out]; exact hp))
    clear hp
    go_enter Tryd.func64, Tryd.ntmps64
    go_wp2_with (first
      | (go_at_call 14; go_must (rw [HX.out]; refine C1.out.mono ?_); rintro e w1 ⟨A, n, c, he, hb, hn, ho⟩; rw [HP.out] at he; subst he; have HB1 := Lib.hid hb; clear hb hn ho))
    go_ret2
    refine ⟨?_, HB1.out⟩
    rw [HV.out]
    rfl
  | some l =>
    by_cases hl : l.length = 1
    · obtain ⟨u, rfl⟩ : ∃ u, l = [u] := by
        rcases l with _ | ⟨a, _ | ⟨b, l⟩⟩
        · cases hl
        · exact ⟨a, rfl⟩
        · simp at hl
      have HP := Lib.hid hp
      have HV := Lib.hid (valN_one (by rw [← HXS.out]; exact hp))
      clear hp hl
      go_enter Tryd.func64, Tryd.ntmps64
      go_wp2_with (first
        | (go_at_call 14; go_must (rw [HX.out]; refine C1.out.mono ?_); rintro e w1 ⟨A, n, c, he, hb, hn, ho⟩; rw [HP.out] at he hn ho; obtain rfl : 1 = n := hn; obtain ⟨b0, h1, h2, _, h4⟩ := rv_own ho 0 (.int .i64 (u : Nat)) rfl; subst h1; subst he; have HB1 := Lib.hid hb; clear hb ho))
      go_ret2
      refine ⟨?_, HB1.out⟩
      rw [HV.out]
      rfl
    · have HP := Lib.hid hp
      have HV := Lib.hid (valN_many (by rw [← HXS.out]; exact hp) hl)
      have HL := Lib.hid hl
      clear hp hl
      go_enter Tryd.func64, Tryd.ntmps64
      go_wp2_with (first
        | (go_at_call 14; go_must (rw [HX.out]; refine C1.out.mono ?_); rintro e w1 ⟨A, n, c, he, hb, hn, ho⟩; rw [HP.out] at he hn; subst he; have HB1 := Lib.hid hb; have i1 : ((n : Int) != 1) = true := W.neT (by have h := HL.out; have h2 : l.length = n := hn; omega); clear hb hn ho))
      go_ret2
      refine ⟨?_, HB1.out⟩
      rw [HV.out]
      rfl
set_option maxHeartbeats 4000000 in
set_option maxRecDepth 100000 in
theorem r_value (s : ByteArray) (w : World) (hs : s.size ≤ 1000000000) : Calls Tryd.prog 49 #[.string s] w (ValIs w s.data.toList) := by
  obtain ⟨X, hX⟩ : ∃ X, (⟨#[47]⟩ : ByteArray) ++ s = X := ⟨_, rfl⟩
  have hXs : X.data.toList = 47 :: s.data.toList := by rw [← hX]; exact slash_data s
  have hXn : X.size ≤ 1048576000 := by rw [← hX, ByteArray.size_append]; have : (⟨#[47]⟩ : ByteArray).size = 1 := rfl; omega
  have C1 := Lib.hid (r_parse X w hXn)
  have HXS := Lib.hid hXs
  have HX := Lib.hid hX
  have z1 : s.size ≤ 1000000000 := hs
  clear hX hXs hXn
  cases hp : parseP X.data.toList with
  | none =>
    have HP := Lib.hid hp
    have HV := Lib.hid (valN_none (by rw [← HXS.out]; exact hp))
    clear hp
    go_enter Tryd.func49, Tryd.ntmps49
    go_wp2_with (first
      | (go_at_call 15; go_must (rw [HX.out]; refine C1.out.mono ?_); rintro e w1 ⟨A, n, c, he, hb, hn, ho⟩; rw [HP.out] at he; subst he; have HB1 := Lib.hid hb; clear hb hn ho))
    go_ret2
    refine ⟨?_, HB1.out⟩
    rw [HV.out]
    rfl
  | some l =>
    by_cases hl : l.length = 1
    · obtain ⟨u, rfl⟩ : ∃ u, l = [u] := by
        rcases l with _ | ⟨a, _ | ⟨b, l⟩⟩
        · cases hl
        · exact ⟨a, rfl⟩
        · simp at hl
      have HP := Lib.hid hp
      have HV := Lib.hid (valN_one (by rw [← HXS.out]; exact hp))
      clear hp hl
      go_enter Tryd.func49, Tryd.ntmps49
      go_wp2_with (first
        | (go_at_call 15; go_must (rw [HX.out]; refine C1.out.mono ?_); rintro e w1 ⟨A, n, c, he, hb, hn, ho⟩; rw [HP.out] at he hn ho; obtain rfl : 1 = n := hn; obtain ⟨b0, h1, h2, _, h4⟩ := rv_own ho 0 (.int .i64 (u : Nat)) rfl; subst h1; subst he; have HB1 := Lib.hid hb; clear hb ho))
      go_ret2
      refine ⟨?_, HB1.out⟩
      rw [HV.out]
      rfl
    · have HP := Lib.hid hp
      have HV := Lib.hid (valN_many (by rw [← HXS.out]; exact hp) hl)
      have HL := Lib.hid hl
      clear hp hl
      go_enter Tryd.func49, Tryd.ntmps49
      go_wp2_with (first
        | (go_at_call 15; go_must (rw [HX.out]; refine C1.out.mono ?_); rintro e w1 ⟨A, n, c, he, hb, hn, ho⟩; rw [HP.out] at he hn; subst he; have HB1 := Lib.hid hb; have i1 : ((n : Int) != 1) = true := W.neT (by have h := HL.out; have h2 : l.length = n := hn; omega); clear hb hn ho))
      go_ret2
      refine ⟨?_, HB1.out⟩
      rw [HV.out]
      rfl
end Go.Proofs.YtgjningfpkoooaaDoor.Ro
