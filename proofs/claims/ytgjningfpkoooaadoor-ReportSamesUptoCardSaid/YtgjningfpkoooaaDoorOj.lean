/- winkleref20: Parse. -/
import Derived.Test.YtgjningfpkoooaaDoorOi
namespace Go.Proofs.YtgjningfpkoooaaDoor.Ro
set_option linter.unusedVariables false
set_option linter.unusedSimpArgs false
open Go.RowKit Go.Proofs.YtgjningfpkoooaaDoor.W

def flat (p : List Nat) : List UInt8 := p.flatMap fun n => 47 :: Lib.decDigits n
theorem flat_snoc (p : List Nat) (v : Nat) : flat (p ++ [v]) = flat p ++ 47 :: Lib.decDigits v := by unfold flat; rw [List.flatMap_append]; simp
theorem txt_flat {p : List Nat} (h : p ≠ []) : txt p = flat p := by
  cases p with
  | nil => exact absurd rfl h
  | cons => rfl
theorem sp_47 (x : List UInt8) : sp (47 :: x) = [] :: sp x := by
  conv => lhs; unfold sp
  rw [if_pos rfl]
theorem sp_flat2 : ∀ (p : List Nat) (r : List UInt8), sp (flat p ++ 47 :: r) = [] :: (p.map Lib.decDigits ++ sp r)
  | [], r => by show sp (47 :: r) = _; simp [sp]
  | n :: p, r => by
    have ih := sp_flat2 p r
    have h1 := sp_word (Lib.decDigits n) _ (dec_no47 n) _ _ ih
    show sp ((47 :: Lib.decDigits n ++ flat p) ++ 47 :: r) = _
    rw [List.cons_append, List.cons_append, List.append_assoc]
    rw [sp_47, h1]
    simp
theorem txt_chars (q : List Nat) : ∀ c ∈ txt q, isD c ∨ c = 47 := by
  intro c hc
  cases q with
  | nil => exact .inr (List.mem_singleton.1 hc)
  | cons n q =>
    have h2 : c ∈ (n :: q).flatMap fun n => 47 :: Lib.decDigits n := hc
    obtain ⟨m, _, h3⟩ := List.mem_flatMap.1 h2
    rcases List.mem_cons.1 h3 with h | h
    · exact .inr h
    · exact .inl (dec_isD m c h)
theorem parse_bad {s : List UInt8} {c : UInt8} (hc : c ∈ s) (h1 : ¬ isD c) (h2 : c ≠ 47) : parseP s = none := by
  cases hp : parseP s with
  | none => rfl
  | some q =>
    obtain ⟨rfl, _⟩ := (parseP_iff s q).1 hp
    rcases txt_chars q c hc with h | h
    · exact absurd h h1
    · exact absurd h h2
theorem parse_head {s : List UInt8} (h : ∀ r, s ≠ 47 :: r) : parseP s = none := by
  cases hp : parseP s with
  | none => rfl
  | some q =>
    obtain ⟨rfl, _⟩ := (parseP_iff s q).1 hp
    cases q with
    | nil => exact absurd rfl (h [])
    | cons n q => exact absurd rfl (h _)
theorem parse_word {s : List UInt8} {p : List Nat} {r v : List UInt8} {vs : List (List UInt8)} (hs : s = flat p ++ 47 :: r) (hr : sp r = v :: vs) (hv : valOf v = none) (h1 : s ≠ [47]) : parseP s = none := by
  unfold parseP
  rw [hs, sp_flat2]
  dsimp only
  rw [if_neg (by rw [hr]; simp), ← hs, if_neg h1, hr]
  exact mapM_bad (i := p.length) (by simp) hv
theorem parse_pre {s : List UInt8} {p : List Nat} {w r : List UInt8} (hs : s = flat p ++ 47 :: (w ++ r)) (hw : ∀ c ∈ w, c ≠ 47) (hv : ∀ x, valOf (w ++ x) = none) (h1 : s ≠ [47]) : parseP s = none := by
  cases hr : sp r with
  | nil => exact absurd hr (sp_ne r)
  | cons v vs => exact parse_word hs (sp_word w r hw v vs hr) (hv v) h1
theorem val_zero {w : List UInt8} (hw : ∃ c r, w = c :: r ∧ c.toNat = 48 ∧ r ≠ []) (x : List UInt8) : valOf (w ++ x) = none := by
  cases hv : valOf (w ++ x) with
  | none => rfl
  | some u =>
    obtain ⟨h1, _⟩ := (valOf_iff _ u).1 hv
    obtain ⟨c, r, rfl, hc, hr⟩ := hw
    rcases Nat.eq_zero_or_pos u with h0 | h0
    · subst h0
      have h2 := congrArg List.length h1
      have h3 : (Lib.decDigits 0).length = 1 := by rw [dec_step, if_pos (by omega)]; rfl
      rw [h3] at h2
      cases r with
      | nil => exact absurd rfl hr
      | cons => simp at h2
    · exact absurd hc (dec_head u h0 c (r ++ x) (by rw [← h1]; rfl))
theorem val_big {w : List UInt8} (hb : top < num 0 w) (x : List UInt8) : valOf (w ++ x) = none := by
  cases hv : valOf (w ++ x) with
  | none => rfl
  | some u =>
    obtain ⟨h1, h2⟩ := (valOf_iff _ u).1 hv
    have h3 := num_dec u
    rw [← h1, num_app] at h3
    have := num_ge x (num 0 w)
    omega
theorem val_nil : valOf [] = none := rfl
theorem ba_get {s : ByteArray} {i : Nat} {c : UInt8} (h : s.data.toList[i]? = some c) (hi : i < s.size) : s[i]'hi = c := by
  obtain ⟨h1, h2⟩ := List.getElem?_eq_some_iff.1 h
  rw [← h2]
  exact (Array.getElem_toList _).symm
set_option maxHeartbeats 8000000 in
set_option maxRecDepth 100000 in
theorem r_parse (s : ByteArray) (w : World) (hs : s.size ≤ 1048576000) :
    Calls Tryd.prog 15 #[.string s] w (ParseIs w s.data.toList) := by
  have NON : ∀ (wx : World), Below w.heap.size w wx → parseP s.data.toList = none → ParseIs w s.data.toList (.returned (.tuple #[.slice none 0 0, .bool false])) wx := fun wx hb hn => ⟨none, 0, 0, by rw [hn]; rfl, hb, by rw [hn]; rfl, by rw [hn]; exact World.ownsRow_nil _ _ _ _⟩
  by_cases hs1 : s.data.toList = [47]
  · have he2 : (s.toList == [47]) = true := by rw [ByteArray.toList_eq, hs1]; rfl
    have HP := Lib.hid (show parseP s.data.toList = some [] by rw [hs1]; rfl)
    clear hs1
    go_enter Tryd.func15, Tryd.ntmps15
    go_wp2_with (fail)
    go_ret2
    exact ⟨none, 0, 0, by rw [HP.out]; rfl, Below.refl _ _, by rw [HP.out]; rfl, by rw [HP.out]; exact World.ownsRow_nil _ _ _ _⟩
  · have he2 : (s.toList == [47]) = false := by rw [ByteArray.toList_eq]; exact beq_eq_false_iff_ne.2 hs1
    have HS1 := Lib.hid hs1
    obtain ⟨N, hN⟩ : ∃ N, s.size = N := ⟨_, rfl⟩
    have HN := Lib.hid (show s.data.toList.length = N by rw [← Lib.size_eq]; exact hN)
    rw [hN] at hs
    clear hs1
    go_enter Tryd.func15, Tryd.ntmps15
    go_upto_block 0 with (fail)
    go_cut [4] (fun s4 wz => ∃ (A : Option Addr) (c : Nat) (p : List Nat) (m : Nat), s4 = .slice A m c ∧ Hid (p.length = m ∧ wz.ownsRow w.heap.size 3 1 (.slice A m c) m (ints p) ∧ Below w.heap.size w wz ∧ s.data.toList = flat p ∧ (∀ n ∈ p, n ≤ top)))
    case first =>
      go_wp2_with (fail)
      go_loopg [4, 5] N (fun g s4 s5 wx => ∃ (i : Nat) (A : Option Addr) (c : Nat) (p : List Nat) (m : Nat), i + g = N ∧ s5 = .int .i64 (i : Nat) ∧ s4 = .slice A m c ∧ m ≤ i ∧ Hid (p.length = m ∧ wx.ownsRow w.heap.size 3 1 (.slice A m c) m (ints p) ∧ Below w.heap.size w wx ∧ s.data.toList = flat p ++ s.data.toList.drop i ∧ (∀ n ∈ p, n ≤ top) ∧ (∀ ch, s.data.toList[i]? = some ch → p = [] ∨ ¬ isD ch)))
      case atStart => exact ⟨0, none, 0, [], 0, by omega, rfl, rfl, by omega, Lib.hid ⟨rfl, World.ownsRow_nil _ _ _ _, Below.refl _ _, rfl, fun n hn => (by cases hn), fun _ _ => .inl rfl⟩⟩
      case round =>
        obtain ⟨i, A, c, p, m, hig, rfl, rfl, hmi, hst⟩ := hrel
        cases gk with
        | zero =>
          obtain rfl : i = N := by omega
          have hk : ¬ (i : Int) < (i : Int) := by omega
          go_wp2_with (fail)
          go_meet
          have h9 := hst.out.2.2.2.1
          rw [List.drop_eq_nil_of_le (by rw [HN.out]; omega), List.append_nil] at h9
          exact ⟨A, c, p, m, rfl, Lib.hid ⟨hst.out.1, hst.out.2.1, hst.out.2.2.1, h9, hst.out.2.2.2.2.1⟩⟩
        | succ g =>
          have hk : (i : Int) < (N : Int) := by omega
          have hk0 : (0 : Int) ≤ (i : Int) := by omega
          obtain ⟨ch, hch⟩ : ∃ c, s.data.toList[i]? = some c := ⟨_, List.getElem?_eq_getElem (by rw [HN.out]; omega)⟩
          obtain ⟨x, hx⟩ : ∃ x, ch.toNat = x := ⟨_, rfl⟩
          have hix : (s[i]'(by omega)).toNat = x := by rw [ba_get hch]; exact hx
          have HCH := Lib.hid hch
          have HX := Lib.hid hx
          have hx256 : x < 256 := by rw [← hx]; exact ch.toNat_lt
          clear hch hx
          by_cases h47 : x = 47
          · have i1 : ((x : Int) != 47) = false := W.neF (by omega)
            obtain ⟨R, hR⟩ : ∃ R, s.data.toList.drop (i + 1) = R := ⟨_, rfl⟩
            have HR := Lib.hid hR
            have HCE := Lib.hid (show ch = 47 from by apply UInt8.toNat_inj.1; rw [HX.out, h47]; rfl)
            have HD := Lib.hid (show s.data.toList.drop i = 47 :: R by
              obtain ⟨q1, q2⟩ := List.getElem?_eq_some_iff.1 HCH.out
              rw [List.drop_eq_getElem_cons q1, q2, HCE.out, HR.out])
            have HRL := Lib.hid (show R.length + (i + 1) = N by rw [← HR.out, List.length_drop, HN.out]; omega)
            have HRG := Lib.hid (show ∀ k, R[k]? = s.data.toList[i + 1 + k]? from fun k => by rw [← HR.out, List.getElem?_drop])
            clear hR h47
            obtain ⟨F, hF⟩ : ∃ F, i + 1 = F := ⟨_, rfl⟩
            have hFi : (i : Int) + 1 = (F : Int) := by omega
            have HF := Lib.hid hF
            have hFN : F ≤ N := by omega
            clear hF
            go_upto_block 2 with (fail)
            go_cut [5, 7] (fun s5 s7 wz => ∃ (k j v : Nat), s5 = .int .i64 (j : Nat) ∧ s7 = .int .i64 (v : Nat) ∧ v ≤ 21474836479 ∧ j ≤ N ∧ Hid (j = i + 1 + k ∧ num 0 (R.take k) = v ∧ (∀ c ∈ R.take k, isD c) ∧ (v ≤ 2147483647 → ∀ c, s.data.toList[j]? = some c → ¬ isD c)) ∧ wr = wz)
            case first =>
              go_wp2_with (fail)
              go_loopg [5, 7] (N - F) (fun g s5 s7 wx => ∃ (k j v : Nat), j + g = N ∧ s5 = .int .i64 (j : Nat) ∧ s7 = .int .i64 (v : Nat) ∧ v ≤ 21474836479 ∧ Hid (j = i + 1 + k ∧ num 0 (R.take k) = v ∧ (∀ c ∈ R.take k, isD c)) ∧ wr = wx)
              case atStart => exact ⟨0, F, 0, by omega, rfl, rfl, by omega, Lib.hid ⟨HF.out.symm, by rw [List.take_zero]; rfl, fun c hc => by rw [List.take_zero] at hc; cases hc⟩, rfl⟩
              case round =>
                obtain ⟨k, j, v, hjg, rfl, rfl, hv, hin, rfl⟩ := hrel
                cases gk with
                | zero =>
                  obtain rfl : j = N := by omega
                  have hk : ¬ (j : Int) < (j : Int) := by omega
                  go_wp2_with (fail)
                  go_meet
                  exact ⟨k, j, v, rfl, rfl, hv, by omega, Lib.hid ⟨hin.out.1, hin.out.2.1, hin.out.2.2, fun _ c hc => by rw [List.getElem?_eq_none (by rw [HN.out]; omega)] at hc; cases hc⟩, rfl⟩
                | succ g =>
                  have hj : (j : Int) < (N : Int) := by omega
                  have hj0 : (0 : Int) ≤ (j : Int) := by omega
                  obtain ⟨cj, hcj⟩ : ∃ c, s.data.toList[j]? = some c := ⟨_, List.getElem?_eq_getElem (by rw [HN.out]; omega)⟩
                  obtain ⟨y, hy⟩ : ∃ x, cj.toNat = x := ⟨_, rfl⟩
                  have hjx : (s[j]'(by omega)).toNat = y := by rw [ba_get hcj]; exact hy
                  have HCJ := Lib.hid hcj
                  have HY := Lib.hid hy
                  have hy256 : y < 256 := by rw [← hy]; exact cj.toNat_lt
                  have STOP := Lib.hid (show ¬ (48 ≤ y ∧ y ≤ 57) → ∀ c, s.data.toList[j]? = some c → ¬ isD c from fun h c hc hd => by
                    rw [HCJ.out] at hc
                    injection hc with hc
                    subst hc
                    unfold isD at hd
                    rw [HY.out] at hd
                    exact h hd)
                  clear hcj hy
                  by_cases h1 : y < 48
                  · have d1 : ¬ (48 : Int) ≤ (y : Int) := by omega
                    go_wp2_with (fail)
                    go_meet
                    exact ⟨k, j, v, rfl, rfl, hv, by omega, Lib.hid ⟨hin.out.1, hin.out.2.1, hin.out.2.2, fun _ => STOP.out (by omega)⟩, rfl⟩
                  · have d1 : (48 : Int) ≤ (y : Int) := by omega
                    by_cases h2 : 57 < y
                    · have d2 : ¬ (y : Int) ≤ 57 := by omega
                      go_wp2_with (fail)
                      go_meet
                      exact ⟨k, j, v, rfl, rfl, hv, by omega, Lib.hid ⟨hin.out.1, hin.out.2.1, hin.out.2.2, fun _ => STOP.out (by omega)⟩, rfl⟩
                    · have d2 : (y : Int) ≤ 57 := by omega
                      by_cases h3 : 2147483647 < v
                      · have d3 : ¬ (v : Int) ≤ 2147483647 := by omega
                        go_wp2_with (fail)
                        go_meet
                        exact ⟨k, j, v, rfl, rfl, hv, by omega, Lib.hid ⟨hin.out.1, hin.out.2.1, hin.out.2.2, fun h => by omega⟩, rfl⟩
                      · have d3 : (v : Int) ≤ 2147483647 := by omega
                        obtain ⟨t, ht⟩ : ∃ t, y - 48 = t := ⟨_, rfl⟩
                        have d4 : (y : Int) - 48 = (t : Int) := by omega
                        obtain ⟨V, hV⟩ : ∃ V, v * 10 + t = V := ⟨_, rfl⟩
                        have d5 : 10 * (v : Int) + (t : Int) = (V : Int) := by omega
                        have hVb : V ≤ 21474836479 := by omega
                        have hin2 : (j : Int) + 1 ≤ 1048576001 := by omega
                        have HNX := Lib.hid (show j + 1 = i + 1 + (k + 1) ∧ num 0 (R.take (k + 1)) = V ∧ (∀ c ∈ R.take (k + 1), isD c) from by
                          have hrk : R[k]? = some cj := by rw [HRG.out, ← hin.out.1]; exact HCJ.out
                          obtain ⟨q1, q2⟩ := List.getElem?_eq_some_iff.1 hrk
                          refine ⟨by have := hin.out.1; omega, ?_, fun c hc => ?_⟩
                          · rw [List.take_succ_eq_append_getElem q1, q2, num_app, hin.out.2.1, num_one, HY.out, ht, hV]
                          · rw [List.take_succ_eq_append_getElem q1, q2] at hc
                            rcases List.mem_append.1 hc with h | h
                            · exact hin.out.2.2 c h
                            · rw [List.mem_singleton.1 h]
                              unfold isD
                              rw [HY.out]
                              omega)
                        clear ht hV h1 h2 h3
                        go_wp2_with (fail)
                        go_roundg g
                        case measure => omega
                        case rel => exact ⟨k + 1, j + 1, V, by omega, by go_num, rfl, hVb, HNX, rfl⟩
            case rest =>
              obtain ⟨k, j, v, rfl, rfl, hv, hjN, hin, rfl⟩ := hcut
              have HS := Lib.hid (show s.data.toList = flat p ++ 47 :: (R.take k ++ R.drop k) by
                rw [List.take_append_drop, ← HD.out]
                exact hst.out.2.2.2.1)
              by_cases hk0 : k = 0
              · have hjF : j = F := by have h1 := hin.out.1; have h2 := HF.out; omega
                have d1 : ((j : Int) == (F : Int)) = true := W.eqT (by omega)
                have HP := Lib.hid (show parseP s.data.toList = none from by
                  have hs2 := HS.out
                  rw [hk0, List.take_zero, List.nil_append, List.drop_zero] at hs2
                  have hv0 : v = 0 := by have h1 := hin.out.2.1; rw [hk0, List.take_zero] at h1; exact h1.symm
                  cases hRR : R with
                  | nil =>
                    rw [hRR] at hs2
                    exact parse_word (v := []) (vs := []) hs2 rfl val_nil HS1.out
                  | cons c0 R0 =>
                    have h3 : s.data.toList[j]? = some c0 := by
                      have := HRG.out 0
                      rw [hRR] at this
                      rw [hjF, ← HF.out]
                      exact this.symm
                    have h4 := hin.out.2.2.2 (by omega) c0 h3
                    by_cases h5 : c0 = 47
                    · subst h5
                      rw [hRR] at hs2
                      exact parse_word (v := []) (vs := sp R0) hs2 (sp_47 R0) val_nil HS1.out
                    · exact parse_bad (List.mem_of_getElem? h3) h4 h5)
                clear hk0 hjF
                go_wp2_with (fail)
                go_ret2
                exact NON _ hst.out.2.2.1 HP.out
              · have hjF : F < j := by have h1 := hin.out.1; have h2 := HF.out; omega
                have d1 : ((j : Int) == (F : Int)) = false := W.eqF (by omega)
                obtain ⟨c0, hc0⟩ : ∃ c, R[0]? = some c := ⟨_, List.getElem?_eq_getElem (by have h1 := HRL.out; have h2 := HF.out; omega)⟩
                obtain ⟨z, hz⟩ : ∃ z, c0.toNat = z := ⟨_, rfl⟩
                have hFs : s.data.toList[F]? = some c0 := by rw [← HF.out]; have := HRG.out 0; rw [hc0] at this; exact this.symm
                have hFx : (s[F]'(by omega)).toNat = z := by rw [ba_get hFs]; exact hz
                have hz256 : z < 256 := by rw [← hz]; exact c0.toNat_lt
                have hFi1 : (F : Int) < (N : Int) := by omega
                have hFi0 : (0 : Int) ≤ (F : Int) := by omega
                have HC0 := Lib.hid (show ∃ r, R.take k = c0 :: r ∧ (r = [] ↔ k = 1) by
                  cases hRR : R with
                  | nil => rw [hRR] at hc0; simp at hc0
                  | cons a r =>
                    rw [hRR] at hc0
                    simp at hc0
                    subst hc0
                    obtain ⟨k', rfl⟩ : ∃ k', k = k' + 1 := ⟨k - 1, by omega⟩
                    refine ⟨r.take k', by rw [List.take_succ_cons], ?_⟩
                    have hrl : (r.take k').length = k' := by
                      have h1 := HRL.out
                      have h2 := hin.out.1
                      rw [hRR, List.length_cons] at h1
                      rw [List.length_take]
                      omega
                    constructor
                    · intro h
                      rw [h] at hrl
                      simp at hrl
                      omega
                    · intro h
                      have : k' = 0 := by omega
                      subst this
                      rfl)
                have HZ := Lib.hid hz
                have HNO := Lib.hid (show ∀ c ∈ R.take k, c ≠ 47 from fun c hc => isD_ne (hin.out.2.2.1 c hc))
                clear hc0 hz hFs hk0
                have BIG : (z = 48 → F + 1 < j → parseP s.data.toList = none) ∧ (2147483647 < v → parseP s.data.toList = none) := by
                  refine ⟨fun h1 h2 => ?_, fun h1 => ?_⟩
                  · obtain ⟨r, e1, e2⟩ := HC0.out
                    refine parse_pre HS.out HNO.out (fun x => val_zero ⟨c0, r, e1, by rw [HZ.out, h1], fun h => ?_⟩ x) HS1.out
                    have h3 := e2.1 h
                    have h4 := hin.out.1
                    have h5 := HF.out
                    omega
                  · exact parse_pre HS.out HNO.out (fun x => val_big (by rw [hin.out.2.1]; exact h1) x) HS1.out
                have HBIG := Lib.hid BIG
                clear BIG
                have hF1 : (F : Int) + 1 ≤ 1048576001 := by omega
                by_cases hbad : z = 48 ∧ F + 1 < j
                · have d2 : ((z : Int) == 48) = true := W.eqT (by omega)
                  have d3 : (j : Int) > (F : Int) + 1 := by omega
                  have HP := Lib.hid (HBIG.out.1 hbad.1 hbad.2)
                  clear hbad
                  go_wp2_with (fail)
                  go_ret2
                  exact NON _ hst.out.2.2.1 HP.out
                · by_cases hvb : 2147483647 < v
                  · have d4 : (v : Int) > 2147483647 := by omega
                    have HP := Lib.hid (HBIG.out.2 hvb)
                    by_cases hz48 : z = 48
                    · have d2 : ((z : Int) == 48) = true := W.eqT (by omega)
                      have d3 : ¬ (j : Int) > (F : Int) + 1 := by omega
                      clear hbad hvb hz48
                      go_wp2_with (fail)
                      go_ret2
                      exact NON _ hst.out.2.2.1 HP.out
                    · have d2 : ((z : Int) == 48) = false := W.eqF (by omega)
                      clear hbad hvb hz48
                      go_wp2_with (fail)
                      go_ret2
                      exact NON _ hst.out.2.2.1 HP.out
                  · have d4 : ¬ (v : Int) > 2147483647 := by omega
                    have HDEC := Lib.hid (show Lib.decDigits v = R.take k by
                      rw [← hin.out.2.1]
                      obtain ⟨r, e1, e2⟩ := HC0.out
                      refine dec_num _ _ rfl hin.out.2.2.1 (by rw [e1]; simp) (fun c' r' he hr' h48 => ?_)
                      rw [e1] at he
                      injection he with q1 q2
                      subst q1 q2
                      refine hbad ⟨by rw [← HZ.out]; exact h48, ?_⟩
                      have h3 : k ≠ 1 := fun h => hr' (e2.2 h)
                      have h4 := hin.out.1
                      have h5 := HF.out
                      omega)
                    have HOA := Lib.hid (hst.out.2.1.alloc (.cells #[.int .i64 (v : Nat)] 3))
                    have HNW := Lib.hid (RV.new (w := wr) #[Value.int .i64 (v : Nat)] 3)
                    have hzs := hst.out.2.2.1.size
                    have HFIN := Lib.hid (show s.data.toList = flat (p ++ [v]) ++ s.data.toList.drop j by
                      have h1 := HS.out
                      rw [← HDEC.out] at h1
                      rw [flat_snoc]
                      have h2 : s.data.toList.drop j = R.drop k := by
                        rw [← HR.out, List.drop_drop]
                        congr 1
                        have h4 := hin.out.1
                        omega
                      rw [h2, List.append_assoc, List.cons_append]
                      exact h1)
                    have hvt : v ≤ 2147483647 := by omega
                    have step : ∀ (A5 : Option Addr) (c5 : Nat) (w5 : World), w5.ownsRow w.heap.size 3 1 (.slice A5 (m + 1) c5) (m + 1) (ints p ++ [Value.int .i64 (v : Nat)]) → Below w.heap.size w w5 →
                        (p ++ [v]).length = m + 1 ∧ w5.ownsRow w.heap.size 3 1 (.slice A5 (m + 1) c5) (m + 1) (ints (p ++ [v])) ∧ Below w.heap.size w w5 ∧ s.data.toList = flat (p ++ [v]) ++ s.data.toList.drop j ∧ (∀ n ∈ p ++ [v], n ≤ top) ∧ (∀ ch, s.data.toList[j]? = some ch → p ++ [v] = [] ∨ ¬ isD ch) := fun A5 c5 w5 h1 h2 => by
                      refine ⟨by rw [List.length_append, hst.out.1]; rfl, ?_, h2, HFIN.out, fun n hn => ?_, fun c' hc' => .inr (hin.out.2.2.2 hvt c' hc')⟩
                      · unfold ints at h1 ⊢
                        rw [List.map_append]
                        exact h1
                      · rcases List.mem_append.1 hn with h | h
                        · exact hst.out.2.2.2.2.1 n h
                        · rw [List.mem_singleton.1 h]; exact hvt
                    have STEP := Lib.hid step
                    have hm2 : m + 1 ≤ j := by omega
                    clear step hvb
                    by_cases hz48 : z = 48
                    · have d2 : ((z : Int) == 48) = true := W.eqT (by omega)
                      have d3 : ¬ (j : Int) > (F : Int) + 1 := by omega
                      clear hbad hz48
                      go_wp2_with (at_builtin; go_must (refine wpList_ap int8 rfl _ _ rfl rfl HOA.out rfl (m := 1) (news := [Value.int .i64 (v : Nat)]) rfl HNW.out (by intro z hz; rw [List.mem_singleton.1 hz]; rfl) (by unfold maxLen; omega) (by omega) (by simp; omega) ?_); intro A5 c5 w5 hown5 hgrow5 hob5 hcap5; have HS5 := Lib.hid (STEP.out A5 c5 w5 hown5 ((hst.out.2.2.1.alloc hzs _).grown hgrow5 (by simp; omega) (fun k hk => (hst.out.2.1.lt k hk).1))); clear hown5 hgrow5 hob5 hcap5)
                      go_roundg (N - j)
                      case measure => omega
                      case rel => exact ⟨j, A5, c5, p ++ [v], m + 1, by omega, rfl, rfl, hm2, HS5⟩
                    · have d2 : ((z : Int) == 48) = false := W.eqF (by omega)
                      clear hbad hz48
                      go_wp2_with (at_builtin; go_must (refine wpList_ap int8 rfl _ _ rfl rfl HOA.out rfl (m := 1) (news := [Value.int .i64 (v : Nat)]) rfl HNW.out (by intro z hz; rw [List.mem_singleton.1 hz]; rfl) (by unfold maxLen; omega) (by omega) (by simp; omega) ?_); intro A5 c5 w5 hown5 hgrow5 hob5 hcap5; have HS5 := Lib.hid (STEP.out A5 c5 w5 hown5 ((hst.out.2.2.1.alloc hzs _).grown hgrow5 (by simp; omega) (fun k hk => (hst.out.2.1.lt k hk).1))); clear hown5 hgrow5 hob5 hcap5)
                      go_roundg (N - j)
                      case measure => omega
                      case rel => exact ⟨j, A5, c5, p ++ [v], m + 1, by omega, rfl, rfl, hm2, HS5⟩
          · have i1 : ((x : Int) != 47) = true := W.neT (by omega)
            have HP := Lib.hid (show parseP s.data.toList = none from by
              have hne : ch ≠ 47 := fun h => h47 (by rw [← HX.out, h]; rfl)
              rcases hst.out.2.2.2.2.2 ch HCH.out with hp | hd
              · have h1 := hst.out.2.2.2.1
                rw [hp] at h1
                have h2 := congrArg List.length h1
                have h3 : (flat [] ++ s.data.toList.drop i).length = N - i := by show (s.data.toList.drop i).length = _; rw [List.length_drop, HN.out]
                rw [h3, HN.out] at h2
                have hi0 : i = 0 := by omega
                have h4 := HCH.out
                rw [hi0] at h4
                refine parse_head fun r hr => ?_
                rw [hr] at h4
                simp at h4
                exact hne h4.symm
              · exact parse_bad (List.mem_of_getElem? HCH.out) hd hne)
            clear h47
            go_wp2_with (fail)
            go_ret2
            exact NON _ hst.out.2.2.1 HP.out
    case rest =>
      obtain ⟨A, c, p, m, rfl, hst⟩ := hcut
      by_cases hm0 : m = 0
      · have hp : p = [] := List.eq_nil_of_length_eq_zero (by rw [hst.out.1, hm0])
        have HP := Lib.hid (show parseP s.data.toList = none from by rw [hst.out.2.2.2.1, hp]; rfl)
        have HPN := Lib.hid hp
        subst hm0
        clear hp
        go_wp2_with (fail)
        go_ret2
        refine ⟨A, 0, c, by rw [HP.out]; rfl, hst.out.2.2.1, by rw [HP.out]; rfl, ?_⟩
        rw [HP.out]
        have h9 := hst.out.2.1
        rw [HPN.out] at h9
        exact h9
      · have hm1 : 0 < m := by omega
        have HP := Lib.hid (show parseP s.data.toList = some p from by
          refine (parseP_iff _ p).2 ⟨?_, hst.out.2.2.2.2⟩
          rw [txt_flat (fun h => hm0 (by rw [← hst.out.1, h]; rfl))]
          exact hst.out.2.2.2.1)
        go_wp2_with (fail)
        go_ret2
        refine ⟨A, m, c, ?_, hst.out.2.2.1, by rw [HP.out]; exact hst.out.1, by rw [HP.out]; exact hst.out.2.1⟩
        rw [HP.out]
        rfl
end Go.Proofs.YtgjningfpkoooaaDoor.Ro
