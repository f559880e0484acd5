/- The reference's writer: said. -/
import Derived.Test.YtdpnlmofkkdioaaDoorVg
namespace Go.Proofs.YtdpnlmofkkdioaaDoor.Hf
set_option linter.unusedVariables false
set_option linter.unusedSimpArgs false
open Go.RowKit Go.Proofs.YtdpnlmofkkdioaaDoor.W

theorem Says.append {row : List Nat} {i j k : Nat} {l l2 : List Say} (h : Says row i l j) (h2 : Says row j l2 k) : Says row i (l ++ l2) k := by
  induction h with
  | nil i => exact h2
  | one h _ ih => exact .one h (ih h2)
  | long a b c _ ih => exact .long a b c (ih h2)
  | zero a b c _ ih => exact .zero a b c (ih h2)
  | same a b c d e _ ih => exact .same a b c d e (ih h2)
theorem Says.count {row : List Nat} {i j : Nat} {l : List Say} (h : Says row i l j) : i + l.length ≤ j := by
  induction h with
  | nil i => simp
  | one h _ ih => simp only [List.length_cons]; omega
  | long a b c _ ih => simp only [List.length_cons]; omega
  | zero a b c _ ih => simp only [List.length_cons]; omega
  | same a b c d e _ ih => simp only [List.length_cons]; omega
def syC (l : List Say) : List Value := l.flatMap fun s => [.int .i64 (s.sym : Nat), .int .i64 (s.v : Nat), .int .i64 (s.n : Nat)]
theorem syC_snoc (l : List Say) (s : Say) : syC (l ++ [s]) = syC l ++ [.int .i64 (s.sym : Nat), .int .i64 (s.v : Nat), .int .i64 (s.n : Nat)] := by unfold syC; rw [List.flatMap_append]; simp
theorem say_info : ∃ i : TypeInfo, Tryd.prog.info? 113 = some i ∧ i.zero = some (.agg #[.int .i64 0, .int .i64 0, .int .i64 0]) ∧ i.size = 3 ∧ i.bytes = 24 :=
  info_parts (by kernel_rfl)
def SaidP (w : World) (row : List Nat) (e : Ending) (w' : World) : Prop :=
  ∃ A c says n, e = .returned (.slice A n c) ∧ says.length = n ∧ w'.ownsRow w.heap.size 113 3 (.slice A n c) n (syC says) ∧ Says row 0 says row.length ∧ Kp [] w w'
set_option maxHeartbeats 16000000 in
set_option maxRecDepth 100000 in
theorem w_said (w : World) (A : Option Addr) (L c : Nat) (row : List Nat) (runs : Bool) (hL : row.length = L) (hr : RV w A (ints row)) (hL5 : L ≤ 1000) (hx15 : ∀ x ∈ row, x ≤ 15) :
    Calls Tryd.prog 62 #[.slice A L c, .bool runs] w (SaidP w row) := by
  have HL := Lib.hid hL
  have HR := Lib.hid hr
  have H0 := Lib.hid (World.ownsRow_nil w w.heap.size 113 3)
  have H15 := Lib.hid hx15
  clear hL hr hx15
  obtain ⟨ti, hti, htz, hts, htb⟩ := say_info
  go_enter Tryd.func62, Tryd.ntmps62
  go_wp2_with (fail)
  go_loopg [5, 6] L (fun gk s5 s6 wx => ∃ i At ct says m, i + gk = L ∧ s6 = .int .i64 (i : Nat) ∧ s5 = .slice At m ct ∧ Hid (says.length = m ∧ wx.ownsRow w.heap.size 113 3 (.slice At m ct) m (syC says) ∧ Says row 0 says i ∧ Kp [] w wx) ∧ m ≤ 1000)
  case atStart => exact ⟨0, none, 0, [], 0, by omega, rfl, rfl, Lib.hid ⟨rfl, H0.out, .nil _, Kp.refl _ _⟩, by omega⟩
  case round =>
    obtain ⟨i, At, ct, says, m, hig, rfl, rfl, hst, hm5⟩ := hrel
    obtain ⟨wo, rfl⟩ : ∃ wo : World, wo = wr := ⟨_, rfl⟩
    cases gk with
    | zero =>
      obtain rfl : i = L := by omega
      have hk : ¬ (i : Int) < (i : Int) := by omega
      go_wp2_with (fail)
      go_ret
      obtain ⟨h1, h2, h3, h4⟩ := hst.out
      exact ⟨At, ct, says, m, rfl, h1, h2, by rw [HL.out]; exact h3, h4⟩
    | succ g0 =>
      have hk : (i : Int) < (L : Int) := by omega
      have HKW := Lib.hid hst.out.2.2.2
      have HRW := Lib.hid (RV.below HR.out (HKW.out.below (Nat.le_refl _) (by simp)))
      obtain ⟨x, hx⟩ : ∃ x, row[i]? = some x := ⟨_, List.getElem?_eq_getElem (by rw [HL.out]; omega)⟩
      obtain ⟨b, off, rfl, hb, hc⟩ := ints_at HRW.out hx
      have H16 := Lib.hid (H15.out x (List.mem_of_getElem? hx))
      have b1 : (0 : Int) ≤ (i : Int) := by omega
      have b3 : (i : Int) < (L : Int) := by omega
      obtain ⟨X, hX⟩ : ∃ X : Int, ((x : Nat) : Int) = X := ⟨_, rfl⟩
      rw [hX] at hc
      have HX := Lib.hid hx
      have HXX := Lib.hid hX
      clear hx hX
      go_upto_block 2 with (fail)
      go_cut [7] (fun s7 wz => ∃ n z : Nat, s7 = .int .i64 (n : Nat) ∧ wz = wo.drewN z ∧ 1 ≤ n ∧ i + n ≤ L ∧ Hid (∀ k, k < n → row[i + k]? = some x))
      case first =>
        go_wp2_with (fail)
        go_loopg [7] (L - i) (fun gj s7 wx => ∃ n z : Nat, i + n + gj = L + 1 ∧ s7 = .int .i64 (n : Nat) ∧ wx = wo.drewN z ∧ 1 ≤ n ∧ i + n ≤ L ∧ Hid (∀ k, k < n → row[i + k]? = some x))
        case atStart => exact ⟨1, 0, by omega, rfl, rfl, Nat.le_refl _, by omega, Lib.hid (fun k hk => by rw [show k = 0 by omega]; exact HX.out)⟩
        case round =>
          obtain ⟨n, z, hng, rfl, rfl, hn1, hin, hall⟩ := hrel
          obtain ⟨T, hT⟩ : ∃ T, i + n = T := ⟨_, rfl⟩
          have e1 : IntKind.i64.wrap ((i : Int) + (n : Int)) = (T : Int) := by rw [IntWalk.i64_in _ (by omega)]; omega
          have e1b : (i : Int) + (n : Int) = (T : Int) := by omega
          have HALL := Lib.hid (show ∀ z', ∃ n' z2 : Nat, Value.int .i64 (n : Nat) = .int .i64 (n' : Nat) ∧ wo.drewN z' = wo.drewN z2 ∧ 1 ≤ n' ∧ i + n' ≤ L ∧ Hid (∀ k, k < n' → row[i + k]? = some x) from fun z' => ⟨n, z', rfl, rfl, hn1, hin, hall⟩)
          by_cases hTL : T < L
          · have d3 : decide ((T : Int) < (L : Int)) = true := W.decT (by omega)
            have d4 : decide (T < L) = true := W.decT hTL
            obtain ⟨y, hy⟩ : ∃ y, row[T]? = some y := ⟨_, List.getElem?_eq_getElem (by rw [HL.out]; exact hTL)⟩
            obtain ⟨b', off', hA2, hb2, hc2⟩ := ints_at HRW.out hy
            injection hA2 with hA2
            injection hA2 with hA3 hA4
            subst hA3 hA4
            obtain ⟨Y, hY⟩ : ∃ Y : Int, ((y : Nat) : Int) = Y := ⟨_, rfl⟩
            rw [hY] at hc2
            have b4 : (0 : Int) ≤ (T : Int) := by omega
            have b5 : (T : Int) < (L : Int) := by omega
            have HY := Lib.hid hy
            have HYY := Lib.hid hY
            have HT := Lib.hid hT
            clear hy hY hT hb2
            by_cases hxy : Y = X
            · have q1 : (Y == X) = true := W.eqT hxy
              have q2 : (X == Y) = true := W.eqT hxy.symm
              have HN := Lib.hid (show ∀ k, k < n + 1 → row[i + k]? = some x from fun k hk => by
                rcases Nat.lt_succ_iff_lt_or_eq.1 hk with h | rfl
                · exact hall.out k h
                · rw [HT.out, HY.out]; congr 1; have := HXX.out; have := HYY.out; omega)
              have HT2 := Lib.hid (show i + n < L by have := HT.out; omega)
              clear hxy
              cases gk with
              | zero => exfalso; omega
              | succ gj =>
                go_wp2_with (fail)
                go_quiet (fail)
                clear e1
                go_wp2_with (fail)
                go_roundg gj
                case measure => omega
                case rel => exact ⟨n + 1, _, by omega, by go_num, rfl, by omega, by have := HT2.out; omega, HN⟩
            · have q1 : (Y == X) = false := W.eqF hxy
              clear hxy
              go_wp2_with (fail)
              go_quiet (fail)
              clear e1
              go_wp2_with (fail)
              go_meet
              try rw [World.drewN_drewN]
              exact HALL.out _
          · have d3 : decide ((T : Int) < (L : Int)) = false := W.decF (by omega)
            have d4 : decide (T < L) = false := W.decF hTL
            clear hTL
            go_wp2_with (fail)
            go_quiet (fail)
            clear e1
            go_wp2_with (fail)
            go_meet
            try rw [World.drewN_drewN]
            exact HALL.out _
      case rest =>
        obtain ⟨n, z, rfl, rfl, hn1, hin, hall⟩ := hcut
        have hkz : Kp [] wo (wo.drewN z) := (Kp.refl _ _).drewN _
        have HKZ := Lib.hid (HKW.out.trans hkz)
        have HOZ := Lib.hid (show (wo.drewN z).ownsRow w.heap.size 113 3 (.slice At m ct) m (syC says) from own_same hst.out.2.1 (fun k _ => rfl))
        have hcz : (wo.drewN z).cell? ⟨b, off + i, none⟩ = some (.int .i64 X) := hc
        have HRZ := Lib.hid (show RV (wo.drewN z) (some ⟨b, off, none⟩) (ints row) from HR.out.below (HKZ.out.below (Nat.le_refl _) (by simp)))
        have hsz := HKZ.out.size
        have HTK := Lib.hid (show says.length = m ∧ Says row 0 says i from ⟨hst.out.1, hst.out.2.2.1⟩)
        have FIN := Lib.hid (show ∀ (s : Say) (n' : Nat) (w1 w5 : World) (o : Obj) (A5 : Option Addr) (c5 : Nat) (xs : List Value), Kp [] w w1 → w1.ownsRow w.heap.size 113 3 (.slice At m ct) m (syC says) → xs = [.int .i64 (s.sym : Nat), .int .i64 (s.v : Nat), .int .i64 (s.n : Nat)] → 1 ≤ n' → i + n' ≤ L → Says row i [s] (i + n') →
            w5.ownsRow w.heap.size 113 3 (.slice A5 (m + 1) c5) (m + 1) (syC says ++ xs) → (w1.alloc o).grownBy w5 (Value.slice At m ct).ownBlock →
            ∃ i2 At2 ct2 says2 m2, i2 + (L - (i + n')) = L ∧ Value.int .i64 ((i : Int) + (n' : Int)) = .int .i64 (i2 : Nat) ∧ Value.slice A5 (m + 1) c5 = .slice At2 m2 ct2 ∧ Hid (says2.length = m2 ∧ w5.ownsRow w.heap.size 113 3 (.slice At2 m2 ct2) m2 (syC says2) ∧ Says row 0 says2 i2 ∧ Kp [] w w5) ∧ m2 ≤ 1000 from by
          intro s n' w1 w5 o A5 c5 xs hk1 ho1 hxs hn' hin' hsy ho5 hg5
          subst hxs
          have hsn := HTK.out.2.append hsy
          have h8 := hsn.count
          rw [List.length_append, HTK.out.1] at h8
          simp only [List.length_cons, List.length_nil] at h8
          have hk5 : Kp [] w w5 := by
            obtain ⟨T, hT1, hT2⟩ := grown_kpz (ho1.alloc o) hg5
            exact (((hk1.alloc _).mono (T := T) (by simp)).trans hT1).mono (fun k hm => .inr (hT2 k hm))
          exact ⟨i + n', A5, c5, says ++ [s], m + 1, by omega, by go_num, rfl, Lib.hid ⟨by rw [List.length_append, HTK.out.1]; rfl, by rw [syC_snoc]; exact ho5, hsn, hk5⟩, by omega⟩)
        clear hkz hst hc
        generalize wo.drewN z = w1 at *
        cases runs with
        | false =>
          have hk9 : ∀ z9, Kp [] w (w1.drewN z9) := fun z9 => HKZ.out.drewN _
          have ho9 : ∀ z9, (w1.drewN z9).ownsRow w.heap.size 113 3 (.slice At m ct) m (syC says) := fun z9 => own_same HOZ.out (fun k _ => rfl)
          have hs9 : ∀ z9, w.heap.size ≤ (w1.drewN z9).heap.size := fun z9 => hsz
          have hc9 : ∀ z9, (w1.drewN z9).cell? ⟨b, off + i, none⟩ = some (.int .i64 X) := fun z9 => hcz
          have HK9 := Lib.hid hk9
          have HO9 := Lib.hid ho9
          have HS9 := Lib.hid hs9
          have HC9 := Lib.hid hc9
          clear hk9 ho9 hs9 hc9
          go_upto_region 14 with (fail)
          go_quiet (fail)
          generalize hw2 : World.drewN _ _ = w2
          have HKZ := Lib.hid (show Kp [] w w2 by rw [← hw2]; exact HK9.out _)
          have HOZ := Lib.hid (show w2.ownsRow w.heap.size 113 3 (.slice At m ct) m (syC says) by rw [← hw2]; exact HO9.out _)
          have hsz2 : w.heap.size ≤ w2.heap.size := by rw [← hw2]; exact HS9.out _
          have hcz2 : w2.cell? ⟨b, off + i, none⟩ = some (.int .i64 X) := by rw [← hw2]; exact HC9.out _
          clear hw2
          have HSY := Lib.hid (show Says row i [⟨x, 0, 0⟩] (i + 1) from .one HX.out (.nil _))
          have HOA := Lib.hid (HOZ.out.alloc (.cells #[Value.int .i64 X, .int .i64 0, .int .i64 0] 113))
          have HNW := Lib.hid (news_block w2 #[Value.int .i64 X, .int .i64 0, .int .i64 0] 113)
          have HON := Lib.hid (show ∀ u ∈ [Value.int .i64 X, .int .i64 0, .int .i64 0], u.oneCell' = true from by intro u hu; simp at hu; rcases hu with rfl | rfl | rfl <;> rfl)
          go_wp2_with (first
            | (at_builtin; go_must (refine wpList_append_lies _ rfl (.tmp 33) (.tmp 39) _ (by rfl) w.heap.size 113 ti _ 3 24 Tryd.underlying110 hti htz hts htb rfl (by omega) _ m (syC says) (by rfl) HOA.out ⟨_, 0, none⟩ 1 1 [Value.int .i64 X, .int .i64 0, .int .i64 0] (by rfl) rfl HNW.out HON.out (by omega) (by unfold maxLen; omega) (by omega) (by simp; omega) _ rfl ?_); intro g5 cap5 w5 hown5 hgrow5 hat5 hlt5; have HOW := Lib.hid hown5; have HGR := Lib.hid hgrow5; clear hown5 hgrow5 hat5))
          go_roundg (L - (i + 1))
          case measure => omega
          case rel => exact FIN.out ⟨x, 0, 0⟩ 1 _ _ _ _ _ _ HKZ.out HOZ.out (by rw [← HXX.out]; rfl) (by omega) (by omega) HSY.out HOW.out HGR.out
        | true =>
          by_cases hx0 : X = 0
          · have hx00 : x = 0 := by have := HXX.out; omega
            have HA0 := Lib.hid (show ∀ k, k < n → row[i + k]? = some 0 from by rw [← hx00]; exact hall.out)
            clear hx00
            subst hx0
            by_cases h11 : 11 ≤ n
            · have i1 : (11 : Int) ≤ (n : Int) := by omega
              obtain ⟨n2, hn2⟩ : ∃ n2, min n 138 = n2 := ⟨_, rfl⟩
              have em1 : min (n : Int) 138 = (n2 : Int) := by omega
              obtain ⟨V, hV⟩ : ∃ V, n2 - 11 = V := ⟨_, rfl⟩
              have ev : (n2 : Int) - 11 = (V : Int) := by omega
              have hn3 : 11 ≤ n2 ∧ n2 ≤ 138 ∧ n2 ≤ n := by omega
              have HV := Lib.hid hV
              clear hV hn2 h11
              have HSY := Lib.hid (show Says row i [⟨18, V, 7⟩] (i + n2) from by rw [← HV.out]; exact .long hn3.1 hn3.2.1 (fun k hk => HA0.out k (by omega)) (.nil _))
              have HOA := Lib.hid (HOZ.out.alloc (.cells #[Value.int .i64 18, .int .i64 (V : Nat), .int .i64 7] 113))
              have HNW := Lib.hid (news_block w1 #[Value.int .i64 18, .int .i64 (V : Nat), .int .i64 7] 113)
              have HON := Lib.hid (show ∀ u ∈ [Value.int .i64 18, .int .i64 (V : Nat), .int .i64 7], u.oneCell' = true from by intro u hu; simp at hu; rcases hu with rfl | rfl | rfl <;> rfl)
              go_wp2_with (first
                | (at_builtin; go_must (refine wpList_append_lies _ rfl (.tmp 56) (.tmp 60) _ (by rfl) w.heap.size 113 ti _ 3 24 Tryd.underlying110 hti htz hts htb rfl (by omega) _ m (syC says) (by rfl) HOA.out ⟨_, 0, none⟩ 1 1 [Value.int .i64 18, .int .i64 (V : Nat), .int .i64 7] (by rfl) rfl HNW.out HON.out (by omega) (by unfold maxLen; omega) (by omega) (by simp; omega) _ rfl ?_); intro g5 cap5 w5 hown5 hgrow5 hat5 hlt5; have HOW := Lib.hid hown5; have HGR := Lib.hid hgrow5; clear hown5 hgrow5 hat5))
              go_roundg (L - (i + n2))
              case measure => omega
              case rel => exact FIN.out ⟨18, V, 7⟩ n2 _ _ _ _ _ _ HKZ.out HOZ.out (by first | rfl | (rw [HXX.out]; rfl)) (by omega) (by omega) HSY.out HOW.out HGR.out
            · have i1 : ¬ (11 : Int) ≤ (n : Int) := by omega
              by_cases h3 : 3 ≤ n
              · have i2 : (3 : Int) ≤ (n : Int) := by omega
                obtain ⟨V, hV⟩ : ∃ V, n - 3 = V := ⟨_, rfl⟩
                have ev : (n : Int) - 3 = (V : Int) := by omega
                have HV := Lib.hid hV
                clear hV
                have HSY := Lib.hid (show Says row i [⟨17, V, 3⟩] (i + n) from by rw [← HV.out]; exact .zero (by omega) (by omega) HA0.out (.nil _))
                have HOA := Lib.hid (HOZ.out.alloc (.cells #[Value.int .i64 17, .int .i64 (V : Nat), .int .i64 3] 113))
                have HNW := Lib.hid (news_block w1 #[Value.int .i64 17, .int .i64 (V : Nat), .int .i64 3] 113)
                have HON := Lib.hid (show ∀ u ∈ [Value.int .i64 17, .int .i64 (V : Nat), .int .i64 3], u.oneCell' = true from by intro u hu; simp at hu; rcases hu with rfl | rfl | rfl <;> rfl)
                go_wp2_with (first
                  | (at_builtin; go_must (refine wpList_append_lies _ rfl (.tmp 75) (.tmp 79) _ (by rfl) w.heap.size 113 ti _ 3 24 Tryd.underlying110 hti htz hts htb rfl (by omega) _ m (syC says) (by rfl) HOA.out ⟨_, 0, none⟩ 1 1 [Value.int .i64 17, .int .i64 (V : Nat), .int .i64 3] (by rfl) rfl HNW.out HON.out (by omega) (by unfold maxLen; omega) (by omega) (by simp; omega) _ rfl ?_); intro g5 cap5 w5 hown5 hgrow5 hat5 hlt5; have HOW := Lib.hid hown5; have HGR := Lib.hid hgrow5; clear hown5 hgrow5 hat5))
                go_roundg (L - (i + n))
                case measure => omega
                case rel => exact FIN.out ⟨17, V, 3⟩ n _ _ _ _ _ _ HKZ.out HOZ.out (by first | rfl | (rw [HXX.out]; rfl)) (by omega) (by omega) HSY.out HOW.out HGR.out
              · have i2 : ¬ (3 : Int) ≤ (n : Int) := by omega
                by_cases hi0 : 0 < i
                · have j1 : decide ((0 : Int) < (i : Int)) = true := W.decT (by omega)
                  have j1b : decide (0 < i) = true := W.decT hi0
                  obtain ⟨U, hU⟩ : ∃ U, i - 1 = U := ⟨_, rfl⟩
                  have e2 : IntKind.i64.wrap ((i : Int) - 1) = (U : Int) := by rw [IntWalk.i64_in _ (by omega)]; omega
                  have e2b : (i : Int) - 1 = (U : Int) := by omega
                  obtain ⟨y, hy⟩ : ∃ y, row[U]? = some y := ⟨_, List.getElem?_eq_getElem (by rw [HL.out]; omega)⟩
                  obtain ⟨b', off', hA2, hb2, hc2⟩ := ints_at HRZ.out hy
                  injection hA2 with hA2
                  injection hA2 with hA3 hA4
                  subst hA3 hA4
                  obtain ⟨Y, hY⟩ : ∃ Y : Int, ((y : Nat) : Int) = Y := ⟨_, rfl⟩
                  rw [hY] at hc2
                  have b4 : (0 : Int) ≤ (U : Int) := by omega
                  have b5 : (U : Int) < (L : Int) := by omega
                  have HY := Lib.hid hy
                  have HYY := Lib.hid hY
                  have HU := Lib.hid hU
                  clear hy hY hU hb2
                  by_cases hxy : 0 = Y
                  · have q1 : (0 == Y) = true := W.eqT hxy
                    have i2d : decide ((3 : Int) ≤ (n : Int)) = false := W.decF (by omega)
                    have i3 : decide (3 ≤ n) = false := W.decF h3
                    clear hxy
                    have hk9 : ∀ z9, Kp [] w (w1.drewN z9) := fun z9 => HKZ.out.drewN _
                    have ho9 : ∀ z9, (w1.drewN z9).ownsRow w.heap.size 113 3 (.slice At m ct) m (syC says) := fun z9 => own_same HOZ.out (fun k _ => rfl)
                    have hs9 : ∀ z9, w.heap.size ≤ (w1.drewN z9).heap.size := fun z9 => hsz
                    have hc9 : ∀ z9, (w1.drewN z9).cell? ⟨b, off + i, none⟩ = some (.int .i64 0) := fun z9 => hcz
                    have HK9 := Lib.hid hk9
                    have HO9 := Lib.hid ho9
                    have HS9 := Lib.hid hs9
                    have HC9 := Lib.hid hc9
                    clear hk9 ho9 hs9 hc9
                    go_upto_region 14 with (fail)
                    go_quiet (fail)
                    generalize hw2 : World.drewN _ _ = w2
                    have HKZ := Lib.hid (show Kp [] w w2 by rw [← hw2]; exact HK9.out _)
                    have HOZ := Lib.hid (show w2.ownsRow w.heap.size 113 3 (.slice At m ct) m (syC says) by rw [← hw2]; exact HO9.out _)
                    have hsz2 : w.heap.size ≤ w2.heap.size := by rw [← hw2]; exact HS9.out _
                    have hcz2 : w2.cell? ⟨b, off + i, none⟩ = some (.int .i64 0) := by rw [← hw2]; exact HC9.out _
                    clear hw2
                    have HSY := Lib.hid (show Says row i [⟨x, 0, 0⟩] (i + 1) from .one HX.out (.nil _))
                    have HOA := Lib.hid (HOZ.out.alloc (.cells #[Value.int .i64 0, .int .i64 0, .int .i64 0] 113))
                    have HNW := Lib.hid (news_block w2 #[Value.int .i64 0, .int .i64 0, .int .i64 0] 113)
                    have HON := Lib.hid (show ∀ u ∈ [Value.int .i64 0, .int .i64 0, .int .i64 0], u.oneCell' = true from by intro u hu; simp at hu; rcases hu with rfl | rfl | rfl <;> rfl)
                    go_wp2_with (first
                      | (at_builtin; go_must (refine wpList_append_lies _ rfl (.tmp 33) (.tmp 39) _ (by rfl) w.heap.size 113 ti _ 3 24 Tryd.underlying110 hti htz hts htb rfl (by omega) _ m (syC says) (by rfl) HOA.out ⟨_, 0, none⟩ 1 1 [Value.int .i64 0, .int .i64 0, .int .i64 0] (by rfl) rfl HNW.out HON.out (by omega) (by unfold maxLen; omega) (by omega) (by simp; omega) _ rfl ?_); intro g5 cap5 w5 hown5 hgrow5 hat5 hlt5; have HOW := Lib.hid hown5; have HGR := Lib.hid hgrow5; clear hown5 hgrow5 hat5))
                    go_roundg (L - (i + 1))
                    case measure => omega
                    case rel => exact FIN.out ⟨x, 0, 0⟩ 1 _ _ _ _ _ _ HKZ.out HOZ.out (by rw [show x = 0 from by have := HXX.out; omega]; rfl) (by omega) (by omega) HSY.out HOW.out HGR.out
                  · have q1 : (0 == Y) = false := W.eqF hxy
                    clear hxy
                    have hk9 : ∀ z9, Kp [] w (w1.drewN z9) := fun z9 => HKZ.out.drewN _
                    have ho9 : ∀ z9, (w1.drewN z9).ownsRow w.heap.size 113 3 (.slice At m ct) m (syC says) := fun z9 => own_same HOZ.out (fun k _ => rfl)
                    have hs9 : ∀ z9, w.heap.size ≤ (w1.drewN z9).heap.size := fun z9 => hsz
                    have hc9 : ∀ z9, (w1.drewN z9).cell? ⟨b, off + i, none⟩ = some (.int .i64 0) := fun z9 => hcz
                    have HK9 := Lib.hid hk9
                    have HO9 := Lib.hid ho9
                    have HS9 := Lib.hid hs9
                    have HC9 := Lib.hid hc9
                    clear hk9 ho9 hs9 hc9
                    go_upto_region 14 with (fail)
                    go_quiet (fail)
                    generalize hw2 : World.drewN _ _ = w2
                    have HKZ := Lib.hid (show Kp [] w w2 by rw [← hw2]; exact HK9.out _)
                    have HOZ := Lib.hid (show w2.ownsRow w.heap.size 113 3 (.slice At m ct) m (syC says) by rw [← hw2]; exact HO9.out _)
                    have hsz2 : w.heap.size ≤ w2.heap.size := by rw [← hw2]; exact HS9.out _
                    have hcz2 : w2.cell? ⟨b, off + i, none⟩ = some (.int .i64 0) := by rw [← hw2]; exact HC9.out _
                    clear hw2
                    have HSY := Lib.hid (show Says row i [⟨x, 0, 0⟩] (i + 1) from .one HX.out (.nil _))
                    have HOA := Lib.hid (HOZ.out.alloc (.cells #[Value.int .i64 0, .int .i64 0, .int .i64 0] 113))
                    have HNW := Lib.hid (news_block w2 #[Value.int .i64 0, .int .i64 0, .int .i64 0] 113)
                    have HON := Lib.hid (show ∀ u ∈ [Value.int .i64 0, .int .i64 0, .int .i64 0], u.oneCell' = true from by intro u hu; simp at hu; rcases hu with rfl | rfl | rfl <;> rfl)
                    go_wp2_with (first
                      | (at_builtin; go_must (refine wpList_append_lies _ rfl (.tmp 33) (.tmp 39) _ (by rfl) w.heap.size 113 ti _ 3 24 Tryd.underlying110 hti htz hts htb rfl (by omega) _ m (syC says) (by rfl) HOA.out ⟨_, 0, none⟩ 1 1 [Value.int .i64 0, .int .i64 0, .int .i64 0] (by rfl) rfl HNW.out HON.out (by omega) (by unfold maxLen; omega) (by omega) (by simp; omega) _ rfl ?_); intro g5 cap5 w5 hown5 hgrow5 hat5 hlt5; have HOW := Lib.hid hown5; have HGR := Lib.hid hgrow5; clear hown5 hgrow5 hat5))
                    go_roundg (L - (i + 1))
                    case measure => omega
                    case rel => exact FIN.out ⟨x, 0, 0⟩ 1 _ _ _ _ _ _ HKZ.out HOZ.out (by rw [show x = 0 from by have := HXX.out; omega]; rfl) (by omega) (by omega) HSY.out HOW.out HGR.out
                · have j1 : decide ((0 : Int) < (i : Int)) = false := W.decF (by omega)
                  have j1b : decide (0 < i) = false := W.decF hi0
                  clear hi0
                  have hk9 : ∀ z9, Kp [] w (w1.drewN z9) := fun z9 => HKZ.out.drewN _
                  have ho9 : ∀ z9, (w1.drewN z9).ownsRow w.heap.size 113 3 (.slice At m ct) m (syC says) := fun z9 => own_same HOZ.out (fun k _ => rfl)
                  have hs9 : ∀ z9, w.heap.size ≤ (w1.drewN z9).heap.size := fun z9 => hsz
                  have hc9 : ∀ z9, (w1.drewN z9).cell? ⟨b, off + i, none⟩ = some (.int .i64 0) := fun z9 => hcz
                  have HK9 := Lib.hid hk9
                  have HO9 := Lib.hid ho9
                  have HS9 := Lib.hid hs9
                  have HC9 := Lib.hid hc9
                  clear hk9 ho9 hs9 hc9
                  go_upto_region 14 with (fail)
                  go_quiet (fail)
                  generalize hw2 : World.drewN _ _ = w2
                  have HKZ := Lib.hid (show Kp [] w w2 by rw [← hw2]; exact HK9.out _)
                  have HOZ := Lib.hid (show w2.ownsRow w.heap.size 113 3 (.slice At m ct) m (syC says) by rw [← hw2]; exact HO9.out _)
                  have hsz2 : w.heap.size ≤ w2.heap.size := by rw [← hw2]; exact HS9.out _
                  have hcz2 : w2.cell? ⟨b, off + i, none⟩ = some (.int .i64 0) := by rw [← hw2]; exact HC9.out _
                  clear hw2
                  have HSY := Lib.hid (show Says row i [⟨x, 0, 0⟩] (i + 1) from .one HX.out (.nil _))
                  have HOA := Lib.hid (HOZ.out.alloc (.cells #[Value.int .i64 0, .int .i64 0, .int .i64 0] 113))
                  have HNW := Lib.hid (news_block w2 #[Value.int .i64 0, .int .i64 0, .int .i64 0] 113)
                  have HON := Lib.hid (show ∀ u ∈ [Value.int .i64 0, .int .i64 0, .int .i64 0], u.oneCell' = true from by intro u hu; simp at hu; rcases hu with rfl | rfl | rfl <;> rfl)
                  go_wp2_with (first
                    | (at_builtin; go_must (refine wpList_append_lies _ rfl (.tmp 33) (.tmp 39) _ (by rfl) w.heap.size 113 ti _ 3 24 Tryd.underlying110 hti htz hts htb rfl (by omega) _ m (syC says) (by rfl) HOA.out ⟨_, 0, none⟩ 1 1 [Value.int .i64 0, .int .i64 0, .int .i64 0] (by rfl) rfl HNW.out HON.out (by omega) (by unfold maxLen; omega) (by omega) (by simp; omega) _ rfl ?_); intro g5 cap5 w5 hown5 hgrow5 hat5 hlt5; have HOW := Lib.hid hown5; have HGR := Lib.hid hgrow5; clear hown5 hgrow5 hat5))
                  go_roundg (L - (i + 1))
                  case measure => omega
                  case rel => exact FIN.out ⟨x, 0, 0⟩ 1 _ _ _ _ _ _ HKZ.out HOZ.out (by rw [show x = 0 from by have := HXX.out; omega]; rfl) (by omega) (by omega) HSY.out HOW.out HGR.out
          · by_cases hi0 : 0 < i
            · have j1 : decide ((0 : Int) < (i : Int)) = true := W.decT (by omega)
              have j1b : decide (0 < i) = true := W.decT hi0
              obtain ⟨U, hU⟩ : ∃ U, i - 1 = U := ⟨_, rfl⟩
              have e2 : IntKind.i64.wrap ((i : Int) - 1) = (U : Int) := by rw [IntWalk.i64_in _ (by omega)]; omega
              have e2b : (i : Int) - 1 = (U : Int) := by omega
              obtain ⟨y, hy⟩ : ∃ y, row[U]? = some y := ⟨_, List.getElem?_eq_getElem (by rw [HL.out]; omega)⟩
              obtain ⟨b', off', hA2, hb2, hc2⟩ := ints_at HRZ.out hy
              injection hA2 with hA2
              injection hA2 with hA3 hA4
              subst hA3 hA4
              obtain ⟨Y, hY⟩ : ∃ Y : Int, ((y : Nat) : Int) = Y := ⟨_, rfl⟩
              rw [hY] at hc2
              have b4 : (0 : Int) ≤ (U : Int) := by omega
              have b5 : (U : Int) < (L : Int) := by omega
              have HY := Lib.hid hy
              have HYY := Lib.hid hY
              have HU := Lib.hid hU
              clear hy hY hU hb2
              by_cases hxy : X = Y
              · have q1 : (X == Y) = true := W.eqT hxy
                have HYX := Lib.hid (show row[i - 1]? = some x by rw [HU.out, HY.out]; congr 1; have := HXX.out; have := HYY.out; omega)
                clear hxy
                by_cases h3 : 3 ≤ n
                · have i2 : decide ((3 : Int) ≤ (n : Int)) = true := W.decT (by omega)
                  have i3 : decide (3 ≤ n) = true := W.decT h3
                  obtain ⟨n2, hn2⟩ : ∃ n2, min n 6 = n2 := ⟨_, rfl⟩
                  have em1 : min (n : Int) 6 = (n2 : Int) := by omega
                  obtain ⟨V, hV⟩ : ∃ V, n2 - 3 = V := ⟨_, rfl⟩
                  have ev : (n2 : Int) - 3 = (V : Int) := by omega
                  have hn3 : 3 ≤ n2 ∧ n2 ≤ 6 ∧ n2 ≤ n := by omega
                  have HV := Lib.hid hV
                  clear hV hn2 h3
                  have hk9 : ∀ z9, Kp [] w (w1.drewN z9) := fun z9 => HKZ.out.drewN _
                  have ho9 : ∀ z9, (w1.drewN z9).ownsRow w.heap.size 113 3 (.slice At m ct) m (syC says) := fun z9 => own_same HOZ.out (fun k _ => rfl)
                  have hs9 : ∀ z9, w.heap.size ≤ (w1.drewN z9).heap.size := fun z9 => hsz
                  have hc9 : ∀ z9, (w1.drewN z9).cell? ⟨b, off + i, none⟩ = some (.int .i64 X) := fun z9 => hcz
                  have HK9 := Lib.hid hk9
                  have HO9 := Lib.hid ho9
                  have HS9 := Lib.hid hs9
                  have HC9 := Lib.hid hc9
                  clear hk9 ho9 hs9 hc9
                  go_upto_region 14 with (fail)
                  go_quiet (fail)
                  generalize hw2 : World.drewN _ _ = w2
                  have HKZ := Lib.hid (show Kp [] w w2 by rw [← hw2]; exact HK9.out _)
                  have HOZ := Lib.hid (show w2.ownsRow w.heap.size 113 3 (.slice At m ct) m (syC says) by rw [← hw2]; exact HO9.out _)
                  have hsz2 : w.heap.size ≤ w2.heap.size := by rw [← hw2]; exact HS9.out _
                  have hcz2 : w2.cell? ⟨b, off + i, none⟩ = some (.int .i64 X) := by rw [← hw2]; exact HC9.out _
                  clear hw2
                  clear e2
                  have HSY := Lib.hid (show Says row i [⟨16, V, 2⟩] (i + n2) from by rw [← HV.out]; exact .same hn3.1 hn3.2.1 hi0 HYX.out (fun k hk => hall.out k (by omega)) (.nil _))
                  have HOA := Lib.hid (HOZ.out.alloc (.cells #[Value.int .i64 16, .int .i64 (V : Nat), .int .i64 2] 113))
                  have HNW := Lib.hid (news_block w2 #[Value.int .i64 16, .int .i64 (V : Nat), .int .i64 2] 113)
                  have HON := Lib.hid (show ∀ u ∈ [Value.int .i64 16, .int .i64 (V : Nat), .int .i64 2], u.oneCell' = true from by intro u hu; simp at hu; rcases hu with rfl | rfl | rfl <;> rfl)
                  go_wp2_with (first
                    | (at_builtin; go_must (refine wpList_append_lies _ rfl (.tmp 105) (.tmp 109) _ (by rfl) w.heap.size 113 ti _ 3 24 Tryd.underlying110 hti htz hts htb rfl (by omega) _ m (syC says) (by rfl) HOA.out ⟨_, 0, none⟩ 1 1 [Value.int .i64 16, .int .i64 (V : Nat), .int .i64 2] (by rfl) rfl HNW.out HON.out (by omega) (by unfold maxLen; omega) (by omega) (by simp; omega) _ rfl ?_); intro g5 cap5 w5 hown5 hgrow5 hat5 hlt5; have HOW := Lib.hid hown5; have HGR := Lib.hid hgrow5; clear hown5 hgrow5 hat5))
                  go_roundg (L - (i + n2))
                  case measure => omega
                  case rel => exact FIN.out ⟨16, V, 2⟩ n2 _ _ _ _ _ _ HKZ.out HOZ.out (by first | rfl | (rw [HXX.out]; rfl)) (by omega) (by omega) HSY.out HOW.out HGR.out
                · have i2 : decide ((3 : Int) ≤ (n : Int)) = false := W.decF (by omega)
                  have i3 : decide (3 ≤ n) = false := W.decF h3
                  clear h3
                  have hk9 : ∀ z9, Kp [] w (w1.drewN z9) := fun z9 => HKZ.out.drewN _
                  have ho9 : ∀ z9, (w1.drewN z9).ownsRow w.heap.size 113 3 (.slice At m ct) m (syC says) := fun z9 => own_same HOZ.out (fun k _ => rfl)
                  have hs9 : ∀ z9, w.heap.size ≤ (w1.drewN z9).heap.size := fun z9 => hsz
                  have hc9 : ∀ z9, (w1.drewN z9).cell? ⟨b, off + i, none⟩ = some (.int .i64 X) := fun z9 => hcz
                  have HK9 := Lib.hid hk9
                  have HO9 := Lib.hid ho9
                  have HS9 := Lib.hid hs9
                  have HC9 := Lib.hid hc9
                  clear hk9 ho9 hs9 hc9
                  go_upto_region 14 with (fail)
                  go_quiet (fail)
                  generalize hw2 : World.drewN _ _ = w2
                  have HKZ := Lib.hid (show Kp [] w w2 by rw [← hw2]; exact HK9.out _)
                  have HOZ := Lib.hid (show w2.ownsRow w.heap.size 113 3 (.slice At m ct) m (syC says) by rw [← hw2]; exact HO9.out _)
                  have hsz2 : w.heap.size ≤ w2.heap.size := by rw [← hw2]; exact HS9.out _
                  have hcz2 : w2.cell? ⟨b, off + i, none⟩ = some (.int .i64 X) := by rw [← hw2]; exact HC9.out _
                  clear hw2
                  have HSY := Lib.hid (show Says row i [⟨x, 0, 0⟩] (i + 1) from .one HX.out (.nil _))
                  have HOA := Lib.hid (HOZ.out.alloc (.cells #[Value.int .i64 X, .int .i64 0, .int .i64 0] 113))
                  have HNW := Lib.hid (news_block w2 #[Value.int .i64 X, .int .i64 0, .int .i64 0] 113)
                  have HON := Lib.hid (show ∀ u ∈ [Value.int .i64 X, .int .i64 0, .int .i64 0], u.oneCell' = true from by intro u hu; simp at hu; rcases hu with rfl | rfl | rfl <;> rfl)
                  go_wp2_with (first
                    | (at_builtin; go_must (refine wpList_append_lies _ rfl (.tmp 33) (.tmp 39) _ (by rfl) w.heap.size 113 ti _ 3 24 Tryd.underlying110 hti htz hts htb rfl (by omega) _ m (syC says) (by rfl) HOA.out ⟨_, 0, none⟩ 1 1 [Value.int .i64 X, .int .i64 0, .int .i64 0] (by rfl) rfl HNW.out HON.out (by omega) (by unfold maxLen; omega) (by omega) (by simp; omega) _ rfl ?_); intro g5 cap5 w5 hown5 hgrow5 hat5 hlt5; have HOW := Lib.hid hown5; have HGR := Lib.hid hgrow5; clear hown5 hgrow5 hat5))
                  go_roundg (L - (i + 1))
                  case measure => omega
                  case rel => exact FIN.out ⟨x, 0, 0⟩ 1 _ _ _ _ _ _ HKZ.out HOZ.out (by rw [← HXX.out]; rfl) (by omega) (by omega) HSY.out HOW.out HGR.out
              · have q1 : (X == Y) = false := W.eqF hxy
                clear hxy
                have hk9 : ∀ z9, Kp [] w (w1.drewN z9) := fun z9 => HKZ.out.drewN _
                have ho9 : ∀ z9, (w1.drewN z9).ownsRow w.heap.size 113 3 (.slice At m ct) m (syC says) := fun z9 => own_same HOZ.out (fun k _ => rfl)
                have hs9 : ∀ z9, w.heap.size ≤ (w1.drewN z9).heap.size := fun z9 => hsz
                have hc9 : ∀ z9, (w1.drewN z9).cell? ⟨b, off + i, none⟩ = some (.int .i64 X) := fun z9 => hcz
                have HK9 := Lib.hid hk9
                have HO9 := Lib.hid ho9
                have HS9 := Lib.hid hs9
                have HC9 := Lib.hid hc9
                clear hk9 ho9 hs9 hc9
                go_upto_region 14 with (fail)
                go_quiet (fail)
                generalize hw2 : World.drewN _ _ = w2
                have HKZ := Lib.hid (show Kp [] w w2 by rw [← hw2]; exact HK9.out _)
                have HOZ := Lib.hid (show w2.ownsRow w.heap.size 113 3 (.slice At m ct) m (syC says) by rw [← hw2]; exact HO9.out _)
                have hsz2 : w.heap.size ≤ w2.heap.size := by rw [← hw2]; exact HS9.out _
                have hcz2 : w2.cell? ⟨b, off + i, none⟩ = some (.int .i64 X) := by rw [← hw2]; exact HC9.out _
                clear hw2
                have HSY := Lib.hid (show Says row i [⟨x, 0, 0⟩] (i + 1) from .one HX.out (.nil _))
                have HOA := Lib.hid (HOZ.out.alloc (.cells #[Value.int .i64 X, .int .i64 0, .int .i64 0] 113))
                have HNW := Lib.hid (news_block w2 #[Value.int .i64 X, .int .i64 0, .int .i64 0] 113)
                have HON := Lib.hid (show ∀ u ∈ [Value.int .i64 X, .int .i64 0, .int .i64 0], u.oneCell' = true from by intro u hu; simp at hu; rcases hu with rfl | rfl | rfl <;> rfl)
                go_wp2_with (first
                  | (at_builtin; go_must (refine wpList_append_lies _ rfl (.tmp 33) (.tmp 39) _ (by rfl) w.heap.size 113 ti _ 3 24 Tryd.underlying110 hti htz hts htb rfl (by omega) _ m (syC says) (by rfl) HOA.out ⟨_, 0, none⟩ 1 1 [Value.int .i64 X, .int .i64 0, .int .i64 0] (by rfl) rfl HNW.out HON.out (by omega) (by unfold maxLen; omega) (by omega) (by simp; omega) _ rfl ?_); intro g5 cap5 w5 hown5 hgrow5 hat5 hlt5; have HOW := Lib.hid hown5; have HGR := Lib.hid hgrow5; clear hown5 hgrow5 hat5))
                go_roundg (L - (i + 1))
                case measure => omega
                case rel => exact FIN.out ⟨x, 0, 0⟩ 1 _ _ _ _ _ _ HKZ.out HOZ.out (by rw [← HXX.out]; rfl) (by omega) (by omega) HSY.out HOW.out HGR.out
            · have j1 : decide ((0 : Int) < (i : Int)) = false := W.decF (by omega)
              have j1b : decide (0 < i) = false := W.decF hi0
              clear hi0
              have hk9 : ∀ z9, Kp [] w (w1.drewN z9) := fun z9 => HKZ.out.drewN _
              have ho9 : ∀ z9, (w1.drewN z9).ownsRow w.heap.size 113 3 (.slice At m ct) m (syC says) := fun z9 => own_same HOZ.out (fun k _ => rfl)
              have hs9 : ∀ z9, w.heap.size ≤ (w1.drewN z9).heap.size := fun z9 => hsz
              have hc9 : ∀ z9, (w1.drewN z9).cell? ⟨b, off + i, none⟩ = some (.int .i64 X) := fun z9 => hcz
              have HK9 := Lib.hid hk9
              have HO9 := Lib.hid ho9
              have HS9 := Lib.hid hs9
              have HC9 := Lib.hid hc9
              clear hk9 ho9 hs9 hc9
              go_upto_region 14 with (fail)
              go_quiet (fail)
              generalize hw2 : World.drewN _ _ = w2
              have HKZ := Lib.hid (show Kp [] w w2 by rw [← hw2]; exact HK9.out _)
              have HOZ := Lib.hid (show w2.ownsRow w.heap.size 113 3 (.slice At m ct) m (syC says) by rw [← hw2]; exact HO9.out _)
              have hsz2 : w.heap.size ≤ w2.heap.size := by rw [← hw2]; exact HS9.out _
              have hcz2 : w2.cell? ⟨b, off + i, none⟩ = some (.int .i64 X) := by rw [← hw2]; exact HC9.out _
              clear hw2
              have HSY := Lib.hid (show Says row i [⟨x, 0, 0⟩] (i + 1) from .one HX.out (.nil _))
              have HOA := Lib.hid (HOZ.out.alloc (.cells #[Value.int .i64 X, .int .i64 0, .int .i64 0] 113))
              have HNW := Lib.hid (news_block w2 #[Value.int .i64 X, .int .i64 0, .int .i64 0] 113)
              have HON := Lib.hid (show ∀ u ∈ [Value.int .i64 X, .int .i64 0, .int .i64 0], u.oneCell' = true from by intro u hu; simp at hu; rcases hu with rfl | rfl | rfl <;> rfl)
              go_wp2_with (first
                | (at_builtin; go_must (refine wpList_append_lies _ rfl (.tmp 33) (.tmp 39) _ (by rfl) w.heap.size 113 ti _ 3 24 Tryd.underlying110 hti htz hts htb rfl (by omega) _ m (syC says) (by rfl) HOA.out ⟨_, 0, none⟩ 1 1 [Value.int .i64 X, .int .i64 0, .int .i64 0] (by rfl) rfl HNW.out HON.out (by omega) (by unfold maxLen; omega) (by omega) (by simp; omega) _ rfl ?_); intro g5 cap5 w5 hown5 hgrow5 hat5 hlt5; have HOW := Lib.hid hown5; have HGR := Lib.hid hgrow5; clear hown5 hgrow5 hat5))
              go_roundg (L - (i + 1))
              case measure => omega
              case rel => exact FIN.out ⟨x, 0, 0⟩ 1 _ _ _ _ _ _ HKZ.out HOZ.out (by rw [← HXX.out]; rfl) (by omega) (by omega) HSY.out HOW.out HGR.out
end Go.Proofs.YtdpnlmofkkdioaaDoor.Hf
