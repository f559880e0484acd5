/- The reference's writer: run, tokens. -/
import Derived.Test.YtdpnlmofkkdioaaDoorVe
namespace Go.Proofs.YtdpnlmofkkdioaaDoor.Hf
set_option linter.unusedVariables false
set_option linter.unusedSimpArgs false
open Go.RowKit Go.Proofs.YtdpnlmofkkdioaaDoor.W

def RunP (w : World) (l : List Int) (i d most : Nat) (e : Ending) (w' : World) : Prop :=
  ∃ n : Nat, e = .returned (.int .i64 (n : Nat)) ∧ n ≤ most ∧ i + n ≤ l.length ∧ (∀ k, k < n → l[i + k]? = l[i + k - d]?) ∧ ∃ z, w' = w.drewN z
set_option maxHeartbeats 4000000 in
set_option maxRecDepth 100000 in
theorem w_run (w : World) (A : Option Addr) (L c : Nat) (l : List Int) (i d most : Nat) (hL : l.length = L) (hr : RB w A l) (hL5 : L ≤ 100000) (hi : i ≤ L) (hd : d ≤ i) (hm : most ≤ 1000) :
    Calls Tryd.prog 60 #[.slice A L c, .int .i64 (i : Nat), .int .i64 (d : Nat), .int .i64 (most : Nat)] w (RunP w l i d most) := by
  have HL := Lib.hid hL
  have HR := Lib.hid hr
  clear hL hr
  go_enter Tryd.func60, Tryd.ntmps60
  go_wp2_with (fail)
  go_loopg [9] most (fun g s9 wx => ∃ n z : Nat, n + g = most ∧ s9 = .int .i64 (n : Nat) ∧ wx = w.drewN z ∧ i + n ≤ L ∧ Hid (∀ k, k < n → l[i + k]? = l[i + k - d]?))
  case atStart => exact ⟨0, 0, by omega, rfl, rfl, hi, Lib.hid (fun k hk => by omega)⟩
  case round =>
    obtain ⟨n, z, hng, rfl, rfl, hin, hall⟩ := hrel
    obtain ⟨T, hT⟩ : ∃ T, i + n = T := ⟨_, rfl⟩
    have e1 : IntKind.i64.wrap ((i : Int) + (n : Int)) = (T : Int) := by rw [IntWalk.i64_in _ (by omega)]; omega
    have e1b : (i : Int) + (n : Int) = (T : Int) := by omega
    have hend : RunP w l i d most (.returned (.int .i64 (n : Nat))) (w.drewN z) := ⟨n, rfl, by omega, by rw [HL.out]; exact hin, hall.out, z, rfl⟩
    have HEND := Lib.hid (show ∀ z', RunP w l i d most (.returned (.int .i64 (n : Nat))) (w.drewN z') from fun z' => ⟨n, rfl, by omega, by rw [HL.out]; exact hin, hall.out, z', rfl⟩)
    clear hend
    cases gk with
    | zero =>
      obtain rfl : n = most := by omega
      have d1 : decide ((n : Int) < (n : Int)) = false := W.decF (by omega)
      have d2 : decide (n < n) = false := W.decF (by omega)
      go_wp2_with (fail)
      go_quiet (fail)
      clear e1
      go_wp2_with (fail)
      go_ret
      try rw [World.drewN_drewN]
      exact HEND.out _
    | succ g =>
      have d1 : decide ((n : Int) < (most : Int)) = true := W.decT (by omega)
      have d2 : decide (n < most) = true := W.decT (by omega)
      by_cases hTL : T < L
      · have d3 : decide ((T : Int) < (L : Int)) = true := W.decT (by omega)
        have d4 : decide (T < L) = true := W.decT hTL
        obtain ⟨U, hU⟩ : ∃ U, T - d = U := ⟨_, rfl⟩
        have e2 : IntKind.i64.wrap ((T : Int) - (d : Int)) = (U : Int) := by rw [IntWalk.i64_in _ (by omega)]; omega
        have e2b : (T : Int) - (d : Int) = (U : Int) := by omega
        obtain ⟨x, hx⟩ : ∃ x, l[T]? = some x := ⟨_, List.getElem?_eq_getElem (by rw [HL.out]; exact hTL)⟩
        obtain ⟨y, hy⟩ : ∃ y, l[U]? = some y := ⟨_, List.getElem?_eq_getElem (by rw [HL.out]; omega)⟩
        obtain ⟨b, off, rfl, hb, hc⟩ := RB.get HR.out hx
        obtain ⟨b2, off2, hA2, hb2, hc2⟩ := RB.get HR.out hy
        injection hA2 with hA2
        injection hA2 with hA3 hA4
        subst hA3 hA4
        have b1 : (0 : Int) ≤ (T : Int) := by omega
        have b3 : (T : Int) < (L : Int) := by omega
        have b4 : (0 : Int) ≤ (U : Int) := by omega
        have b5 : (U : Int) < (L : Int) := by omega
        have HX := Lib.hid hx
        have HY := Lib.hid hy
        have HT := Lib.hid hT
        have HU := Lib.hid hU
        clear hx hy hT hU hb2
        by_cases hxy : x = y
        · have q1 : (x == y) = true := W.eqT hxy
          have HN := Lib.hid (show ∀ k, k < n + 1 → l[i + k]? = l[i + k - d]? from fun k hk => by
            rcases Nat.lt_succ_iff_lt_or_eq.1 hk with h | rfl
            · exact hall.out k h
            · rw [HT.out, HU.out, HX.out, HY.out, hxy])
          clear hxy
          go_wp2_with (fail)
          go_quiet (fail)
          clear e1
          go_wp2_with (fail)
          go_roundg g
          case measure => omega
          case rel => exact ⟨n + 1, _, by omega, by go_num, rfl, by have := HT.out; omega, HN⟩
        · have q1 : (x == y) = false := W.eqF hxy
          clear hxy
          go_wp2_with (fail)
          go_quiet (fail)
          clear e1
          go_wp2_with (fail)
          go_ret
          try rw [World.drewN_drewN]
          exact HEND.out _
      · have d3 : decide ((T : Int) < (L : Int)) = false := W.decF (by omega)
        have d4 : decide (T < L) = false := W.decF hTL
        clear hTL
        go_wp2_with (fail)
        go_quiet (fail)
        clear e1
        go_wp2_with (fail)
        go_ret
        try rw [World.drewN_drewN]
        exact HEND.out _

/-- A row of the call's own that grows, of whatever elements. -/
theorem grown_kpz {w w2 : World} {base size : Nat} {t : TypeId} {v : Value} {nn : Nat} {xs : List Value} (hown : w.ownsRow base t size v nn xs) (hg : w.grownBy w2 v.ownBlock) : ∃ T, Kp T w w2 ∧ (∀ k ∈ T, base ≤ k) := by
  rcases hown.2 with ⟨hv, _⟩ | ⟨g', cap', cur, hv, hb, hg', rest⟩
  · refine ⟨[], Kp.of_grown hg (fun k hk => ?_), fun k hk => (by cases hk)⟩
    rw [hv] at hk
    cases hk
  · refine ⟨[g'], Kp.of_grown hg (fun k hk => ?_), fun k hk => ?_⟩
    · rw [hv] at hk
      exact .inl (by rw [← Option.some.inj hk]; exact List.mem_cons_self ..)
    · rw [List.mem_singleton.1 hk]
      exact hb
def tkC (l : List Tok) : List Value := l.flatMap fun t => [.int .u8 t.x, .int .i64 (t.len : Nat), .int .i64 (t.dist : Nat)]
theorem tkC_snoc (l : List Tok) (t : Tok) : tkC (l ++ [t]) = tkC l ++ [.int .u8 t.x, .int .i64 (t.len : Nat), .int .i64 (t.dist : Nat)] := by unfold tkC; rw [List.flatMap_append]; simp
theorem tok_info : ∃ i : TypeInfo, Tryd.prog.info? 104 = some i ∧ i.zero = some (.agg #[.int .u8 0, .int .i64 0, .int .i64 0]) ∧ i.size = 3 ∧ i.bytes = 24 :=
  info_parts (by kernel_rfl)
theorem Toks.snoc_lit {b : List Int} {i j : Nat} {l : List Tok} {x : Int} (h : Toks b i l j) (hx : b[j]? = some x) : Toks b i (l ++ [⟨x, 0, 0⟩]) (j + 1) := by
  induction h with
  | nil i => exact .lit hx (.nil _)
  | lit h _ ih => exact .lit h (ih hx)
  | cpy h1 h2 h3 h4 h5 h6 h7 _ ih => exact .cpy h1 h2 h3 h4 h5 h6 h7 (ih hx)
theorem Toks.snoc_cpy {b : List Int} {i j L D : Nat} {l : List Tok} (h : Toks b i l j) (h1 : 3 ≤ L) (h2 : L ≤ 258) (h3 : 1 ≤ D) (h4 : D ≤ 200) (h5 : D ≤ j) (h6 : j + L ≤ b.length) (h7 : ∀ n, n < L → b[j + n]? = b[j + n - D]?) : Toks b i (l ++ [⟨0, L, D⟩]) (j + L) := by
  induction h with
  | nil i => exact .cpy h1 h2 h3 h4 h5 h6 h7 (.nil _)
  | lit h _ ih => exact .lit h (ih h5 h6 h7)
  | cpy g1 g2 g3 g4 g5 g6 g7 _ ih => exact .cpy g1 g2 g3 g4 g5 g6 g7 (ih h5 h6 h7)
theorem Toks.count {b : List Int} {i j : Nat} {l : List Tok} (h : Toks b i l j) : i + l.length ≤ j := by
  induction h with
  | nil i => simp
  | lit h _ ih => simp only [List.length_cons]; omega
  | cpy h1 h2 h3 h4 h5 h6 h7 _ ih => simp only [List.length_cons]; omega
/-- The best copy so far. -/
def Bst (l : List Int) (j most best at_ : Nat) : Prop := best ≤ most ∧ (0 < best → 1 ≤ at_ ∧ at_ ≤ 200 ∧ at_ ≤ j ∧ ∀ k, k < best → l[j + k]? = l[j + k - at_]?)
def TokP (w : World) (l : List Int) (i end_ : Nat) (e : Ending) (w' : World) : Prop :=
  ∃ A c toks n, e = .returned (.slice A n c) ∧ toks.length = n ∧ w'.ownsRow w.heap.size 104 3 (.slice A n c) n (tkC toks) ∧ Toks l i toks end_ ∧ Kp [] w w'
set_option maxHeartbeats 8000000 in
set_option maxRecDepth 100000 in
theorem w_tokens (w : World) (A : Option Addr) (L c : Nat) (l : List Int) (i end_ : Nat) (cp : Bool) (hL : l.length = L) (hr : RB w A l) (hB : Bytes l) (hL5 : L ≤ 5000) (hi : i ≤ end_) (he : end_ ≤ L) :
    Calls Tryd.prog 40 #[.slice A L c, .int .i64 (i : Nat), .int .i64 (end_ : Nat), .bool cp] w (TokP w l i end_) := by
  have HL := Lib.hid hL
  have HR := Lib.hid hr
  have HBY := Lib.hid hB
  have H0 := Lib.hid (World.ownsRow_nil w w.heap.size 104 3)
  have CR := Lib.hid (fun (w' : World) (hk : Kp [] w w') (j d most : Nat) (hj : j ≤ L) (hd : d ≤ j) (hm : most ≤ 1000) => w_run w' A L c l j d most hL (RV.below hr (hk.below (Nat.le_refl _) (by simp))) (by omega) hj hd hm)
  clear hL hr hB
  obtain ⟨ti, hti, htz, hts, htb⟩ := tok_info
  go_enter Tryd.func40, Tryd.ntmps40
  go_wp2_with (fail)
  go_loopg [1, 9] (end_ - i) (fun gk s1 s9 wx => ∃ j At ct toks n, j + gk = end_ ∧ i ≤ j ∧ s1 = .int .i64 (j : Nat) ∧ s9 = .slice At n ct ∧ Hid (toks.length = n ∧ wx.ownsRow w.heap.size 104 3 (.slice At n ct) n (tkC toks) ∧ Toks l i toks j ∧ Kp [] w wx) ∧ n ≤ 5000)
  case atStart => exact ⟨i, none, 0, [], 0, by omega, Nat.le_refl _, rfl, rfl, Lib.hid ⟨rfl, H0.out, .nil _, Kp.refl _ _⟩, by omega⟩
  case round =>
    obtain ⟨j, At, ct, toks, n, hjg, hij, rfl, rfl, hst, hn5⟩ := hrel
    obtain ⟨wo, rfl⟩ : ∃ wo : World, wo = wr := ⟨_, rfl⟩
    cases gk with
    | zero =>
      obtain rfl : j = end_ := by omega
      have hk : ¬ (j : Int) < (j : Int) := by omega
      go_wp2_with (fail)
      go_ret
      obtain ⟨h1, h2, h3, h4⟩ := hst.out
      exact ⟨At, ct, toks, n, rfl, h1, h2, h3, h4⟩
    | succ g0 =>
      have hk : (j : Int) < (end_ : Int) := by omega
      have hkw := hst.out.2.2.2
      have HKW := Lib.hid hkw
      clear hkw
      obtain ⟨most, hmost⟩ : ∃ m, min 258 (end_ - j) = m := ⟨_, rfl⟩
      have hms : most ≤ 258 ∧ most ≤ end_ - j := by omega
      have em1 : min (258 : Int) ((end_ : Int) - (j : Int)) = (most : Int) := by omega
      go_upto_block 2 with (fail)
      go_cut [10, 11] (fun s10 s11 wz => ∃ best at_ z : Nat, s10 = .int .i64 (best : Nat) ∧ s11 = .int .i64 (at_ : Nat) ∧ wz = wo.drewN z ∧ Hid (Bst l j most best at_))
      case first =>
        go_wp2_with (fail)
        go_loopg [10, 11, 12] 200 (fun gj s10 s11 s12 wx => ∃ best at_ d z : Nat, d + gj = 201 ∧ 1 ≤ d ∧ s12 = .int .i64 (d : Nat) ∧ s10 = .int .i64 (best : Nat) ∧ s11 = .int .i64 (at_ : Nat) ∧ wx = wo.drewN z ∧ Hid (Bst l j most best at_))
        case atStart => exact ⟨0, 0, 1, 0, by omega, by omega, rfl, rfl, rfl, rfl, Lib.hid ⟨Nat.zero_le _, fun h => by omega⟩⟩
        case round =>
          obtain ⟨best, at_, d, z, hdg, hd1, rfl, rfl, rfl, rfl, hB⟩ := hrel
          have hbm := hB.out.1
          cases cp with
          | false =>
            go_wp2_with (fail)
            go_meet
            exact ⟨best, at_, z, rfl, rfl, rfl, hB⟩
          | true =>
            by_cases hdj : d ≤ j
            · have i1 : (d : Int) ≤ (j : Int) := by omega
              cases gk with
              | zero =>
                obtain rfl : d = 201 := by omega
                have i2 : ¬ ((201 : Nat) : Int) ≤ 200 := by omega
                go_wp2_with (fail)
                go_meet
                exact ⟨best, at_, z, rfl, rfl, rfl, hB⟩
              | succ gj =>
                have i2 : (d : Int) ≤ 200 := by omega
                have CRR := Lib.hid (CR.out (wo.drewN z) (HKW.out.drewN z) j d most (by omega) hdj (by omega))
                go_upto_region 8 with (first
                  | (go_at_call 60; go_must (refine CRR.out.mono ?_); rintro e w5 ⟨m, rfl, hm1, hm2, hm3, z5, rfl⟩; have HM3 := Lib.hid (show m ≤ most ∧ ∀ k, k < m → l[j + k]? = l[j + k - d]? from ⟨hm1, hm3⟩); clear hm3))
                by_cases hmb : best < m
                · have i3 : (best : Int) < (m : Int) := by omega
                  have HB2 := Lib.hid (show Bst l j most m d from ⟨HM3.out.1, fun _ => ⟨hd1, by omega, hdj, HM3.out.2⟩⟩)
                  clear hmb
                  go_wp2_with (fail)
                  go_roundg gj
                  case measure => omega
                  case rel => exact ⟨m, d, d + 1, _, by omega, by omega, by go_num, rfl, rfl, rfl, HB2⟩
                · have i3 : ¬ (best : Int) < (m : Int) := by omega
                  clear hmb
                  go_wp2_with (fail)
                  go_roundg gj
                  case measure => omega
                  case rel => exact ⟨best, at_, d + 1, _, by omega, by omega, by go_num, rfl, rfl, rfl, hB⟩
            · have i1 : ¬ (d : Int) ≤ (j : Int) := by omega
              clear hdj
              go_wp2_with (fail)
              go_meet
              exact ⟨best, at_, z, rfl, rfl, rfl, hB⟩
      case rest =>
        obtain ⟨best, at_, z, rfl, rfl, rfl, hB⟩ := hcut
        have hbm := hB.out.1
        clear em1
        have hkz : Kp [] wo (wo.drewN z) := (Kp.refl _ _).drewN _
        have HKZ := Lib.hid (HKW.out.trans hkz)
        have HOZ := Lib.hid (show (wo.drewN z).ownsRow w.heap.size 104 3 (.slice At n ct) n (tkC toks) from own_same hst.out.2.1 (fun k _ => rfl))
        have hsz := HKZ.out.size
        have HTK := Lib.hid (show toks.length = n ∧ Toks l i toks j from ⟨hst.out.1, hst.out.2.2.1⟩)
        clear hkz hst
        generalize wo.drewN z = w1 at *
        by_cases hb3 : best < 3
        · have i1 : (best : Int) < 3 := by omega
          obtain ⟨x, hx⟩ : ∃ x, l[j]? = some x := ⟨_, List.getElem?_eq_getElem (by rw [HL.out]; omega)⟩
          obtain ⟨b1, off, rfl, hb1, hcc⟩ := RB.get (show RB w1 A l from HR.out.below (HKZ.out.below (Nat.le_refl _) (by simp))) hx
          have HX := Lib.hid hx
          have b1 : (0 : Int) ≤ (j : Int) := by omega
          have b2 : (j : Int) < (L : Int) := by omega
          have HOA := Lib.hid (HOZ.out.alloc (.cells #[.int .u8 x, .int .i64 0, .int .i64 0] 104))
          have HNW := Lib.hid (news_block w1 #[.int .u8 x, .int .i64 0, .int .i64 0] 104)
          clear hx hb3
          have HON := Lib.hid (show ∀ u ∈ [Value.int .u8 x, .int .i64 0, .int .i64 0], u.oneCell' = true from by intro u hu; simp at hu; rcases hu with rfl | rfl <;> rfl)
          go_wp2_with (first
            | (at_builtin; go_must (refine wpList_append_lies _ rfl (.tmp 44) (.tmp 50) _ (by rfl) w.heap.size 104 ti _ 3 24 Tryd.underlying77 hti htz hts htb rfl (by omega) _ n (tkC toks) (by rfl) HOA.out ⟨_, 0, none⟩ 1 1 [.int .u8 x, .int .i64 0, .int .i64 0] (by rfl) rfl HNW.out HON.out (by omega) (by unfold maxLen; omega) (by omega) (by simp; omega) _ rfl ?_); intro g5 cap5 w5 hown5 hgrow5 hat5 hlt5; have HOW := Lib.hid hown5; have HGR := Lib.hid hgrow5; clear hown5 hgrow5 hat5))
          go_roundg g0
          case measure => omega
          case rel =>
            have hk5 : Kp [] w w5 := by
              obtain ⟨T, hT1, hT2⟩ := grown_kpz HOA.out HGR.out
              exact (((HKZ.out.alloc _).mono (T := T) (by simp)).trans hT1).mono (fun k hm => .inr (hT2 k hm))
            refine ⟨j + 1, _, _, toks ++ [⟨x, 0, 0⟩], n + 1, by omega, by omega, by go_num, rfl, Lib.hid ⟨by rw [List.length_append, HTK.out.1]; rfl, ?_, HTK.out.2.snoc_lit HX.out, hk5⟩, ?_⟩
            · rw [tkC_snoc]; exact HOW.out
            · have h8 := (HTK.out.2.snoc_lit HX.out).count
              rw [List.length_append, HTK.out.1] at h8
              simp only [List.length_cons, List.length_nil] at h8
              omega
        · have i1 : ¬ (best : Int) < 3 := by omega
          obtain ⟨a1, a2, a3, a4⟩ := hB.out.2 (by omega)
          have HA4 := Lib.hid (show 3 ≤ best ∧ ∀ k, k < best → l[j + k]? = l[j + k - at_]? from ⟨by omega, a4⟩)
          have HOA := Lib.hid (HOZ.out.alloc (.cells #[.int .u8 0, .int .i64 (best : Nat), .int .i64 (at_ : Nat)] 104))
          have HNW := Lib.hid (news_block w1 #[.int .u8 0, .int .i64 (best : Nat), .int .i64 (at_ : Nat)] 104)
          have HON := Lib.hid (show ∀ u ∈ [Value.int .u8 0, .int .i64 (best : Nat), .int .i64 (at_ : Nat)], u.oneCell' = true from by intro u hu; simp at hu; rcases hu with rfl | rfl | rfl <;> rfl)
          clear hb3 a4
          go_wp2_with (first
            | (at_builtin; go_must (refine wpList_append_lies _ rfl (.tmp 54) (.tmp 58) _ (by rfl) w.heap.size 104 ti _ 3 24 Tryd.underlying77 hti htz hts htb rfl (by omega) _ n (tkC toks) (by rfl) HOA.out ⟨_, 0, none⟩ 1 1 [.int .u8 0, .int .i64 (best : Nat), .int .i64 (at_ : Nat)] (by rfl) rfl HNW.out HON.out (by omega) (by unfold maxLen; omega) (by omega) (by simp; omega) _ rfl ?_); intro g5 cap5 w5 hown5 hgrow5 hat5 hlt5; have HOW := Lib.hid hown5; have HGR := Lib.hid hgrow5; clear hown5 hgrow5 hat5))
          go_roundg (end_ - (j + best))
          case measure => omega
          case rel =>
            have hk5 : Kp [] w w5 := by
              obtain ⟨T, hT1, hT2⟩ := grown_kpz HOA.out HGR.out
              exact (((HKZ.out.alloc _).mono (T := T) (by simp)).trans hT1).mono (fun k hm => .inr (hT2 k hm))
            refine ⟨j + best, _, _, toks ++ [⟨0, best, at_⟩], n + 1, by omega, by omega, by go_num, rfl, Lib.hid ⟨by rw [List.length_append, HTK.out.1]; rfl, ?_, HTK.out.2.snoc_cpy HA4.out.1 (by omega) a1 a2 a3 (by rw [HL.out]; omega) HA4.out.2, hk5⟩, ?_⟩
            · rw [tkC_snoc]; exact HOW.out
            · have h8 := (HTK.out.2.snoc_cpy HA4.out.1 (by omega) a1 a2 a3 (by rw [HL.out]; omega) HA4.out.2).count
              rw [List.length_append, HTK.out.1] at h8
              simp only [List.length_cons, List.length_nil] at h8
              omega
end Go.Proofs.YtdpnlmofkkdioaaDoor.Hf
