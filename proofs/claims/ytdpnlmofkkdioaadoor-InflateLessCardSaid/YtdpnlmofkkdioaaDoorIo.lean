/- The inflater: what a step's walk tells; storedHead, stored. -/
import Derived.Test.YtdpnlmofkkdioaaDoorIn
namespace Go.Proofs.YtdpnlmofkkdioaaDoor.Hf
set_option linter.unusedVariables false
set_option linter.unusedSimpArgs false
open Go.RowKit Go.Proofs.YtdpnlmofkkdioaaDoor.W

def usesT : Ph → Bool
  | .lit => true
  | .lbits => true
  | .dst => true
  | .dbits => true
  | .cpy => true
  | _ => false
def usesC : Ph → Bool
  | .len => true
  | .rep => true
  | _ => false
structure Tbs (w : World) (D : List Nat) (l e c : Option Addr) (m : M) : Prop where
  l : usesT m.ph = true → ∃ t, l = some ⟨t, 0, none⟩ ∧ Tb w D t m.lt
  e : usesT m.ph = true → ∃ t, e = some ⟨t, 0, none⟩ ∧ Tb w D t m.ds
  c : usesC m.ph = true → ∃ t, c = some ⟨t, 0, none⟩ ∧ Tb w D t m.cd
/-- The inflater at d, its reader, its ring, its row: the machine m, what it gave, the bits that it holds; a byte that waits. -/
structure Inf (w : World) (d r p q g : Nat) (m : M) (out : List Int) (bs : List Bool) (rdy : Bool) (o : Int) : Prop where
  db : ∃ l e c, DB w d r p g l e c m rdy o ∧ Tbs w [d, r, p, q, g] l e c m
  rd : ∃ b0, Rd w r b0 ∧ (m.why = 0 → b0 = bs)
  rg : Rg w p q 32768 out
  row : w.ownsRow 0 3 1 (.slice (some ⟨g, 0, none⟩) m.row.length 320) m.row.length (ints m.row)
  ne : [d, r, p, q, g].Nodup
section
variable {w w' : World} {d r p q g : Nat} {l e c : Option Addr} {m m' : M} {out : List Int} {bs bs' : List Bool} {rdy rdy' : Bool} {o o' : Int}
theorem Tbs.kept {T D : List Nat} (h : Tbs w D l e c m) (hk : Kp T w w') (hT : ∀ k ∈ T, k ∈ D) : Tbs w' D l e c m where
  l hu := by obtain ⟨t, h1, h2⟩ := h.l hu; exact ⟨t, h1, h2.kept hk fun k hk => .inl (hT k hk)⟩
  e hu := by obtain ⟨t, h1, h2⟩ := h.e hu; exact ⟨t, h1, h2.kept hk fun k hk => .inl (hT k hk)⟩
  c hu := by obtain ⟨t, h1, h2⟩ := h.c hu; exact ⟨t, h1, h2.kept hk fun k hk => .inl (hT k hk)⟩
theorem Tbs.none {D : List Nat} (h1 : usesT m.ph = false) (h2 : usesC m.ph = false) : Tbs w D l e c m :=
  ⟨fun h => (by rw [h1] at h; cases h), fun h => (by rw [h1] at h; cases h), fun h => (by rw [h2] at h; cases h)⟩
/-- Both machines use the same tables. -/
theorem Tbs.same {D : List Nat} (h : Tbs w D l e c m) (h1 : usesT m'.ph = true → usesT m.ph = true) (h2 : usesC m'.ph = true → usesC m.ph = true) (e1 : m'.lt = m.lt) (e2 : m'.ds = m.ds) (e3 : m'.cd = m.cd) : Tbs w D l e c m' where
  l hu := by rw [e1]; exact h.l (h1 hu)
  e hu := by rw [e2]; exact h.e (h1 hu)
  c hu := by rw [e3]; exact h.c (h2 hu)
theorem Inf.turn (h : Inf w d r p q g m out bs rdy o) (hk : Kp [d, r] w w') (hd : DB w' d r p g l e c m' rdy' o') (hT : Tbs w' [d, r, p, q, g] l e c m') (hr : ∃ b0, Rd w' r b0 ∧ (m'.why = 0 → b0 = bs')) (hrow : m'.row = m.row) : Inf w' d r p q g m' out bs' rdy' o' := by
  have hne := h.ne
  simp only [List.nodup_cons, List.mem_cons, List.not_mem_nil, or_false, not_or] at hne
  obtain ⟨⟨n1, n2, n3, n4⟩, ⟨n5, n6, n7⟩, ⟨n8, n9⟩, n10, _⟩ := hne
  refine ⟨⟨l, e, c, hd, hT⟩, hr, h.rg.kept hk ?_ ?_, ?_, h.ne⟩
  · simp; exact ⟨fun h => n2 h.symm, fun h => n5 h.symm⟩
  · simp; exact ⟨fun h => n3 h.symm, fun h => n6 h.symm⟩
  · rw [hrow]
    refine own_kp h.row hk ?_
    simp; exact ⟨fun h => n4 h.symm, fun h => n7 h.symm⟩
/-- The same with a byte that is given. -/
theorem Inf.turnG (h : Inf w d r p q g m out bs rdy o) (hk : Kp [d, r, p, q] w w') (hd : DB w' d r p g l e c m' rdy' o') (hT : Tbs w' [d, r, p, q, g] l e c m') (hr : ∃ b0, Rd w' r b0 ∧ (m'.why = 0 → b0 = bs')) {out' : List Int} (hg : Rg w' p q 32768 out') (hrow : m'.row = m.row) : Inf w' d r p q g m' out' bs' rdy' o' := by
  have hne := h.ne
  simp only [List.nodup_cons, List.mem_cons, List.not_mem_nil, or_false, not_or] at hne
  obtain ⟨⟨n1, n2, n3, n4⟩, ⟨n5, n6, n7⟩, ⟨n8, n9⟩, n10, _⟩ := hne
  refine ⟨⟨l, e, c, hd, hT⟩, hr, hg, ?_, h.ne⟩
  rw [hrow]
  refine own_kp h.row hk ?_
  simp; exact ⟨fun h => n4 h.symm, fun h => n7 h.symm, fun h => n9 h.symm, fun h => n10 h.symm⟩
def rdyOf : List Int → Bool
  | [] => false
  | _ => true
def byteOf : List Int → Int
  | [] => 0
  | b :: _ => b
def StepPost (w : World) (d r p q g : Nat) (m : M) (out : List Int) (bs : List Bool) (en : Ending) (w' : World) : Prop :=
  (step m out bs = none ∧ en = .returned (.bool false) ∧ Inf w' d r p q g m out bs false 0 ∧ Kp [d, r, p, q, g] w w') ∨
  (∃ rr, step m out bs = some rr ∧ en = .returned (.bool true) ∧ Inf w' d r p q g rr.1 (out ++ rr.2.1) (bs.drop rr.2.2) (rdyOf rr.2.1) (byteOf rr.2.1) ∧ Kp [d, r, p, q, g] w w')
/-- What the bits' taking tells, both ways. -/
theorem take_yes {n : Nat} (hr : Rd w r bs) (hl : bs.length < 64) (hn : n ≤ 32) (hle : n ≤ bs.length) :
    Calls Tryd.prog 49 #[.pointer (some ⟨r, 0, none⟩), .int .i64 n] w fun e w' => e = .returned (.tuple #[.int .u32 (num (bs.take n) : Nat), .bool true]) ∧ Rd w' r (bs.drop n) ∧ Kp [r] w w' := by
  have h := c_take r bs n w hr hl hn
  unfold TakePost at h
  rw [if_pos hle, if_pos hle, W.decT hle] at h
  exact h
theorem take_no {n : Nat} (hr : Rd w r bs) (hl : bs.length < 64) (hn : n ≤ 32) (hle : ¬ n ≤ bs.length) :
    Calls Tryd.prog 49 #[.pointer (some ⟨r, 0, none⟩), .int .i64 n] w fun e w' => e = .returned (.tuple #[.int .u32 0, .bool false]) ∧ Rd w' r bs ∧ Kp [r] w w' := by
  have h := c_take r bs n w hr hl hn
  unfold TakePost at h
  rw [if_neg hle, if_neg hle, W.decF hle] at h
  exact h
/-- Taking fails: nothing is told. -/
theorem Inf.wait (h : Inf w d r p q g m out bs false 0) (hk : Kp [r] w w') (hr : Rd w' r bs) (hs : step m out bs = none) : StepPost w d r p q g m out bs (.returned (.bool false)) w' := by
  obtain ⟨l, e, c, hd, hT⟩ := h.db
  have hne := h.ne
  simp only [List.nodup_cons, List.mem_cons, List.not_mem_nil, or_false, not_or] at hne
  refine .inl ⟨hs, rfl, h.turn (hk.mono (by simp)) (hd.kept hk (by simp; exact hne.1.1)) (hT.kept hk (by simp)) ⟨bs, hr, fun _ => rfl⟩ rfl, hk.mono (by simp)⟩
/-- A step that gives nothing. -/
theorem Inf.done (h : Inf w d r p q g m out bs false 0) {rr : Out} (hs : step m out bs = some rr) {k : Nat} (hrr : rr = (m', [], k)) (hk : Kp [d, r] w w') (hd : DB w' d r p g l e c m' false 0) (hT : Tbs w' [d, r, p, q, g] l e c m') {b1 : List Bool} (hr : Rd w' r b1) (hb : m'.why = 0 → b1 = bs.drop k) (hrow : m'.row = m.row) : StepPost w d r p q g m out bs (.returned (.bool true)) w' := by
  subst hrr
  refine .inr ⟨_, hs, rfl, ?_, hk.mono (by simp)⟩
  show Inf w' d r p q g m' (out ++ []) (bs.drop k) false 0
  rw [List.append_nil]
  exact h.turn hk hd hT ⟨b1, hr, hb⟩ hrow
/-- A step that gives a byte. -/
theorem Inf.gave (h : Inf w d r p q g m out bs false 0) {rr : Out} (hs : step m out bs = some rr) {k : Nat} {b : Int} (hrr : rr = (m', [b], k)) (hk : Kp [d, r, p, q] w w') (hd : DB w' d r p g l e c m' true b) (hT : Tbs w' [d, r, p, q, g] l e c m') {b1 : List Bool} (hr : Rd w' r b1) (hb : m'.why = 0 → b1 = bs.drop k) (hg : Rg w' p q 32768 (out ++ [b])) (hrow : m'.row = m.row) : StepPost w d r p q g m out bs (.returned (.bool true)) w' := by
  subst hrr
  exact .inr ⟨_, hs, rfl, h.turnG hk hd hT ⟨b1, hr, hb⟩ hg hrow, hk.mono (by simp)⟩
end
set_option maxHeartbeats 2000000 in
set_option maxRecDepth 100000 in
theorem c_sth {w : World} {d r p q g : Nat} {m : M} {out : List Int} {bs : List Bool} (h : Inf w d r p q g m out bs false 0) (h0 : m.why = 0) (hph : m.ph = .sth) (hl : bs.length < 64) :
    Calls Tryd.prog 52 #[.pointer (some ⟨d, 0, none⟩)] w (StepPost w d r p q g m out bs) := by
  obtain ⟨l, e, c, hd, hT⟩ := h.db
  obtain ⟨b0, hr, hb⟩ := h.rd
  obtain rfl := hb h0
  have hne := h.ne
  simp only [List.nodup_cons, List.mem_cons, List.not_mem_nil, or_false, not_or] at hne
  have hdr : d ∉ [r] := by simp; exact hne.1.1
  have hrd : r ∉ [d] := by simp; exact fun h => hne.1.1 h.symm
  have c0 := hd.a (i := 0) rfl
  have hlt := hd.lt
  have H := Lib.hid h
  have HD := Lib.hid hd
  have HT := Lib.hid hT
  by_cases hle : 32 ≤ b0.length
  · have CT := Lib.hid (take_yes hr hl (by omega) hle)
    have hv := num_take_lt b0 (n := 32)
    obtain ⟨v, hv'⟩ : ∃ v, num (b0.take 32) = v := ⟨_, rfl⟩
    rw [hv'] at CT hv
    have HS := Lib.hid (show step m out b0 = some (sthM m v, [], 32) by unfold step; rw [hph]; dsimp only; rw [if_pos hle, hv'])
    obtain ⟨A, hA⟩ : ∃ A, v % 65536 = A := ⟨_, rfl⟩
    obtain ⟨B, hB⟩ : ∃ B, v / 65536 = B := ⟨_, rfl⟩
    have e1 : bits .and .u32 (v : Int) 65535 = (A : Int) := by
      have := u32_and_nat v 65535 (by omega) (by omega)
      rw [show (65535 : Nat) = 2 ^ 16 - 1 from rfl, Nat.and_two_pow_sub_one_eq_mod] at this
      rw [← hA]
      exact this
    have e2 : (v : Int) / 65536 = (B : Int) := by omega
    have HM := Lib.hid (show sthM m v = if A + B = 65535 then { m with left := A, ph := .sto } else stopM { m with left := A } 11 by unfold sthM; rw [hA, hB])
    have hAB : A < 65536 ∧ B < 65536 := by omega
    clear hv' hA hB h hd hT hr
    by_cases hs : A + B = 65535
    · have i1 : ((A : Int) + (B : Int) == 65535) = true := W.eqT (by omega)
      have i2 : ((A : Int) + (B : Int) != 65535) = false := W.neF (by omega)
      go_enter Tryd.func52, Tryd.ntmps52
      go_wp2_with (first
        | (go_at_call 49; go_must (refine CT.out.mono ?_); rintro en w2 ⟨rfl, hr2, hk2⟩
           have HR2 := Lib.hid hr2; have HK2 := Lib.hid hk2; have HD2 := Lib.hid (HD.out.kept hk2 hdr); have g35 := HD2.out.b (j := 4) rfl; have gf := HD2.out.fz; have gl := HD2.out.lt; clear hr2 hk2)
        | (go_at_call 51; go_must (refine (c_then .sto (HD2.out.left A)).mono ?_); rintro en w3 ⟨rfl, hd3, hk3⟩))
      go_ret
      have hk4 : Kp [d] w2 w3 := (kp_set (by simp) _ _).trans hk3
      exact H.out.done HS.out (by rw [HM.out, if_pos hs]) ((HK2.out.mono (by simp)).trans (hk4.mono (by simp))) hd3 (Tbs.none rfl rfl) (HR2.out.kept hk4 hrd) (fun _ => rfl) rfl
    · have i1 : ((A : Int) + (B : Int) == 65535) = false := W.eqF (by omega)
      have i2 : ((A : Int) + (B : Int) != 65535) = true := W.neT (by omega)
      go_enter Tryd.func52, Tryd.ntmps52
      go_wp2_with (first
        | (go_at_call 49; go_must (refine CT.out.mono ?_); rintro en w2 ⟨rfl, hr2, hk2⟩
           have HR2 := Lib.hid hr2; have HK2 := Lib.hid hk2; have HD2 := Lib.hid (HD.out.kept hk2 hdr); have g35 := HD2.out.b (j := 4) rfl; have gf := HD2.out.fz; have gl := HD2.out.lt; clear hr2 hk2)
        | (go_at_call 56; go_must (refine (c_stop 11 (HD2.out.left A)).mono ?_); rintro en w3 ⟨rfl, hd3, hk3⟩))
      go_ret
      have hk4 : Kp [d] w2 w3 := (kp_set (by simp) _ _).trans hk3
      exact H.out.done HS.out (by rw [HM.out, if_neg hs]) ((HK2.out.mono (by simp)).trans (hk4.mono (by simp))) hd3 (Tbs.none (by show usesT m.ph = false; rw [hph]; rfl) (by show usesC m.ph = false; rw [hph]; rfl)) (HR2.out.kept hk4 hrd) (fun _ => rfl) rfl
  · have CT := Lib.hid (take_no hr hl (by omega) hle)
    have HS := Lib.hid (show step m out b0 = none by unfold step; rw [hph]; dsimp only; rw [if_neg hle])
    clear h hd hT hr
    go_enter Tryd.func52, Tryd.ntmps52
    go_wp2_with (first
      | (go_at_call 49; go_must (refine CT.out.mono ?_); rintro en w2 ⟨rfl, hr2, hk2⟩))
    go_ret
    exact H.out.wait hk2 hr2 HS.out
set_option maxHeartbeats 2000000 in
set_option maxRecDepth 100000 in
theorem c_sto {w : World} {d r p q g : Nat} {m : M} {out : List Int} {bs : List Bool} (h : Inf w d r p q g m out bs false 0) (h0 : m.why = 0) (hph : m.ph = .sto) (hl : bs.length < 64) (hok : m.left ≤ 65535) :
    Calls Tryd.prog 68 #[.pointer (some ⟨d, 0, none⟩)] w (StepPost w d r p q g m out bs) := by
  obtain ⟨l, e, c, hd, hT⟩ := h.db
  obtain ⟨b0, hr, hb⟩ := h.rd
  obtain rfl := hb h0
  have hne := h.ne
  simp only [List.nodup_cons, List.mem_cons, List.not_mem_nil, or_false, not_or] at hne
  have hdr : d ∉ [r] := by simp; exact hne.1.1
  have hrd : r ∉ [d] := by simp; exact fun h => hne.1.1 h.symm
  have c0 := hd.a (i := 0) rfl
  have hlt := hd.lt
  have H := Lib.hid h
  have HD := Lib.hid hd
  have HT := Lib.hid hT
  have hleft : m.left ≤ 65535 := hok
  have c35 := hd.b (j := 4) rfl
  have RG := Lib.hid h.rg
  have hpr : p ∉ [r] := by simp; exact fun h => hne.2.1.1 h.symm
  have hqr : q ∉ [r] := by simp; exact fun h => hne.2.1.2.1 h.symm
  have hpd : p ∉ [d] := by simp; exact fun h => hne.1.2.1 h.symm
  have hqd : q ∉ [d] := by simp; exact fun h => hne.1.2.2.1 h.symm
  by_cases hz : m.left = 0
  · have HS := Lib.hid (show step m out b0 = some (overM m, [], 0) by unfold step; rw [hph]; dsimp only; rw [if_pos hz])
    have HR := Lib.hid hr
    rw [hz] at c35
    have CO := Lib.hid (c_over hd)
    clear h hd hT hr
    go_enter Tryd.func68, Tryd.ntmps68
    go_wp2_with (first
      | (go_at_call 72; go_must (refine CO.out.mono ?_); rintro en w4 ⟨rfl, hd4, hk4⟩))
    go_ret
    exact H.out.done HS.out rfl (hk4.mono (by simp)) hd4 (Tbs.none rfl rfl) (HR.out.kept hk4 hrd) (fun _ => rfl) rfl
  by_cases hle : 8 ≤ b0.length
  · have CT := Lib.hid (take_yes hr hl (by omega) hle)
    have hv := num_take_lt b0 (n := 8)
    obtain ⟨v, hv'⟩ : ∃ v, num (b0.take 8) = v := ⟨_, rfl⟩
    rw [hv'] at CT hv
    have HS := Lib.hid (show step m out b0 = some (stoM m, [((v : Nat) : Int)], 8) by unfold step; rw [hph]; dsimp only; rw [if_neg hz, if_pos hle, hv'])
    obtain ⟨L, hL⟩ : ∃ L, m.left = L + 1 := ⟨m.left - 1, by omega⟩
    have hv8 : v < 256 := by omega
    have ev : (v : Int) % 256 = (v : Int) := by omega
    have HL := Lib.hid hL
    have hL16 : L < 65535 := by omega
    have hzi : (((L + 1 : Nat) : Int) == 0) = false := W.eqF (by omega)
    have hzj : ((L : Int) + 1 == 0) = false := W.eqF (by omega)
    have eL : ((L + 1 : Nat) : Int) - 1 = (L : Int) := by omega
    rw [hL] at c35
    clear hv' h hd hT hr hz hleft hL
    by_cases hs : L = 0
    · have HM := Lib.hid (show stoM m = overM { m with left := L } by unfold stoM; rw [HL.out, if_pos (by omega), hs])
      have i1 : ((L : Int) == 0) = true := W.eqT (by omega)
      clear hs
      go_enter Tryd.func68, Tryd.ntmps68
      go_wp2_with (first
        | (go_at_call 49; go_must (refine CT.out.mono ?_); rintro en w2 ⟨rfl, hr2, hk2⟩
           have HR2 := Lib.hid hr2; have HK2 := Lib.hid hk2; have HD2 := Lib.hid (HD.out.kept hk2 hdr); have g35 := HD2.out.b (j := 4) rfl; rw [HL.out] at g35; have RG2 := Lib.hid (show ∀ i v, Rg (w2.setCell ⟨d, i, none⟩ v) p q 32768 out from fun i v => (RG.out.kept HK2.out hpr hqr).kept (kp_set (S := [d]) (by simp) i v) hpd hqd); have gf := HD2.out.fz; have gl := HD2.out.lt; clear hr2 hk2)
        | (go_at_call 71; go_must (refine (c_give (v : Int) (HD2.out.left L) (RG2.out _ _) (by omega) (by omega) (by omega) hne.1.2.1 hne.1.2.2.1).mono ?_); rintro en w3 ⟨rfl, hd3, hg3, hk3⟩
           have HD3 := Lib.hid hd3; have HG3 := Lib.hid hg3; have HK3 := Lib.hid hk3; have h35 := HD3.out.b (j := 4) rfl; have l3 := HD3.out.lt; clear hd3 hg3 hk3)
        | (go_at_call 72; go_must (refine (c_over HD3.out).mono ?_); rintro en w4 ⟨rfl, hd4, hk4⟩))
      go_ret
      have hk5 : Kp [d] w2 (w2.setCell ⟨d, 35, none⟩ (.int .i64 (L : Nat))) := kp_set (by simp) _ _
      have hk6 : Kp [d, p, q] w2 w4 := ((hk5.mono (by simp)).trans HK3.out).trans (hk4.mono (by simp))
      exact H.out.gave HS.out (by rw [HM.out]) ((HK2.out.mono (by simp)).trans (hk6.mono (by simp))) hd4 (Tbs.none rfl rfl) (HR2.out.kept hk6 (by simp; exact ⟨fun h => hne.1.1 h.symm, hne.2.1.1, hne.2.1.2.1⟩)) (fun _ => rfl) (HG3.out.kept hk4 hpd hqd) rfl
    · have HM := Lib.hid (show stoM m = { m with left := L } by unfold stoM; rw [HL.out, if_neg (by omega), Nat.add_sub_cancel])
      have i1 : ((L : Int) == 0) = false := W.eqF (by omega)
      go_enter Tryd.func68, Tryd.ntmps68
      go_wp2_with (first
        | (go_at_call 49; go_must (refine CT.out.mono ?_); rintro en w2 ⟨rfl, hr2, hk2⟩
           have HR2 := Lib.hid hr2; have HK2 := Lib.hid hk2; have HD2 := Lib.hid (HD.out.kept hk2 hdr); have g35 := HD2.out.b (j := 4) rfl; rw [HL.out] at g35; have RG2 := Lib.hid (show ∀ i v, Rg (w2.setCell ⟨d, i, none⟩ v) p q 32768 out from fun i v => (RG.out.kept HK2.out hpr hqr).kept (kp_set (S := [d]) (by simp) i v) hpd hqd); have gf := HD2.out.fz; have gl := HD2.out.lt; clear hr2 hk2)
        | (go_at_call 71; go_must (refine (c_give (v : Int) (HD2.out.left L) (RG2.out _ _) (by omega) (by omega) (by omega) hne.1.2.1 hne.1.2.2.1).mono ?_); rintro en w3 ⟨rfl, hd3, hg3, hk3⟩
           have HD3 := Lib.hid hd3; have HG3 := Lib.hid hg3; have HK3 := Lib.hid hk3; have h35 := HD3.out.b (j := 4) rfl; have l3 := HD3.out.lt; clear hd3 hg3 hk3))
      go_ret
      have hk5 : Kp [d] w2 (w2.setCell ⟨d, 35, none⟩ (.int .i64 (L : Nat))) := kp_set (by simp) _ _
      have hk6 : Kp [d, p, q] w2 w3 := (hk5.mono (by simp)).trans HK3.out
      exact H.out.gave HS.out (by rw [HM.out]) ((HK2.out.mono (by simp)).trans (hk6.mono (by simp))) HD3.out (Tbs.none (by show usesT m.ph = false; rw [hph]; rfl) (by show usesC m.ph = false; rw [hph]; rfl)) (HR2.out.kept hk6 (by simp; exact ⟨fun h => hne.1.1 h.symm, hne.2.1.1, hne.2.1.2.1⟩)) (fun _ => rfl) HG3.out rfl
  · have CT := Lib.hid (take_no hr hl (by omega) hle)
    have HS := Lib.hid (show step m out b0 = none by unfold step; rw [hph]; dsimp only; rw [if_neg hz, if_neg hle])
    have hzi : ((m.left : Int) == 0) = false := W.eqF (by omega)
    clear h hd hT hr
    go_enter Tryd.func68, Tryd.ntmps68
    go_wp2_with (first
      | (go_at_call 49; go_must (refine CT.out.mono ?_); rintro en w2 ⟨rfl, hr2, hk2⟩))
    go_ret
    exact H.out.wait hk2 hr2 HS.out
end Go.Proofs.YtdpnlmofkkdioaaDoor.Hf
