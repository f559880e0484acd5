/- The inflater: lay. -/
import Derived.Test.YtdpnlmofkkdioaaDoorIr
import Derived.Test.YtdpnlmofkkdioaaDoorIm
import Derived.BigQuiet
namespace Go.Proofs.YtdpnlmofkkdioaaDoor.Hf
set_option linter.unusedVariables false
set_option linter.unusedSimpArgs false
open Go.RowKit Go.Proofs.YtdpnlmofkkdioaaDoor.W

theorem int8 : El Tryd.prog 29 3 (.int .i64 0) 8 := ⟨Tryd.underlying29, by kernel_rfl, rfl⟩
theorem c_new1 (A : Option Addr) (L c : Nat) (ls : List Nat) (w : World) (hL : ls.length = L) (hl : L ≤ 320) (hle : ∀ n ∈ ls, n ≤ 15) (hr : RV w A (ints ls)) :
    Calls Tryd.prog 69 #[.slice A L c] w fun e w' => ∃ (pt : Option Addr) (er : Int), e = .returned (.tuple #[.pointer pt, .int .i64 er]) ∧ (newOk ls = true → er = 0 ∧ ∃ t, pt = some ⟨t, 0, none⟩ ∧ ∀ S, (∀ k ∈ S, k < w.heap.size) → Tb w' S t ls) ∧ (newOk ls = false → er ≠ 0) ∧ Kp [] w w' := by
  refine (c_new A L c ls w hL hl hle hr).mono ?_
  rintro e w' (⟨h1, t, rfl, h2, h3⟩ | ⟨h1, er, rfl, h2, h3⟩)
  · exact ⟨_, _, rfl, fun _ => ⟨rfl, t, rfl, h2⟩, fun h => (by rw [h1] at h; cases h), h3⟩
  · exact ⟨_, _, rfl, fun h => (by rw [h1] at h; cases h), fun _ => h2, h3⟩
section
variable {w w' : World} {d r p q g : Nat} {l e c : Option Addr} {m m' : M} {out : List Int} {bs bs' : List Bool} {rdy rdy' : Bool} {o o' : Int}
theorem Inf.turnR (h : Inf w d r p q g m out bs rdy o) (hk : Kp [d, g] w w') (hd : DB w' d r p g l e c m' rdy' o') (hT : Tbs w' [d, r, p, q, g] l e c m') (hw : m'.why = 0 → m.why = 0) (hrow : w'.ownsRow 0 3 1 (.slice (some ⟨g, 0, none⟩) m'.row.length 320) m'.row.length (ints m'.row)) : Inf w' d r p q g m' out bs rdy' o' := by
  have hne := h.ne
  simp only [List.nodup_cons, List.mem_cons, List.not_mem_nil, or_false, not_or] at hne
  obtain ⟨⟨n1, n2, n3, n4⟩, ⟨n5, n6, n7⟩, ⟨n8, n9⟩, n10, _⟩ := hne
  obtain ⟨b0, hr, hb⟩ := h.rd
  refine ⟨⟨l, e, c, hd, hT⟩, ⟨b0, hr.kept hk ?_, fun h => hb (hw h)⟩, h.rg.kept hk ?_ ?_, hrow, h.ne⟩
  · simp; exact ⟨fun h => n1 h.symm, n7⟩
  · simp; exact ⟨fun h => n2 h.symm, n9⟩
  · simp; exact ⟨fun h => n3 h.symm, n10⟩
theorem Inf.fin (h : Inf w' d r p q g m' out bs' false 0) {rr : Out} (hs : step m out bs = some rr) {k : Nat} (hrr : rr = (m', [], k)) (hb : bs' = bs.drop k) (hk : Kp [d, r, p, q, g] w w') : StepPost w d r p q g m out bs (.returned (.bool true)) w' := by
  subst hrr
  refine .inr ⟨_, hs, rfl, ?_, hk⟩
  show Inf w' d r p q g m' (out ++ []) (bs.drop k) false 0
  rw [List.append_nil, ← hb]
  exact h
theorem Tbs.cOnly {D : List Nat} {l' e' : Option Addr} (h : Tbs w D l e c m) (hu : usesT m'.ph = false) (h2 : usesC m'.ph = true → usesC m.ph = true) (e3 : m'.cd = m.cd) : Tbs w D l' e' c m' where
  l hx := by rw [hu] at hx; cases hx
  e hx := by rw [hu] at hx; cases hx
  c hx := by rw [e3]; exact h.c (h2 hx)
theorem usesT_of {x : Ph} (h : usesC x = true) : usesT x = false := by cases x <;> first | rfl | cases h
theorem Inf.lts (h : Inf w d r p q g m out bs rdy o) : ∀ k ∈ [d, r, p, q, g], k < w.heap.size := by
  obtain ⟨l, e, c, hd, _⟩ := h.db
  obtain ⟨b0, hr, _⟩ := h.rd
  have h1 := hd.lt
  have h2 := hr.lt
  have h3 := h.rg.lt
  have h4 := h.rg.ltq
  have h5 := own_lt h.row
  intro k hk
  simp only [List.mem_cons, List.not_mem_nil, or_false] at hk
  rcases hk with rfl | rfl | rfl | rfl | rfl <;> assumption
theorem own_row {n : Nat} {xs : List Value} (h : w.ownsRow 0 3 1 (.slice (some ⟨g, 0, none⟩) n 320) n xs) : RV w (some ⟨g, 0, none⟩) xs := RV.own h
end
set_option maxHeartbeats 8000000 in
set_option maxRecDepth 100000 in
theorem c_lay {w : World} {d r p q g : Nat} {m : M} {out : List Int} {bs : List Bool} (n x : Nat) (h : Inf w d r p q g m out bs false 0) (h0 : m.why = 0) (hC : usesC m.ph = true) (hlo : LenOk m) (hok : Ok m out) (hx : x ≤ 15) (hn : n ≤ 200) :
    Calls Tryd.prog 84 #[.pointer (some ⟨d, 0, none⟩), .int .i64 (n : Nat), .int .i64 (x : Nat)] w fun en w' => en = .returned (.bool true) ∧ Inf w' d r p q g (layM m n x) out bs false 0 ∧ Kp [d, r, p, q, g] w w' := by
  obtain ⟨l, e, c, hd, hT⟩ := h.db
  have hne := h.ne
  simp only [List.nodup_cons, List.mem_cons, List.not_mem_nil, or_false, not_or] at hne
  have hlt := hd.lt
  have H := Lib.hid h
  have HD := Lib.hid hd
  have HT := Lib.hid hT
  have HLO := Lib.hid hlo
  have HROW := Lib.hid h.row
  have HR15 := Lib.hid hok.row
  have c11 := hd.a (i := 11) rfl
  have c32 := hd.b (j := 1) rfl
  obtain ⟨R, hR⟩ : ∃ R, m.row.length = R := ⟨_, rfl⟩
  obtain ⟨Wn, hWn⟩ : ∃ Wn, m.wanted = Wn := ⟨_, rfl⟩
  have hhi := hlo.rows.hi
  have hrw := hlo.row
  rw [hR] at c11 hrw
  rw [hWn] at c32 hhi hrw
  have HRL := Lib.hid hR
  have HWN := Lib.hid hWn
  obtain ⟨T, hT5⟩ : ∃ T, R + n = T := ⟨_, rfl⟩
  have eT : IntKind.i64.wrap ((R : Int) + (n : Int)) = (T : Int) := by rw [← hT5, Int.natCast_add]; exact IntWalk.i64_in _ (by omega)
  have HLM := Lib.hid (show layM m n x = if T > Wn then stopM m 12 else if T < Wn then { m with row := m.row ++ List.replicate n x, ph := .len } else if newOk ((m.row ++ List.replicate n x).take m.lits) && (newOk ((m.row ++ List.replicate n x).drop m.lits) && decide ((m.row ++ List.replicate n x).getD 256 0 ≠ 0)) then { m with row := m.row ++ List.replicate n x, lt := (m.row ++ List.replicate n x).take m.lits, ds := (m.row ++ List.replicate n x).drop m.lits, ph := .lit } else stopM { m with row := m.row ++ List.replicate n x } 12 by
    unfold layM
    rw [hR, hWn, hT5]
    by_cases h1 : T > Wn
    · rw [if_pos h1, if_pos h1]
    · rw [if_neg h1, if_neg h1]
      dsimp only
      rw [List.length_append, hR, List.length_replicate, hT5])
  clear h hd hT hlo hok hR hWn
  by_cases h1 : T > Wn
  · have d1 : decide ((Wn : Int) < (T : Int)) = true := W.decT (Int.ofNat_lt.2 h1)
    have d1' : decide (Wn < T) = true := W.decT h1
    go_enter Tryd.func84, Tryd.ntmps84
    go_upto_region 1 with (fail)
    go_quiet (fail)
    clear eT
    go_upto_region 2 with (fail)
    have hk2 : Kp [] w (w.drewN nq) := (Kp.refl _ _).drewN _
    have CS := Lib.hid (c_stop 12 (HD.out.kept hk2 (by simp)))
    go_wp2_with (first
      | (go_at_call 56; go_must (refine CS.out.mono ?_); rintro en w3 ⟨rfl, hd3, hk3⟩))
    go_ret
    rw [HLM.out, if_pos h1]
    have hk4 : Kp [d, r] w w3 := (hk2.mono (by simp)).trans (hk3.mono (by simp))
    obtain ⟨b0, hr, hb⟩ := H.out.rd
    exact ⟨rfl, H.out.turn hk4 hd3 ((HT.out.kept hk4 (by simp)).same id id rfl rfl rfl) ⟨b0, (hr.kept hk2 (by simp)).kept hk3 (by simp; exact fun h => hne.1.1 h.symm), fun h => (by cases h)⟩ rfl, hk4.mono (by simp)⟩
  · have d1 : decide ((Wn : Int) < (T : Int)) = false := W.decF (fun h => h1 (Int.ofNat_lt.1 h))
    have d1' : decide (Wn < T) = false := W.decF h1
    go_enter Tryd.func84, Tryd.ntmps84
    go_upto_region 1 with (fail)
    go_quiet (fail)
    clear eT
    have HK1 := Lib.hid (show Kp [d, g] w (w.drewN nq) from (Kp.refl _ _).drewN _)
    have HDq := Lib.hid (show DB (w.drewN nq) d r p g l e c { m with row := m.row ++ List.replicate 0 x } false 0 from by have h9 := HD.out.kept (S := []) ((Kp.refl _ w).drewN nq) (by simp); rw [List.replicate_zero, List.append_nil]; exact h9)
    have HOq := Lib.hid (show (w.drewN nq).ownsRow 0 3 1 (.slice (some ⟨g, 0, none⟩) (R + 0) 320) (R + 0) (ints (m.row ++ List.replicate 0 x)) from by have h9 := own_kp HROW.out (S := []) ((Kp.refl _ w).drewN nq) (by simp); rw [List.replicate_zero, List.append_nil, Nat.add_zero, ← HRL.out]; exact h9)
    generalize w.drewN nq = w1 at *
    go_upto_block 0 with (fail)
    go_cut [] (fun wz => DB wz d r p g l e c { m with row := m.row ++ List.replicate n x } false 0 ∧ wz.ownsRow 0 3 1 (.slice (some ⟨g, 0, none⟩) T 320) T (ints (m.row ++ List.replicate n x)) ∧ Kp [d, g] w wz)
    case first =>
      go_wp2_with (fail)
      go_loopg [24] n (fun g' s24 wx => ∃ i : Nat, i + g' = n ∧ s24 = .int .i64 i ∧ DB wx d r p g l e c { m with row := m.row ++ List.replicate i x } false 0 ∧ wx.ownsRow 0 3 1 (.slice (some ⟨g, 0, none⟩) (R + i) 320) (R + i) (ints (m.row ++ List.replicate i x)) ∧ Kp [d, g] w wx)
      case atStart => exact ⟨0, by omega, rfl, HDq.out, HOq.out, HK1.out⟩
      case round =>
        obtain ⟨i, hig, rfl, hD, hO, hK⟩ := hrel
        have HDr := Lib.hid hD
        have HOr := Lib.hid hO
        have HKr := Lib.hid hK
        cases gk with
        | zero =>
          obtain rfl : i = n := by omega
          have hk : ¬ (i : Int) < (i : Int) := by omega
          go_wp2_with (fail)
          go_meet
          rw [hT5] at hO
          exact ⟨hD, hO, hK⟩
        | succ g' =>
          have hk : (i : Int) < (n : Int) := by omega
          have hlen : (m.row ++ List.replicate i x).length = R + i := by rw [List.length_append, HRL.out, List.length_replicate]
          have hlen2 : (m.row ++ List.replicate (i + 1) x).length = R + i + 1 := by rw [List.length_append, HRL.out, List.length_replicate]; omega
          have hrep : ints (m.row ++ List.replicate i x) ++ [.int .i64 (x : Nat)] = ints (m.row ++ List.replicate (i + 1) x) := by
            rw [List.replicate_succ', ← List.append_assoc]
            simp [ints]
          have c11 := hD.a (i := 11) rfl
          dsimp only at c11
          rw [hlen] at c11
          have hltr := hD.lt
          obtain ⟨ti, hti, htz, hts, htb⟩ := info_parts int8.info
          have HOA := Lib.hid (hO.alloc (.cells #[.int .i64 (x : Nat)] 3))
          have HNE := Lib.hid (show ∀ j u, [Value.int .i64 (x : Nat)][j]? = some u → (wr.alloc (.cells #[.int .i64 (x : Nat)] 3)).cell? ((⟨wr.heap.size, 0, none⟩ : Addr).add j) = some u from fun j u hu => by
            have h9 := RV.new (w := wr) #[Value.int .i64 (x : Nat)] 3 j u hu
            obtain ⟨b9, off9, hA9, _, hc9⟩ := h9
            injection hA9 with hA9
            injection hA9 with h10 h11
            subst h10 h11
            rw [Addr.add_mid]
            exact hc9)
          have HON := Lib.hid (show ∀ u ∈ [Value.int .i64 (x : Nat)], u.oneCell' = true from by intro u hu; rw [List.mem_singleton.1 hu]; rfl)
          have HREP := Lib.hid hrep
          have HLE1 := Lib.hid hlen
          have HGN := Lib.hid hlen2
          have HTI := Lib.hid hti
          have HTS := Lib.hid hts
          have hroom : R + i + 1 ≤ 320 := by omega
          have HKA := Lib.hid (show Kp [g] wr (wr.alloc (.cells #[.int .i64 (x : Nat)] 3)) from (Kp.refl [g] wr).alloc _)
          clear hD hO hK hti htz hts htb hrep hlen hlen2
          go_wp2_with (first
            | (at_builtin; go_must (refine wpList_append_fits _ rfl (.tmp 30) (.tmp 32) 29 rfl 0 3 ti 1 int8.under HTI.out HTS.out g (R + i) 320 (ints (m.row ++ List.replicate i x)) rfl HOA.out ⟨wr.heap.size, 0, none⟩ 1 1 [.int .i64 (x : Nat)] rfl rfl HNE.out HON.out hroom ?_); intro wb hown hgrow; have HKB := Lib.hid (HKA.out.grown hgrow (fun k hk => .inl (by simp; exact (Option.some.inj hk).symm))); have HDb := Lib.hid (HDr.out.kept HKB.out (by simp; exact hne.1.2.2.2)); have b11 := HDb.out.a (i := 11) rfl; dsimp only at b11; rw [HLE1.out] at b11; have bf := HDb.out.fz; have bl := HDb.out.lt; rw [HREP.out] at hown; have HOb := Lib.hid hown; clear hown hgrow))
          go_roundg g'
          case measure => omega
          case rel =>
            have h9 := HDb.out.row (m.row ++ List.replicate (i + 1) x)
            rw [HGN.out] at h9
            have hk9 : Kp [d] wb (wb.setCell ⟨d, 11, none⟩ (.slice (some ⟨g, 0, none⟩) (R + i + 1) 320)) := kp_set (by simp) _ _
            exact ⟨i + 1, by omega, by go_num, h9, own_kp HOb.out hk9 (by simp; exact fun h => hne.1.2.2.2 h.symm), (HKr.out.trans (HKB.out.mono (by simp))).trans (hk9.mono (by simp))⟩
    case rest =>
      obtain ⟨hD, hO, hK⟩ := hcut
      have hrl : (m.row ++ List.replicate n x).length = T := by rw [List.length_append, HRL.out, List.length_replicate, hT5]
      have hr15 : ∀ y ∈ m.row ++ List.replicate n x, y ≤ 15 := fun y hy => by
        rcases List.mem_append.1 hy with h9 | h9
        · exact HR15.out y h9
        · rw [(List.mem_replicate.1 h9).2]; exact hx
      generalize m.row ++ List.replicate n x = rr at *
      have HRR := Lib.hid hrl
      have HRF := Lib.hid hr15
      have c11 := hD.a (i := 11) rfl
      dsimp only at c11
      rw [hrl] at c11
      have c32 := hD.b (j := 1) rfl
      dsimp only at c32
      rw [HWN.out] at c32
      have hlt := hD.lt
      have HDc := Lib.hid hD
      have HOc := Lib.hid hO
      have HKc := Lib.hid hK
      clear hD hO hK hrl hr15 hT5 HDq HOq HK1
      by_cases h2 : T < Wn
      · have d2 : decide ((T : Int) < (Wn : Int)) = true := W.decT (Int.ofNat_lt.2 h2)
        have d2' : decide (T < Wn) = true := W.decT h2
        go_upto_region 7 with (fail)
        go_quiet (fail)
        go_upto_region 8 with (fail)
        have hk5 : Kp [] wc (wc.drewN nq) := (Kp.refl _ _).drewN _
        have HD5 := Lib.hid (HDc.out.kept hk5 (by simp))
        have HO5 := Lib.hid (own_kp HOc.out hk5 (by simp))
        have HK5 := Lib.hid (HKc.out.trans (hk5.mono (by simp)))
        generalize wc.drewN nq = w5 at *
        go_wp2_with (first
          | (go_at_call 51; go_must (refine (c_then .len HD5.out).mono ?_); rintro en w6 ⟨rfl, hd6, hk6⟩))
        go_ret
        rw [HLM.out, if_neg h1, if_pos h2]
        have hk7 : Kp [d, g] w w6 := HK5.out.trans (hk6.mono (by simp))
        exact ⟨rfl, H.out.turnR hk7 hd6 ((HT.out.kept hk7 (by simp)).same (fun h => (by cases h)) (fun _ => hC) rfl rfl rfl) (fun h => h) (by dsimp only; rw [HRR.out]; exact own_kp HO5.out hk6 (by simp; exact fun h => hne.1.2.2.2 h.symm)), hk7.mono (by simp)⟩
      · have d2 : decide ((T : Int) < (Wn : Int)) = false := W.decF (fun h => h2 (Int.ofNat_lt.1 h))
        have d2' : decide (T < Wn) = false := W.decF h2
        have hlit := HLO.out.rows.lo
        have hlit2 := HLO.out.rows.lt
        rw [HWN.out] at hlit2
        have c31 := HDc.out.b (j := 0) rfl
        dsimp only at c31
        obtain ⟨Lt, hLt⟩ : ∃ Lt, m.lits = Lt := ⟨_, rfl⟩
        have HLT := Lib.hid hLt
        rw [hLt] at hlit hlit2 c31
        obtain rfl : T = Wn := by omega
        go_upto_region 7 with (fail)
        go_quiet (fail)
        go_upto_region 10 with (fail)
        have hk5 : Kp [] wc (wc.drewN nq) := (Kp.refl _ _).drewN _
        have HD5 := Lib.hid (HDc.out.kept hk5 (by simp))
        have HO5 := Lib.hid (own_kp HOc.out hk5 (by simp))
        have HK5 := Lib.hid (HKc.out.trans (hk5.mono (by simp)))
        have c11 : (wc.drewN nq).cell? ⟨d, 11, none⟩ = some (.slice (some ⟨g, 0, none⟩) T 320) := c11
        have c31 : (wc.drewN nq).cell? ⟨d, 31 + 0, none⟩ = some (.int .i64 (Lt : Nat)) := c31
        generalize wc.drewN nq = w5 at *
        have HN1 := Lib.hid (c_new1 (some ⟨g, 0, none⟩) Lt 320 (rr.take Lt) w5.drew (by rw [List.length_take, HRR.out]; omega) (by omega) (fun y hy => HRF.out y (List.mem_of_mem_take hy)) (by rw [show ints (rr.take Lt) = (ints rr).take Lt by simp [ints, List.map_take]]; exact ((own_row HO5.out).kept (Nat.le_refl _) (fun _ _ _ => rfl)).take Lt))
        have hL320 : (Lt : Int) ≤ 320 := by omega
        have HKD := Lib.hid (show Kp [] w5 w5.drew from (Kp.refl _ _).drew)
        clear hLt d1 d1' d2 d2'
        go_region_held3 (fun w' => w'.cell? ⟨d, 11, none⟩ = some (.slice (some ⟨g, 0, none⟩) T 320) ∧ w'.cell? ⟨d, 31 + 0, none⟩ = some (.int .i64 (Lt : Nat))) (first | exact ⟨c11, c31⟩ | exact ⟨g11, g31⟩ | exact ⟨s11, s31⟩)
          (first
            | (go_at_call 69; go_must (refine HN1.out.mono ?_); rintro en w6 ⟨pt, er, rfl, hyes, hno, hk6⟩; have HY1 := Lib.hid hyes; have HO1 := Lib.hid hno; have HK6 := Lib.hid (show Kp [] w5 w6 from HKD.out.trans hk6); clear hyes hno hk6; have HD6 := Lib.hid (HD5.out.kept HK6.out (by simp)); have g11 := HD6.out.a (i := 11) rfl; dsimp only at g11; rw [HRR.out] at g11; have g31 := HD6.out.b (j := 0) rfl; dsimp only at g31; rw [HLT.out] at g31; have g8 := HD6.out.a (i := 8) rfl; have gf := HD6.out.fz; have gl := HD6.out.lt; have HD7 := Lib.hid (HD6.out.setL pt); have s11 := HD7.out.a (i := 11) rfl; dsimp only at s11; rw [HRR.out] at s11; have s31 := HD7.out.b (j := 0) rfl; dsimp only at s31; rw [HLT.out] at s31))
        have HK7 := Lib.hid (show Kp [d] w5 (w6.setCell ⟨d, 8, none⟩ (.pointer pt)) from (HK6.out.mono (by simp)).trans (kp_set (by simp) _ _))
        have HKS := Lib.hid (show Kp [d] w6 (w6.setCell ⟨d, 8, none⟩ (.pointer pt)) from kp_set (by simp) _ _)
        clear gf gl g11 g31 g8 c11 c31
        go_upto_region 11 with (fail)
        generalize w6.setCell ⟨d, 8, none⟩ (.pointer pt) = w7 at *
        have HO7 := Lib.hid (own_kp HO5.out HK7.out (by simp; exact fun h => hne.1.2.2.2 h.symm))
        have HN2 := Lib.hid (c_new1 (some ⟨g, Lt, none⟩) (T - Lt) (320 - Lt) (rr.drop Lt) w7.drew (by rw [List.length_drop, HRR.out]) (by omega) (fun y hy => HRF.out y (List.mem_of_mem_drop hy)) (by
          rw [show ints (rr.drop Lt) = (ints rr).drop Lt by simp [ints, List.map_drop]]
          have h9 := RV.drop ((own_row HO7.out).kept (w' := w7.drew) (Nat.le_refl _) (fun _ _ _ => rfl)) Lt
          rw [Nat.zero_add] at h9
          exact h9))
        have hLT : (Lt : Int) ≤ (T : Int) := by omega
        have hq320 : ¬ 320 = Lt := by omega
        have HKE := Lib.hid (show Kp [] w7 w7.drew from (Kp.refl _ _).drew)
        go_region_held3 (fun w' => w'.cell? ⟨d, 11, none⟩ = some (.slice (some ⟨g, 0, none⟩) T 320) ∧ w'.cell? ⟨d, 31 + 0, none⟩ = some (.int .i64 (Lt : Nat))) (first | exact ⟨s11, s31⟩ | exact ⟨k11, k31⟩ | exact ⟨t11, t31⟩)
          (first
            | (go_at_call 69; go_must (refine HN2.out.mono ?_); rintro en w8 ⟨pu, es, rfl, hyes, hno, hk8⟩; have HY2 := Lib.hid hyes; have HO2 := Lib.hid hno; have HK8 := Lib.hid (show Kp [] w7 w8 from HKE.out.trans hk8); clear hyes hno hk8; have HD8 := Lib.hid (HD7.out.kept HK8.out (by simp)); have k11 := HD8.out.a (i := 11) rfl; dsimp only at k11; rw [HRR.out] at k11; have k31 := HD8.out.b (j := 0) rfl; dsimp only at k31; rw [HLT.out] at k31; have k9 := HD8.out.a (i := 9) rfl; have kf := HD8.out.fz; have kl := HD8.out.lt; have HD9 := Lib.hid (HD8.out.setE pu); have t11 := HD9.out.a (i := 11) rfl; dsimp only at t11; rw [HRR.out] at t11; have t31 := HD9.out.b (j := 0) rfl; dsimp only at t31; rw [HLT.out] at t31))
        have HK9 := Lib.hid (show Kp [d] w7 (w8.setCell ⟨d, 9, none⟩ (.pointer pu)) from (HK8.out.mono (by simp)).trans (kp_set (by simp) _ _))
        have HKT := Lib.hid (show Kp [d] w8 (w8.setCell ⟨d, 9, none⟩ (.pointer pu)) from kp_set (by simp) _ _)
        clear kf kl k11 k31 k9 s11 s31
        go_upto_region 12 with (fail)
        generalize w8.setCell ⟨d, 9, none⟩ (.pointer pu) = w9 at *
        have HK10 := Lib.hid (HK5.out.trans ((HK7.out.trans HK9.out).mono (by simp)))
        have HO9 := Lib.hid (own_kp HO7.out HK9.out (by simp; exact fun h => hne.1.2.2.2 h.symm))
        obtain ⟨V, hV⟩ : ∃ V, rr[256]? = some V := ⟨_, List.getElem?_eq_getElem (by rw [HRR.out]; omega)⟩
        have hVd : rr.getD 256 0 = V := by rw [List.getD_eq_getElem?_getD, hV]; rfl
        obtain ⟨b9, o9, hA9, hb9, hc9⟩ := ints_at (own_row HO9.out) hV
        injection hA9 with hA9
        injection hA9 with hA9 hA10
        subst hA9 hA10
        rw [Nat.zero_add] at hc9
        have h256 : (256 : Int) < (T : Int) := by omega
        have hl9 := HD9.out.lt
        have HLM2 := Lib.hid (show layM m n x = if newOk (rr.take m.lits) && (newOk (rr.drop m.lits) && decide (V ≠ 0)) then { m with row := rr, lt := rr.take m.lits, ds := rr.drop m.lits, ph := .lit } else stopM { m with row := rr } 12 by rw [HLM.out, if_neg h1, if_neg h2, hVd])
        have HSZ := Lib.hid (show ∀ k ∈ [d, r, p, q, g], k < w5.heap.size from fun k hk => Nat.lt_of_lt_of_le (H.out.lts k hk) HK5.out.size)
        have HSZ2 := Lib.hid (show ∀ k ∈ [d, r, p, q, g], k < w7.heap.size from fun k hk => Nat.lt_of_lt_of_le (HSZ.out k hk) HK7.out.size)
        have HUT := Lib.hid (usesT_of hC)
        clear hV hVd HLM
        by_cases hgood : newOk (rr.take m.lits) = true ∧ newOk (rr.drop m.lits) = true ∧ V ≠ 0
        · obtain ⟨hgA, hgB, hgV⟩ := hgood
          have HGD := Lib.hid (show (newOk (rr.take m.lits) && (newOk (rr.drop m.lits) && decide (V ≠ 0))) = true by rw [hgA, hgB, W.decT hgV]; rfl)
          rw [HLT.out] at hgA hgB
          obtain ⟨rfl, ta, rfl, hTA⟩ := HY1.out hgA
          obtain ⟨rfl, tb, rfl, hTB⟩ := HY2.out hgB
          have HTA := Lib.hid (hTA [d, r, p, q, g] (fun k hk => HSZ.out k hk))
          have HTB := Lib.hid (hTB [d, r, p, q, g] (fun k hk => HSZ2.out k hk))
          have i1 : ((V : Int) == 0) = false := W.eqF (by omega)
          rw [← HLT.out] at HTA HTB
          clear hTA hTB
          go_wp2_with (first
            | (go_at_call 51; go_must (refine (c_then .lit HD9.out).mono ?_); rintro en w10 ⟨rfl, hd10, hk10⟩))
          go_ret
          have hk11 : Kp [d, g] w w10 := HK10.out.trans (hk10.mono (by simp))
          rw [HLM2.out, if_pos HGD.out]
          have hd10' : DB w10 d r p g (some ⟨ta, 0, none⟩) (some ⟨tb, 0, none⟩) c { m with row := rr, lt := rr.take m.lits, ds := rr.drop m.lits, ph := .lit } false 0 := ⟨hd10.cells, hd10.fl⟩
          exact ⟨rfl, H.out.turnR hk11 hd10' ⟨fun _ => ⟨ta, rfl, HTA.out.kept ((HKS.out.trans HK9.out).trans hk10) (fun k hk => .inl (by simp at hk; simp [hk]))⟩, fun _ => ⟨tb, rfl, HTB.out.kept (HKT.out.trans hk10) (fun k hk => .inl (by simp at hk; simp [hk]))⟩, fun h => (by cases h)⟩ (fun h => h) (by dsimp only; rw [HRR.out]; exact own_kp HO9.out hk10 (by simp; exact fun h => hne.1.2.2.2 h.symm)), hk11.mono (by simp)⟩
        · have HBAD := Lib.hid (show layM m n x = stopM { m with row := rr } 12 by
            rw [HLM2.out, if_neg]
            intro h9
            rw [Bool.and_eq_true, Bool.and_eq_true, decide_eq_true_iff] at h9
            exact hgood h9)
          have FIN := Lib.hid (show ∀ w10, DB w10 d r p g pt pu c (stopM { m with row := rr } 12) false 0 → Kp [d] w9 w10 → Inf w10 d r p q g (layM m n x) out bs false 0 ∧ Kp [d, r, p, q, g] w w10 from fun w10 hd10 hk10 => by
            have hk11 : Kp [d, g] w w10 := HK10.out.trans (hk10.mono (by simp))
            rw [HBAD.out]
            exact ⟨H.out.turnR hk11 hd10 ((HT.out.kept hk11 (by simp)).cOnly HUT.out id rfl) (fun h => (by cases h)) (by show w10.ownsRow _ _ _ (.slice _ rr.length _) rr.length (ints rr); rw [HRR.out]; exact own_kp HO9.out hk10 (by simp; exact fun h => hne.1.2.2.2 h.symm)), hk11.mono (by simp)⟩)
          by_cases hV0 : V = 0
          · have i1 : ((V : Int) == 0) = true := W.eqT (by omega)
            clear hV0 hgood
            go_wp2_with (first
              | (go_at_call 56; go_must (refine (c_stop 12 HD9.out).mono ?_); rintro en w10 ⟨rfl, hd10, hk10⟩))
            go_ret
            exact ⟨rfl, FIN.out w10 hd10 hk10⟩
          · have i1 : ((V : Int) == 0) = false := W.eqF (by omega)
            by_cases hgA : newOk (rr.take m.lits) = true
            · have hgB : newOk (rr.drop m.lits) = false := by
                cases h9 : newOk (rr.drop m.lits) with
                | false => rfl
                | true => exact absurd ⟨hgA, h9, hV0⟩ hgood
              rw [HLT.out] at hgA hgB
              have i2 : es ≠ 0 := HO2.out hgB
              obtain ⟨rfl, _⟩ := HY1.out hgA
              have i3 : (es == 0) = false := W.eqF i2
              have i4 : (es != 0) = true := W.neT i2
              clear hgood hgA hgB i2
              go_wp2_with (first
                | (go_at_call 56; go_must (refine (c_stop 12 HD9.out).mono ?_); rintro en w10 ⟨rfl, hd10, hk10⟩))
              go_ret
              exact ⟨rfl, FIN.out w10 hd10 hk10⟩
            · rw [HLT.out] at hgA
              have i2 : er ≠ 0 := HO1.out (by cases h9 : newOk (rr.take Lt) with
                | false => rfl
                | true => exact absurd h9 hgA)
              have i3 : (er == 0) = false := W.eqF i2
              have i4 : (er != 0) = true := W.neT i2
              clear hgood hgA i2
              go_wp2_with (first
                | (go_at_call 56; go_must (refine (c_stop 12 HD9.out).mono ?_); rintro en w10 ⟨rfl, hd10, hk10⟩))
              go_ret
              exact ⟨rfl, FIN.out w10 hd10 hk10⟩
end Go.Proofs.YtdpnlmofkkdioaaDoor.Hf
