/- InflatePlays: the walk. -/
import Derived.Test.YtdpnlmofkkdioaaDoorUe
import Derived.Test.YtdpnlmofkkdioaaDoorArga
namespace Go.Proofs.YtdpnlmofkkdioaaDoor.Hf
set_option linter.unusedVariables false
set_option linter.unusedSimpArgs false
open Go.RowKit Go.Proofs.YtdpnlmofkkdioaaDoor.W

structure PlW (w wx : World) (d r p q g N2 : Nat) (inn : List Int) (Ai : Option Addr) (n ci rb : Nat) (s : RS) (t : St) (rdy : Bool) (o : Int) (ol : List Int) (ended : Bool) (i : Nat) : Prop where
  px : Px wx d r p q g inn t rdy o ol ended
  rn : ∃ B, Rn wx B rb ⟨Ai, ci, inn, 1048576⟩ s ∧ N2 ≤ B
  res : Res st0 (bits8 inn) 1048576 s.out s.ts s.at_ s.why s.en
  w62 : s.why ≠ 62
  row : wx.ownsRow N2 5 1 (.slice Ai n ci) n (u8s inn)
  len : n ≤ i
  kp : Kp [] w wx
  sz : N2 ≤ wx.heap.size
  byt : Bytes inn
section
variable {w wx w' : World} {d r p q g N2 : Nat} {inn : List Int} {Ai : Option Addr} {n ci rb : Nat} {s : RS} {t t' : St} {rdy rdy' : Bool} {o o' : Int} {ol ol' : List Int} {ended ended' : Bool} {i : Nat}
theorem PlW.obj (h : PlW w wx d r p q g N2 inn Ai n ci rb s t rdy o ol ended i) (hD : ∀ k ∈ [d, r, p, q, g], w.heap.size ≤ k ∧ k < N2) (hk : Kp [d, r, p, q, g] wx w') (hpx : Px w' d r p q g inn t' rdy' o' ol' ended') : PlW w w' d r p q g N2 inn Ai n ci rb s t' rdy' o' ol' ended' i := by
  obtain ⟨B, hr, hB⟩ := h.rn
  have hrow := own_kp2 h.row hk (fun k hm => (hD k hm).2)
  exact ⟨hpx, ⟨B, hr.elder hk (fun k hm => Nat.lt_of_lt_of_le (hD k hm).2 hB) (RV.own hrow), hB⟩, h.res, h.w62, hrow, h.len, ((h.kp.mono (T := [d, r, p, q, g]) (by simp)).trans hk).mono (fun k hk => .inr (hD k hk).1), Nat.le_trans h.sz hk.size, h.byt⟩
theorem PlW.same (h : PlW w wx d r p q g N2 inn Ai n ci rb s t rdy o ol ended i) (i' : Nat) (hi : i ≤ i') : PlW w wx d r p q g N2 inn Ai n ci rb s t rdy o ol ended i' := ⟨h.px, h.rn, h.res, h.w62, h.row, Nat.le_trans h.len hi, h.kp, h.sz, h.byt⟩
end
/-- The reference is asked anew. -/
theorem PlW.anew {w w5 w6 : World} {d r p q g N2 : Nat} {inn : List Int} {Ai : Option Addr} {n ci rb : Nat} {s : RS} {t : St} {rdy : Bool} {o : Int} {ol : List Int} {ended : Bool} {i : Nat} (hpx : Px w5 d r p q g inn t rdy o ol ended) (hrow : w5.ownsRow N2 5 1 (.slice Ai n ci) n (u8s inn)) (hn : n ≤ i) (hk : Kp [] w w5) (hs : N2 ≤ w5.heap.size) (hB : Bytes inn)
    (hr : Rn w6 w5.heap.size rb ⟨Ai, ci, inn, 1048576⟩ s) (hb : Below w5.heap.size w5 w6) (hres : Res st0 (bits8 inn) 1048576 s.out s.ts s.at_ s.why s.en) (h62 : s.why ≠ 62) : PlW w w6 d r p q g N2 inn Ai n ci rb s t rdy o ol ended i :=
  ⟨hpx.keep (Kp.of_below hb), ⟨_, hr, hs⟩, hres, h62, own_kp2 hrow (Kp.of_below (S := []) hb) (fun k hk => by cases hk), hn, hk.trans (Kp.of_below hb), Nat.le_trans hs hb.size, hB⟩
set_option maxHeartbeats 8000000 in
set_option maxRecDepth 100000 in
theorem c_infplays (A : Option Addr) (L c : Nat) (ps : List (Int × Int)) (w : World) (hG : Gt w []) (hL : ps.length = L) (hc : L ≤ c) (hL2 : L ≤ 140737488351232) (hr : RP2 w A ps) :
    Calls Tryd.prog 5 #[.slice A L c] w (TrueP w) := by
  have CN := c_inew w
  unfold INew at CN
  have CN := Lib.hid CN
  have HG := Lib.hid hG
  have HL := Lib.hid hL
  have HR := Lib.hid hr
  clear hG hL hr
  go_enter Tryd.func5, Tryd.ntmps5
  go_upto_block 0 with (first
    | (go_at_call 15; go_must (refine CN.out.mono ?_); rintro en w2 ⟨d, r, p, q, g, rfl, hi, hk, hge⟩; have HI := Lib.hid hi; have HK := Lib.hid hk; have HGE := Lib.hid hge; clear hi hk hge)
    | (go_at_call 11; go_must (refine (r_of w2 none 0 0 [] 1048576 rfl (by omega) (fun x hx => by cases hx) (RV.nil _ _) (by omega) (by omega)).mono ?_); rintro e w3 ⟨rb, s, rfl, hrn, hb3, hres⟩; have HRN := Lib.hid hrn; have HB3 := Lib.hid hb3; have HRES := Lib.hid hres; have HX3 := Lib.hid (show Px w3 d r p q g [] st0 false 0 [] false from Px.of_sx (mp := m0) ⟨⟨.refl _, Rel.refl _, fun _ => ⟨next_none.2 fun _ => rfl, rfl, rfl⟩, fun h => (by cases h), fun h => (by cases h), Nat.le_refl _⟩, ⟨[], HI.out.row' (Kp.of_below (S := []) hb3) (fun k hk => (by cases hk)) (fun k _ hk => (by cases hk)), fun _ => rfl⟩, Ok.m0⟩); clear hrn hb3 hres))
  have HD := Lib.hid (show ∀ k ∈ [d, r, p, q, g], w.heap.size ≤ k ∧ k < w2.heap.size from fun k hk => ⟨HGE.out k hk, HI.out.lts k hk⟩)
  have HG2 := Lib.hid (show ∀ wz, Kp [] w wz → Gt wz [d, r, p, q, g] from fun wz hk => by
    have h1 := HG.out.kept hk (fun k hk => hk)
    exact ⟨h1.t0, h1.t1, h1.t2, h1.t3, h1.t4, h1.sz, fun b hb hm => by have h2 := HGE.out b hm; have h3 := HG.out.sz; omega⟩)
  have HP0 := Lib.hid (show PlW w w3 d r p q g w2.heap.size [] none 0 0 rb s st0 false 0 [] false 0 from by
    have hres : Res st0 (bits8 []) 1048576 s.out s.ts s.at_ s.why s.en := HRES.out
    have hcut : Res st0 (bits8 []) 1048576 [] [] 0 1 false := Res.cut (t := st0) (.refl _) ⟨rfl, rfl⟩ (next_none.2 fun _ => rfl) (Nat.zero_le _)
    obtain ⟨_, _, _, e4, _⟩ := hres.uniq hcut
    exact ⟨HX3.out, ⟨_, HRN.out, Nat.le_refl _⟩, hres, by rw [e4]; decide, World.ownsRow_nil _ _ _ _, Nat.le_refl _, HK.out.trans (Kp.of_below HB3.out), HB3.out.size, fun x hx => by cases hx⟩)
  have hw2 : w.heap.size ≤ w2.heap.size := HK.out.size
  clear HI HK HGE HRES HRN HB3 CN HX3
  generalize w2.heap.size = N2 at *
  go_wp2_with (fail)
  go_loopg [4, 5, 6, 7, 8] L (fun gk s4 s5 s6 s7 s8 wx => ∃ i inn Ai n ci rb s t rdy o ol ended, i + gk = L ∧ s8 = .int .i64 (i : Nat) ∧ s4 = .slice Ai n ci ∧ s5 = .pointer (some ⟨rb, 0, none⟩) ∧ s6 = .int .i64 (ol.length : Nat) ∧ s7 = .bool ended ∧ PlW w wx d r p q g N2 inn Ai n ci rb s t rdy o ol ended i)
  case atStart => exact ⟨0, [], none, 0, 0, rb, s, st0, false, 0, [], false, by omega, rfl, rfl, rfl, rfl, rfl, HP0.out⟩
  case round =>
    obtain ⟨i, inn, Ai, n, ci, rb, s, t, rdy, o, ol, ended, hig, rfl, rfl, rfl, rfl, rfl, hpl⟩ := hrel
    have HP := Lib.hid hpl
    have CAW := Lib.hid (c_awake wr (HG.out.kept hpl.kp (fun k hk => hk)))
    clear hpl HP0
    cases gk with
    | zero =>
      obtain rfl : i = L := by omega
      have hk : ¬ (i : Int) < (i : Int) := by omega
      go_wp2_with (first
        | (go_at_call 14; go_must (refine CAW.out.mono ?_); rintro e w8 ⟨rfl, hk8⟩))
      go_ret
      exact ⟨rfl, (HP.out.kp.trans hk8).below (Nat.le_refl _) (by simp)⟩
    | succ g' =>
      have hk : (i : Int) < (L : Int) := by omega
      by_cases h400 : i < 400
      · have hk4 : (i : Int) < 400 := by omega
        go_upto_region 10 with (fail)
        obtain ⟨hcs, hko⟩ := HP.out.px.cs HP.out.res HP.out.w62
        obtain ⟨B, hrn, hB⟩ := HP.out.rn
        obtain ⟨Ao, co, At, ct, hc2, hc3, hlo, hlt3, hvo, hvt⟩ := hrn.view
        have c4 := hrn.c4
        have c6 := hrn.c6
        have hrl := hrn.lt
        have hNm := HP.out.res.len_le
        obtain ⟨N, hN⟩ : ∃ N, s.out.length = N := ⟨_, rfl⟩
        obtain ⟨mm, hmm⟩ : ∃ mm, ol.length = mm := ⟨_, rfl⟩
        obtain ⟨why, hwhy⟩ : ∃ y, s.why = y := ⟨_, rfl⟩
        obtain ⟨en, hen⟩ : ∃ y, s.en = y := ⟨_, rfl⟩
        rw [hN] at hc2 hlo hNm
        rw [hmm]
        rw [hwhy] at c4 hcs
        rw [hen] at c6 hcs
        have hrdy : rdy = true ↔ mm < N := by
          rw [← hmm, ← hN]
          cases hcs with
          | ready o h1 h2 h3 h4 => exact ⟨fun _ => h4, fun _ => h1⟩
          | live h1 h2 h3 h4 h5 h6 => rw [h1, h4]; simp
          | over h1 h2 h3 h4 h5 h6 => rw [h1, h4]; simp
          | fin h1 h2 h3 h4 h5 h6 h7 h8 => rw [h1, h4]; simp
          | stop h1 h2 h3 h4 h5 h6 h7 h8 h9 => rw [h1, h4]; simp
        obtain ⟨ov, hov⟩ : ∃ b, (en || (decide (why ≠ 1) || ended)) = b := ⟨_, rfl⟩
        have hopen : (rdy = false ∧ ov = false → Open t rdy ended) ∧ (rdy = true ∨ ov = true → ¬ Open t rdy ended) := by
          rw [← hov]
          unfold Open
          cases hcs with
          | ready o h1 h2 h3 h4 => rw [h1, h2]; simp
          | live h1 h2 h3 h4 h5 h6 => rw [h1, h2, h5, h6]; simp [h3]
          | over h1 h2 h3 h4 h5 h6 => rw [h1, h2, h5, h6]; simp
          | fin h1 h2 h3 h4 h5 h6 h7 h8 => rw [h1, h2, h6]; simp [h3]
          | stop h1 h2 h3 h4 h5 h6 h7 h8 h9 => rw [h1, h2, h6]; simp [h3, h9]
        have hnm : rdy = true → mm < N ∧ s.out[mm]? = some o := fun h => ⟨hrdy.1 h, by rw [← hmm]; exact hko h⟩
        have eW : decide ((mm : Int) < (N : Int)) = rdy := by
          by_cases h : mm < N
          · rw [hrdy.2 h]; exact W.decT (by omega)
          · have : rdy = false := by cases hr : rdy with
              | false => rfl
              | true => exact absurd (hrdy.1 hr) h
            rw [this]; exact W.decF (by omega)
        have eW2 : decide (mm < N) = rdy := by rw [← eW]; simp
        have HVO := Lib.hid hvo
        have HOV := Lib.hid hov
        have HOP := Lib.hid hopen
        have HNM := Lib.hid hnm
        have HN := Lib.hid hN
        have HMM := Lib.hid hmm
        clear hcs hko hrn hvo hvt hc3 hrdy hnm hov hopen hN hmm hwhy hen
        go_upto_region 11 with (fail)
        obtain ⟨wo, rfl⟩ : ∃ wo : World, wo = wr := ⟨_, rfl⟩
        go_cut [10] (fun s10 wz => s10 = .bool ov ∧ wo = wz)
        case first =>
          cases en with
          | true =>
            have HV := Lib.hid (show ov = true from by rw [← HOV.out]; rfl)
            go_wp2_with (fail)
            go_meet
            exact ⟨by rw [HV.out], rfl⟩
          | false =>
            by_cases h1 : why = 1
            · have e1 : ((why : Int) == 1) = true := W.eqT (by omega)
              have e2 : ((why : Int) != 1) = false := W.neF (by omega)
              have e3 : decide (why ≠ 1) = false := W.decF (fun h => h h1)
              have HV := Lib.hid (show ov = ended from by rw [← HOV.out, e3]; rfl)
              clear h1 e3
              go_wp2_with (fail)
              go_meet
              exact ⟨by rw [HV.out], rfl⟩
            · have e1 : ((why : Int) == 1) = false := W.eqF (by omega)
              have e2 : ((why : Int) != 1) = true := W.neT (by omega)
              have e3 : decide (why ≠ 1) = true := W.decT h1
              have HV := Lib.hid (show ov = true from by rw [← HOV.out, e3]; rfl)
              clear h1 e3
              go_wp2_with (fail)
              go_meet
              exact ⟨by rw [HV.out], rfl⟩
        case rest =>
          obtain ⟨rfl, rfl⟩ := hcut
          obtain ⟨⟨k, b⟩, hkb⟩ : ∃ x, ps[i]? = some x := ⟨_, List.getElem?_eq_getElem (by rw [HL.out]; omega)⟩
          obtain ⟨blk, off, rfl, hblk, hck, hcb, hkk, hbb⟩ := HR.out i k b hkb
          have hbk := HP.out.kp.block blk hblk (by simp)
          have hck2 : wo.cell? ⟨blk, off + i * 2, none⟩ = some (.int .u8 k) := (World.cell?_of_block (a := ⟨blk, off + i * 2, none⟩) hbk).trans hck
          have hcb2 : wo.cell? ⟨blk, off + i * 2 + 1, none⟩ = some (.int .u8 b) := (World.cell?_of_block (a := ⟨blk, off + i * 2 + 1, none⟩) hbk).trans hcb
          have HKB := Lib.hid hkk
          have HBB := Lib.hid hbb
          have HCB := Lib.hid hcb2
          clear hck hcb hbk hkb hkk
          obtain ⟨kk, hkk⟩ : ∃ kk : Int, k % 8 = kk := ⟨_, rfl⟩
          have hkk8 : 0 ≤ kk ∧ kk < 8 := by rw [← hkk]; omega
          have hk0 : 0 ≤ k := HKB.out.1
          go_upto_block 2 with (fail)
          try rw [hkk]
          clear hck2 hk0 hkk
          have hik : i ≤ i + 1 := Nat.le_succ i
          have hin : i < 400 := h400
          have HKE := Lib.hid (show ∀ wy, Kp [d, r, p, q, g] wo wy → wy.cell? ⟨rb, 2, none⟩ = some (.slice Ao N co) ∧ ∀ v, s.out[mm]? = some v → ∃ bo fo, Ao = some ⟨bo, fo, none⟩ ∧ wy.cell? ⟨bo, fo + mm, none⟩ = some (.int .u8 v) from fun wy hk => by
            have hne : ∀ k, N2 ≤ k → k ∉ [d, r, p, q, g] := fun k h1 h2 => by have := (HD.out k h2).2; omega
            obtain ⟨B9, hr9, hB9⟩ := HP.out.rn
            refine ⟨(World.cell?_of_block (a := ⟨rb, 2, none⟩) (hk.block rb hrl (hne rb (Nat.le_trans hB9 hr9.ge)))).trans hc2, fun v hv => ?_⟩
            obtain ⟨bo, fo, hA, h1, h2, h3⟩ := HVO.out mm v hv
            exact ⟨bo, fo, hA, (World.cell?_of_block (a := ⟨bo, fo + mm, none⟩) (hk.block bo h2 (hne bo (Nat.le_trans hB h1)))).trans h3⟩)
          have hmm0 : (0 : Int) ≤ (mm : Int) := by omega
          go_cut [4, 5, 6, 7] (fun s4 s5 s6 s7 wz => ∃ inn Ai n ci rb s t rdy o ol ended, s4 = .slice Ai n ci ∧ s5 = .pointer (some ⟨rb, 0, none⟩) ∧ s6 = .int .i64 (ol.length : Nat) ∧ s7 = .bool ended ∧ PlW w wz d r p q g N2 inn Ai n ci rb s t rdy o ol ended (i + 1))
          case first =>
           as_aux_lemma =>
            by_cases h45 : kk = 4 ∨ kk = 5
            · have hfour : ((kk == 4) = true ∧ (kk == 5) = false) ∨ ((kk == 4) = false ∧ (kk == 5) = true) := by
                rcases h45 with h | h
                · exact .inl ⟨W.eqT h, W.eqF (by omega)⟩
                · exact .inr ⟨W.eqF (by omega), W.eqT h⟩
              clear h45 hkk8
              rcases hfour with ⟨e4, e5⟩ | ⟨e4, e5⟩
              all_goals
                cases rdy with
                | true =>
                  obtain ⟨hmN, hso⟩ := HNM.out rfl
                  have hend := HP.out.px.not_ended
                  subst hend
                  have CX := Lib.hid (px_next HP.out.px (HG2.out _ HP.out.kp))
                  obtain ⟨hz2, hz⟩ := HKE.out _ (Kp.refl _ _)
                  obtain ⟨bo, fo, rfl, hz3⟩ := hz _ hso
                  have HSO := Lib.hid hso
                  have hmNi : (mm : Int) < (N : Int) := by omega
                  clear hso hz hz2 hz3
                  go_wp2_with (first
                    | (go_at_call 19; go_must (refine CX.out.mono ?_); rintro e w5 ⟨rfl, t5, rdy5, o5, hpx5, hk5⟩; have HPX5 := Lib.hid hpx5; have HK5 := Lib.hid hk5; have hz := HKE.out _ hk5; obtain ⟨z2, hz⟩ := hz; have hz := hz _ HSO.out; obtain ⟨bo2, fo2, hA2, z3⟩ := hz; injection hA2 with hA2; injection hA2 with hA3 hA4; subst hA3 hA4; clear hpx5 hk5))
                  go_meet
                  exact ⟨inn, Ai, n, ci, rb, s, t5, rdy5, o5, _, false, rfl, rfl, by rw [List.length_append, HMM.out]; go_num, rfl, (HP.out.obj HD.out HK5.out HPX5.out).same _ hik⟩
                | false =>
                  have CX := Lib.hid (px_next_no HP.out.px)
                  go_wp2_with (first
                    | (go_at_call 19; go_must (refine CX.out.mono ?_); rintro e w5 ⟨rfl, rfl⟩))
                  go_meet
                  exact ⟨inn, Ai, n, ci, rb, s, t, false, o, ol, ended, rfl, rfl, by rw [HMM.out], rfl, HP.out.same _ hik⟩
            · have e4 : (kk == 4) = false := W.eqF (fun h => h45 (.inl h))
              have e5 : (kk == 5) = false := W.eqF (fun h => h45 (.inr h))
              clear h45
              by_cases h6 : kk = 6
              · have e6 : (kk == 6) = true := W.eqT h6
                clear h6 hkk8
                cases rdy with
                | true =>
                  have hend := HP.out.px.not_ended
                  subst hend
                  have CX := Lib.hid (px_end_no HP.out.px (HOP.out.2 (.inl rfl)))
                  go_wp2_with (first
                    | (go_at_call 20; go_must (refine CX.out.mono ?_); rintro e w5 ⟨rfl, rfl⟩))
                  go_meet
                  exact ⟨inn, Ai, n, ci, rb, s, t, true, o, ol, false, rfl, rfl, by rw [HMM.out], rfl, HP.out.same _ hik⟩
                | false =>
                  cases ov with
                  | true =>
                    have CX := Lib.hid (px_end_no HP.out.px (HOP.out.2 (.inr rfl)))
                    cases ended with
                    | true =>
                      go_wp2_with (first
                        | (go_at_call 20; go_must (refine CX.out.mono ?_); rintro e w5 ⟨rfl, rfl⟩))
                      go_meet
                      exact ⟨inn, Ai, n, ci, rb, s, t, false, o, ol, true, rfl, rfl, by rw [HMM.out], rfl, HP.out.same _ hik⟩
                    | false =>
                      go_wp2_with (first
                        | (go_at_call 20; go_must (refine CX.out.mono ?_); rintro e w5 ⟨rfl, rfl⟩))
                      go_meet
                      exact ⟨inn, Ai, n, ci, rb, s, t, false, o, ol, false, rfl, rfl, by rw [HMM.out], rfl, HP.out.same _ hik⟩
                  | false =>
                    obtain ⟨_, hee, hlive⟩ := HOP.out.1 ⟨rfl, rfl⟩
                    subst hee
                    have CX := Lib.hid (px_end_yes HP.out.px hlive)
                    clear hlive
                    go_wp2_with (first
                      | (go_at_call 20; go_must (refine CX.out.mono ?_); rintro e w5 ⟨rfl, hpx5, hk5⟩; have HPX5 := Lib.hid hpx5; have HK5 := Lib.hid hk5; clear hpx5 hk5))
                    go_meet
                    exact ⟨inn, Ai, n, ci, rb, s, t, false, 0, ol, true, rfl, rfl, by rw [HMM.out], rfl, (HP.out.obj HD.out HK5.out HPX5.out).same _ hik⟩
              · have e6 : (kk == 6) = false := W.eqF h6
                by_cases h7 : kk = 7
                · have e7 : (kk == 7) = true := W.eqT h7
                  clear h6 h7 hkk8
                  have CX := Lib.hid (px_reset HP.out.px)
                  go_wp2_with (first
                    | (go_at_call 21; go_must (refine CX.out.mono ?_); rintro e w5 ⟨rfl, hpx5, hk5⟩; have HPX5 := Lib.hid hpx5; have HP5 := Lib.hid hk5; clear hpx5 hk5)
                    | (go_at_call 11; go_must (refine (r_of w5 none 0 0 [] 1048576 rfl (by omega) (fun x hx => by cases hx) (RV.nil _ _) (by omega) (by omega)).mono ?_); rintro e w6 ⟨rb6, s6, rfl, hrn, hb6, hres⟩; have HRN6 := Lib.hid hrn; have HB6 := Lib.hid hb6; have HRES6 := Lib.hid hres; clear hrn hb6 hres))
                  go_meet
                  have hres : Res st0 (bits8 []) 1048576 s6.out s6.ts s6.at_ s6.why s6.en := HRES6.out
                  have hcut : Res st0 (bits8 []) 1048576 [] [] 0 1 false := Res.cut (t := st0) (.refl _) ⟨rfl, rfl⟩ (next_none.2 fun _ => rfl) (Nat.zero_le _)
                  obtain ⟨_, _, _, e4, _⟩ := hres.uniq hcut
                  have hk5 : Kp [] w w5 := ((HP.out.kp.mono (T := [d, r, p, q, g]) (by simp)).trans HP5.out).mono (fun k hk => .inr (HD.out k hk).1)
                  exact ⟨[], none, 0, 0, rb6, s6, st0, false, 0, [], false, rfl, rfl, rfl, rfl, PlW.anew HPX5.out (World.ownsRow_nil _ _ _ _) (Nat.zero_le _) hk5 (Nat.le_trans HP.out.sz HP5.out.size) (fun x hx => by cases hx) HRN6.out HB6.out hres (by rw [e4]; decide)⟩
                · have e7 : (kk == 7) = false := W.eqF h7
                  clear h6 h7 hkk8
                  by_cases hopn : rdy = false ∧ ov = false
                  · obtain ⟨rfl, rfl⟩ := hopn
                    obtain ⟨_, hee, hlive⟩ := HOP.out.1 ⟨rfl, rfl⟩
                    subst hee
                    have CX := Lib.hid (px_put b HP.out.px hlive HBB.out (HG2.out _ HP.out.kp))
                    have hn400 : n ≤ 400 := by have := HP.out.len; omega
                    have hcb3 := HCB.out
                    have HNB := Lib.hid (show ∀ wy, Kp [d, r, p, q, g] wo wy → wy.cell? ⟨blk, off + i * 2 + 1, none⟩ = some (.int .u8 b) from fun wy hk => (World.cell?_of_block (a := ⟨blk, off + i * 2 + 1, none⟩) (hk.block blk (Nat.lt_of_lt_of_le hblk HP.out.kp.size) (fun hm => by have := (HD.out blk hm).1; omega))).trans HCB.out)
                    clear hlive
                    go_upto_region 16 with (first
                      | (go_at_call 18; go_must (refine CX.out.mono ?_); rintro e w5 ⟨rfl, t5, rdy5, o5, hpx5, hk5⟩; have HPX5 := Lib.hid hpx5; have HK5 := Lib.hid hk5; have zb := HNB.out _ hk5; clear hpx5 hk5))
                    have HK05 := Lib.hid (show Kp [] w w5 from ((HP.out.kp.mono (T := [d, r, p, q, g]) (by simp)).trans HK5.out).mono (fun k hk => .inr (HD.out k hk).1))
                    have HRO := Lib.hid (show (w5.alloc (.cells #[.int .u8 b] 5)).ownsRow N2 5 1 (.slice Ai n ci) n (u8s inn) from (own_kp2 HP.out.row HK5.out (fun k hm => (HD.out k hm).2)).alloc _)
                    have hsz5 : N2 ≤ w5.heap.size := Nat.le_trans HP.out.sz HK5.out.size
                    have HNW := Lib.hid (RV.new (w := w5) #[Value.int .u8 b] 5)
                    have hpo := HP.out.row
                    have hlen1 : inn.length = n := by have h9 := HP.out.row.1; rw [u8s_length] at h9; omega
                    have HIL := Lib.hid hlen1
                    clear hlen1 hpo hcb3
                    go_upto_region 17 with (first
                      | (at_builtin; go_must (refine wpList_ap el8 rfl _ _ rfl rfl HRO.out rfl (m := 1) (news := [Value.int .u8 b]) rfl HNW.out (by intro u hu; rw [List.mem_singleton.1 hu]; rfl) (by unfold maxLen; omega) (by omega) (by simp; omega) ?_); intro A8 c8 w8 hown hgrow hob hcap; have HOW8 := Lib.hid hown; have HGR8 := Lib.hid hgrow; clear hown hgrow hob))
                    obtain ⟨T, hT1, hT2⟩ := grown_kpe HRO.out HGR8.out
                    have hal : Kp [] w5 (w5.alloc (.cells #[.int .u8 b] 5)) := (Kp.refl _ _).alloc _
                    have HROW8 := Lib.hid (show w8.ownsRow N2 5 1 (.slice A8 (n + 1) c8) (n + 1) (u8s (inn ++ [b])) from by rw [u8s_append]; exact HOW8.out)
                    have HPX8 := Lib.hid ((HPX5.out.keep hal).row hT1 (fun k hk => (hT2 k hk).2) (fun k hk hm => by have h8 := (HD.out k hk).2; have h9 := (hT2 k hm).1; omega))
                    have HK8 := Lib.hid (show Kp [] w w8 from (((HK05.out.trans hal).mono (T := T) (by simp)).trans hT1).mono (fun k hm => .inr (Nat.le_trans hw2 (hT2 k hm).1)))
                    have hsz8 : N2 ≤ w8.heap.size := Nat.le_trans hsz5 (Nat.le_trans hal.size hT1.size)
                    have HBY := Lib.hid (show Bytes (inn ++ [b]) from fun x hx => by
                      rcases List.mem_append.1 hx with h | h
                      · exact HP.out.byt x h
                      · rw [List.mem_singleton.1 h]; exact HBB.out)
                    have CO := Lib.hid (r_of w8 A8 (n + 1) c8 (inn ++ [b]) 1048576 (by rw [List.length_append, HIL.out]; rfl) (by omega) HBY.out (RV.own HROW8.out) (by omega) (by omega))
                    clear hT1 hT2 hal
                    go_upto_region 18 with (first
                      | (go_at_call 11; go_must (refine CO.out.mono ?_); rintro e w9 ⟨rb9, s9, rfl, hrn, hb9, hres⟩; have HRN9 := Lib.hid hrn; have HB9 := Lib.hid hb9; have HRES9 := Lib.hid (show Res st0 (bits8 (inn ++ [b])) 1048576 s9.out s9.ts s9.at_ s9.why s9.en from hres); clear hrn hb9 hres))
                    have hc4 := HRN9.out.c4
                    have hlt9 := HRN9.out.lt
                    have CA9 := Lib.hid (c_awake w9 (HG.out.kept (HK8.out.trans (Kp.of_below HB9.out)) (fun k hk => hk)))
                    obtain ⟨y9, hy9⟩ : ∃ y, s9.why = y := ⟨_, rfl⟩
                    rw [hy9] at hc4
                    have HY9 := Lib.hid hy9
                    clear hy9
                    by_cases h62 : y9 = 62
                    · have e62 : ((y9 : Int) == 62) = true := W.eqT (by omega)
                      clear h62
                      go_wp2_with (first
                        | (go_at_call 14; go_must (refine CA9.out.mono ?_); rintro e wa ⟨rfl, hka⟩))
                      go_ret
                      exact ⟨rfl, ((HK8.out.trans (Kp.of_below HB9.out)).trans hka).below (Nat.le_refl _) (by simp)⟩
                    · have e62 : ((y9 : Int) == 62) = false := W.eqF (by omega)
                      have H62 := Lib.hid h62
                      clear h62
                      go_wp2_with (fail)
                      go_meet
                      exact ⟨inn ++ [b], A8, n + 1, c8, rb9, s9, t5, rdy5, o5, ol, false, rfl, rfl, by rw [HMM.out], rfl, PlW.anew HPX8.out HROW8.out (by have := HP.out.len; omega) HK8.out hsz8 HBY.out HRN9.out HB9.out HRES9.out (by rw [HY9.out]; exact H62.out)⟩
                  · have hno : rdy = true ∨ ov = true := by
                      cases hr9 : rdy with
                      | true => exact .inl rfl
                      | false =>
                        cases ho9 : ov with
                        | true => exact .inr rfl
                        | false => exact absurd ⟨hr9, ho9⟩ hopn
                    have CX := Lib.hid (px_put_no b HP.out.px (HOP.out.2 hno))
                    clear hopn
                    have hcb3 := HCB.out
                    cases rdy with
                    | true =>
                      go_wp2_with (first
                        | (go_at_call 18; go_must (refine CX.out.mono ?_); rintro e w5 ⟨rfl, rfl⟩))
                      go_meet
                      exact ⟨inn, Ai, n, ci, rb, s, t, true, o, ol, ended, rfl, rfl, by rw [HMM.out], rfl, HP.out.same _ hik⟩
                    | false =>
                      obtain rfl : ov = true := hno.resolve_left (by simp)
                      go_wp2_with (first
                        | (go_at_call 18; go_must (refine CX.out.mono ?_); rintro e w5 ⟨rfl, rfl⟩))
                      go_meet
                      exact ⟨inn, Ai, n, ci, rb, s, t, false, o, ol, ended, rfl, rfl, by rw [HMM.out], rfl, HP.out.same _ hik⟩
          case rest =>
            obtain ⟨inn2, Ai2, n2, ci2, rb2, s2, t2, rdy2, o2, ol2, ended2, rfl, rfl, rfl, rfl, hpl⟩ := hcut
            have HP2 := Lib.hid hpl
            clear hpl CAW HKE HVO HOV HOP HNM HN HMM HCB eW eW2 hc2 c4 c6 hlo hNm hrl hlt3
            obtain ⟨hcs, _⟩ := HP2.out.px.cs HP2.out.res HP2.out.w62
            obtain ⟨B2, hrn, hB2⟩ := HP2.out.rn
            obtain ⟨Ao, co, At, ct, hc2, _, hlo, _, _, _⟩ := hrn.view
            have c4 := hrn.c4
            have c6 := hrn.c6
            have hrl := hrn.lt
            have hNm := HP2.out.res.len_le
            have cD := px_done HP2.out.px
            have cR := px_reason HP2.out.px
            obtain ⟨N, hN⟩ : ∃ N, s2.out.length = N := ⟨_, rfl⟩
            obtain ⟨mm, hmm⟩ : ∃ mm, ol2.length = mm := ⟨_, rfl⟩
            obtain ⟨why, hwhy⟩ : ∃ y, s2.why = y := ⟨_, rfl⟩
            rw [hN] at hc2 hlo hNm
            rw [hmm]
            rw [hwhy] at c4 hcs
            have HMM := Lib.hid hmm
            have hcs5 : (rdy2 = true ∧ mm < N) ∨ (rdy2 = false ∧ mm = N ∧ s2.en = t2.m.fin ∧ ((s2.en = true ∧ (if ended2 then 1 else t2.m.why) = 0) ∨ (s2.en = false ∧ why = 1 ∧ ended2 = false ∧ t2.m.why = 0) ∨ (s2.en = false ∧ (why ≠ 1 ∨ ended2 = true) ∧ (if ended2 then 1 else t2.m.why) = why))) := by
              rw [← hmm, ← hN]
              cases hcs with
              | ready o h1 h2 h3 h4 => exact .inl ⟨h1, h4⟩
              | live h1 h2 h3 h4 h5 h6 => exact .inr ⟨h1, by rw [h4], by rw [h6, h3.2], .inr (.inl ⟨h6, h5, h2, h3.1⟩)⟩
              | over h1 h2 h3 h4 h5 h6 => exact .inr ⟨h1, by rw [h4], by rw [h6, h3.2], .inr (.inr ⟨h6, .inr h2, by rw [h2, h5]; rfl⟩)⟩
              | fin h1 h2 h3 h4 h5 h6 h7 h8 => exact .inr ⟨h1, by rw [h4], by rw [h6, h7], .inl ⟨h6, by rw [h2, h8]; rfl⟩⟩
              | stop h1 h2 h3 h4 h5 h6 h7 h8 h9 => exact .inr ⟨h1, by rw [h4], by rw [h6, h7], .inr (.inr ⟨h6, .inl h9, by rw [h2, h8]; rfl⟩)⟩
            clear hcs hrn hN hmm hwhy
            rcases hcs5 with ⟨hr, hlt⟩ | ⟨hr, hmN, hef, hcase⟩
            · subst hr
              have d1 : decide ((mm : Int) < (N : Int)) = true := W.decT (by omega)
              have d2 : decide (mm < N) = true := W.decT hlt
              rw [Bool.not_true, Bool.and_false] at cD
              have CD := Lib.hid cD
              have CR := Lib.hid cR
              clear cD cR hlt
              go_wp2_with (first
                | (go_at_call 16; go_must (refine CD.out.mono ?_); rintro e w5 ⟨rfl, rfl⟩)
                | (go_at_call 17; go_must (refine CR.out.mono ?_); rintro e w5 ⟨rfl, rfl⟩))
              go_roundg g'
              case measure => omega
              case rel => exact ⟨i + 1, inn2, Ai2, n2, ci2, rb2, s2, t2, true, o2, ol2, ended2, by omega, by go_num, rfl, rfl, by rw [HMM.out], rfl, HP2.out⟩
            · subst hr hmN
              have d1 : decide ((mm : Int) < (mm : Int)) = false := W.decF (by omega)
              have d2 : decide (mm < mm) = false := W.decF (by omega)
              rw [Bool.not_false, Bool.and_true, ← hef] at cD
              rw [if_neg (by simp)] at cR
              clear hef
              rcases hcase with ⟨h1, h2⟩ | ⟨h1, h2, h3, h4⟩ | ⟨h1, h2, h3⟩
              · rw [h1] at cD c6
                rw [h2] at cR
                have CD := Lib.hid cD
                have CR := Lib.hid cR
                clear cD cR h1 h2
                go_wp2_with (first
                | (go_at_call 16; go_must (refine CD.out.mono ?_); rintro e w5 ⟨rfl, rfl⟩)
                | (go_at_call 17; go_must (refine CR.out.mono ?_); rintro e w5 ⟨rfl, rfl⟩))
                go_roundg g'
                case measure => omega
                case rel => exact ⟨i + 1, inn2, Ai2, n2, ci2, rb2, s2, t2, false, o2, ol2, ended2, by omega, by go_num, rfl, rfl, by rw [HMM.out], rfl, HP2.out⟩
              · rw [h1] at cD c6
                rw [h3, if_neg (by simp), h4] at cR
                subst h2
                have H3 := Lib.hid h3
                have CD := Lib.hid cD
                have CR := Lib.hid cR
                rw [h3]
                clear cD cR h1 h4 h3
                go_wp2_with (first
                | (go_at_call 16; go_must (refine CD.out.mono ?_); rintro e w5 ⟨rfl, rfl⟩)
                | (go_at_call 17; go_must (refine CR.out.mono ?_); rintro e w5 ⟨rfl, rfl⟩))
                go_roundg g'
                case measure => omega
                case rel => exact ⟨i + 1, inn2, Ai2, n2, ci2, rb2, s2, t2, false, o2, ol2, ended2, by omega, by go_num, rfl, rfl, by rw [HMM.out], by rw [H3.out], HP2.out⟩
              · rw [h1] at cD c6
                rw [h3] at cR
                have CD := Lib.hid cD
                have CR := Lib.hid cR
                clear cD cR h1 h3
                by_cases hw1 : why = 1
                · have he2 : ended2 = true := h2.resolve_left (fun h => h hw1)
                  have H3 := Lib.hid he2
                  rw [he2]
                  have e1 : ((why : Int) == 1) = true := W.eqT (by omega)
                  have e2 : ((why : Int) != 1) = false := W.neF (by omega)
                  clear h2 hw1 he2
                  go_wp2_with (first
                | (go_at_call 16; go_must (refine CD.out.mono ?_); rintro e w5 ⟨rfl, rfl⟩)
                | (go_at_call 17; go_must (refine CR.out.mono ?_); rintro e w5 ⟨rfl, rfl⟩))
                  go_roundg g'
                  case measure => omega
                  case rel => exact ⟨i + 1, inn2, Ai2, n2, ci2, rb2, s2, t2, false, o2, ol2, ended2, by omega, by go_num, rfl, rfl, by rw [HMM.out], by rw [H3.out], HP2.out⟩
                · have e1 : ((why : Int) == 1) = false := W.eqF (by omega)
                  have e2 : ((why : Int) != 1) = true := W.neT (by omega)
                  clear h2 hw1
                  go_wp2_with (first
                | (go_at_call 16; go_must (refine CD.out.mono ?_); rintro e w5 ⟨rfl, rfl⟩)
                | (go_at_call 17; go_must (refine CR.out.mono ?_); rintro e w5 ⟨rfl, rfl⟩))
                  go_roundg g'
                  case measure => omega
                  case rel => exact ⟨i + 1, inn2, Ai2, n2, ci2, rb2, s2, t2, false, o2, ol2, ended2, by omega, by go_num, rfl, rfl, by rw [HMM.out], rfl, HP2.out⟩
      · have hk4 : ¬ (i : Int) < 400 := by omega
        go_wp2_with (first
          | (go_at_call 14; go_must (refine CAW.out.mono ?_); rintro e w8 ⟨rfl, hk8⟩))
        go_ret
        exact ⟨rfl, (HP.out.kp.trans hk8).below (Nat.le_refl _) (by simp)⟩
end Go.Proofs.YtdpnlmofkkdioaaDoor.Hf
