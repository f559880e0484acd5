/- The walk of gzip.Whole. -/
import Derived.Test.YtjjcemdoefigkaaDoorGq
namespace Go.Proofs.YtjjcemdoefigkaaDoor.Hf
set_option linter.unusedVariables false
set_option linter.unusedSimpArgs false
open Go.RowKit Go.Proofs.YtjjcemdoefigkaaDoor.W

def GWh (w : World) (l : List Int) (n : Nat) (e : Ending) (w' : World) : Prop :=
  ∃ A m c E y vs, e = .returned (.tuple #[.slice A m c, .int .i64 (y : Nat)]) ∧ GzR l n E y ∧ Prt w' (List.range w.heap.size) A m c vs (partsE E) ∧ Kp [] w w'
structure Ow (w wx : World) (a : Ad) (l : List Int) (i : Nat) (A : Option Addr) (n c : Nat) (vs : List Value) : Prop where
  gm : GM wx a (zAt l i)
  prt : Prt wx (sG w a) A n c vs (partsE (eAt l i))
  below : Kp [] w wx
theorem endk {z : Z} : z.end_.has = z.has := by
  unfold Z.end_
  repeat' split
  all_goals rfl
theorem end_stop {z : Z} (h : z.why ≠ 0) : z.end_ = z := by unfold Z.end_; rw [if_pos (.inr (.inr h))]
theorem Ow.done {w wx w' : World} {a : Ad} {l : List Int} {i N : Nat} {A : Option Addr} {n c : Nat} {vs : List Value} (h : Ow w wx a l i A n c vs) (hge : ∀ k ∈ a.all, w.heap.size ≤ k) (hk : Kp a.all wx w') (he : eAt l l.length = eAt l i) (hz : zAt l l.length = zAt l i) (hN : bytesN (eAt l i) ≤ N) : GWh w l N (.returned (.tuple #[.slice A n c, .int .i64 ((zAt l i).end_.why : Nat)])) w' := by
  refine ⟨A, n, c, eAt l i, _, vs, rfl, ?_, narrow_p (h.prt.kept hk (fun k hk => .inl (List.mem_append_right _ hk))) (fun k hk => List.mem_append_left _ hk), ((h.below.mono (T := a.all) (by simp)).trans hk).mono (fun k hk => .inr (hge k hk))⟩
  have h1 := GzR.all (l := l) (n := N) (by rw [he]; exact hN)
  rw [he, hz] at h1
  exact h1
theorem at_stop {l : List Int} {i : Nat} (hi : i ≤ l.length) (h : (zAt l i).why ≠ 0) : eAt l l.length = eAt l i ∧ zAt l l.length = zAt l i := by
  obtain ⟨h1, h2⟩ := at_all l hi
  rw [run_stop h] at h1 h2
  exact ⟨by simpa using h2, h1⟩
set_option maxHeartbeats 8000000 in
set_option maxRecDepth 100000 in
theorem c_gwhole (A : Option Addr) (L c : Nat) (l : List Int) (nn : Int) (w : World) (hL : l.length = L) (hL2 : L ≤ 1048576) (hB : Bytes l) (hr : RB w A l) (hn : nn ≤ 1048576) (hn0 : -9223372036854775808 ≤ nn) (hG : Gt w []) (hq : Gq w) :
    Calls Tryd.prog 12 #[.slice A L c, .int .i64 nn] w (GWh w l nn.toNat) := by
  have CN := g_new w
  unfold GNew at CN
  have CN := Lib.hid CN
  have HL := Lib.hid hL
  have HB := Lib.hid hB
  have HR := Lib.hid hr
  have HG := Lib.hid hG
  have HQ := Lib.hid hq
  clear hr hG hB hL hq
  go_enter Tryd.func12, Tryd.ntmps12
  go_upto_block 0 with (first
    | (go_at_call 21; go_must (refine CN.out.mono ?_); rintro en w2 ⟨a, rfl, hi, hk, hge⟩; have HI := Lib.hid hi; have HK := Lib.hid hk; have HGE := Lib.hid hge; clear hi hk hge))
  have HGG := Lib.hid (show ∀ wz, Kp [] w wz → Gg wz a from fun wz hk => by
    have h1 := HG.out.kept hk (fun k hk => hk)
    exact ⟨⟨h1.t0, h1.t1, h1.t2, h1.t3, h1.t4, h1.sz, fun b hb hm => by have h2 := HGE.out b hm; have h3 := HG.out.sz; omega⟩, fun i v hv => (World.cell?_of_block (a := ⟨0, i, none⟩) (hk.block 0 (Nat.lt_of_lt_of_le (show 0 < gtop by decide) HG.out.sz) (fun h => by cases h))).trans (HQ.out i v hv)⟩)
  go_wp2_with (fail)
  go_loopg [4, 7, 15] L (fun gk s4 s7 s15 wx => ∃ i A4 m4 c4 vs gv, i + gk = L ∧ s15 = .int .i64 (i : Nat) ∧ s7 = .int .i64 (gv : Nat) ∧ s4 = .slice A4 m4 c4 ∧ Ow w wx a l i A4 m4 c4 vs ∧ Hid (bytesN (eAt l i) = gv ∧ gv ≤ nn.toNat))
  case atStart => exact ⟨0, none, 0, 0, [], 0, by omega, rfl, rfl, rfl, ⟨HI.out, Prt.nil _ _, HK.out⟩, Lib.hid ⟨rfl, Nat.zero_le _⟩⟩
  case round =>
    obtain ⟨i, A4, m4, c4, vs, gv, hig, rfl, rfl, rfl, hW, hgv⟩ := hrel
    have HW := Lib.hid hW
    have hgle := hgv.out.2
    have hgv9 : gv ≤ 1048576 := by omega
    have hRz := Rz.at_ HB.out i
    have CRq := Lib.hid (fun (wz : World) (h : GM wz a (zAt l i).end_) => show Calls Tryd.prog 8 #[.pointer (some ⟨a.b, 0, none⟩)] wz (fun e w' => e = .returned (.int .i64 ((zAt l i).end_.why : Nat)) ∧ wz = w') from by
      have h1 := g_reason h
      rw [endk, hRz.has] at h1
      exact h1)
    have CE := Lib.hid (g_end hW.gm)
    have HRZ := Lib.hid hRz
    clear hW hRz
    cases gk with
    | zero =>
      obtain rfl : i = L := by omega
      have hk : ¬ (i : Int) < (i : Int) := by omega
      go_wp2_with (first
        | (go_at_call 4; go_must (refine CE.out.mono ?_); rintro en w5 hg5; obtain ⟨rfl, hg5⟩ := hg5; have HG5 := Lib.hid hg5; clear hg5)
        | (go_at_call 8; go_must (refine (CRq.out _ HG5.out.1).mono ?_); rintro en w6 ⟨rfl, rfl⟩))
      go_ret2
      exact HW.out.done HGE.out HG5.out.2 (by rw [HL.out]) (by rw [HL.out]) (by rw [hgv.out.1]; exact hgle)
    | succ g =>
      have hk : (i : Int) < (L : Int) := by omega
      obtain ⟨x, hx⟩ : ∃ x, l[i]? = some x := ⟨_, List.getElem?_eq_getElem (by rw [HL.out]; omega)⟩
      have hxb : Bt x := HB.out x (List.mem_of_getElem? hx)
      obtain ⟨bA, off, rfl, hbA, hcA⟩ := RB.get (show RB wr A l from HR.out.below (HW.out.below.below (Nat.le_refl _) (by simp))) hx
      by_cases hw0 : (zAt l i).why = 0
      · have CP := Lib.hid (g_put HW.out.gm HRZ.out hw0 (HGG.out _ HW.out.below) x hxb)
        obtain ⟨hs1, hs2⟩ := at_succ hx
        have hdr := bz_dr HRZ.out hw0 hxb
        rw [← hs1] at hdr
        obtain ⟨es, hes⟩ : ∃ es, (bz (zAt l i) x).2 = es := ⟨_, rfl⟩
        rw [hes] at hs2 hdr
        obtain ⟨hgd, hop⟩ := byte_good (x := x) HRZ.out (at_good HB.out i (by rw [HL.out]; omega)).1
        rw [hes] at hgd hop
        have hlen0 := (at_good HB.out i (by rw [HL.out]; omega)).2
        obtain ⟨oe, zn, es', hrs, hee⟩ := rest_of hdr
        have HPOK := Lib.hid (HRZ.out.ok.put hw0 hxb).1
        have HRS := Lib.hid hrs
        have HEE := Lib.hid hee
        have HS2 := Lib.hid hs2
        have HGD := Lib.hid hgd
        have HOP := Lib.hid hop.1
        obtain ⟨ps0, hps0⟩ : ∃ ps0, partsE (eAt l i) = ps0 := ⟨_, rfl⟩
        have HPS := Lib.hid hps0
        rw [hps0] at hlen0
        clear hx hs1 hs2 hdr hgd hop hes hrs hee hps0
        go_wp2_with (first
          | (go_at_call 7; go_must (refine CP.out.mono ?_); rintro en w5 hg5; obtain ⟨rfl, hg5⟩ := hg5; have HG5 := Lib.hid hg5; clear hg5)
          | (go_at_call 6; go_must (refine (g_nx HG5.out.1 HPOK.out ((HGG.out _ HW.out.below).kept HG5.out.2) HRS.out).mono ?_); rintro en w6 hg6; obtain ⟨rfl, hg6⟩ := hg6; have HG6 := Lib.hid hg6; clear hg6))
        go_loopg [4, 7, 10, 11] (oe.toList ++ es').length (fun gj s4 s7 s10 s11 wy => ∃ td oj ej zj A2 m2 c2 vs2 xb gj2, s4 = .slice A2 m2 c2 ∧ s7 = .int .i64 (gj2 : Nat) ∧ s10 = .pointer (some ⟨xb, 0, none⟩) ∧ s11 = .bool (oj.isSome) ∧ (oj.toList ++ ej).length = gj ∧ Iw w wy a xb (evO oj) (td.foldl addE ps0) A2 m2 c2 vs2 zj ∧ Hid (es = td ++ (oj.toList ++ ej) ∧ (oj = none → zj = zAt l (i + 1) ∧ ej = []) ∧ (∀ e, oj = some e → Dr zj (zAt l (i + 1)) ej) ∧ Zok zj ∧ gv + byn td = gj2 ∧ gj2 ≤ nn.toNat))
        case atStart =>
          have hk6 : Kp a.all wr w6 := HG5.out.2.trans HG6.out.2
          have hal : Kp [] w6 (w6.alloc (.cells #[.int .i64 ((evO oe).kd : Nat), .int .u8 (evO oe).by_, .int .i64 ((evO oe).nd : Nat), .int .i64 0, .string (strOfNums (evO oe).tx)] 24)) := (Kp.refl _ _).alloc _
          have hlt6 := HG6.out.1.lts
          have hb6 : Kp [] w w6 := ((HW.out.below.mono (T := a.all) (by simp)).trans hk6).mono (fun k hk => .inr (HGE.out k hk))
          refine ⟨[], oe, es', zn, A4, m4, c4, vs, w6.heap.size, gv, rfl, rfl, rfl, rfl, rfl, ⟨HG6.out.1.keep hal, ?_, heap_alloc_new w6 _, hb6.trans hal, hb6.size, fun hm => by have := hlt6 _ hm; omega⟩, Lib.hid ⟨HEE.out, fun he => ?_, fun e he => ?_, HRS.out.ok HPOK.out, rfl, hgle⟩⟩
          · have hp := HW.out.prt
            rw [HPS.out] at hp
            exact (hp.kept hk6 (fun k hk => .inl (List.mem_append_right _ hk))).kept hal (by simp)
          · subst he; exact HRS.out.last
          · subst he; exact HRS.out.dr
        case round =>
          obtain ⟨td, oj, ej, zj, A2, m2, c2, vs2, xb, gj2, rfl, rfl, rfl, rfl, hlen, D, hH⟩ := hrel
          obtain ⟨q1, q2, q3, q4, q5, q6⟩ := hH.out
          have Q1 := Lib.hid q1
          have Q4 := Lib.hid q4
          have Q5 := Lib.hid q5
          have HD := Lib.hid D
          have hg9 : gj2 ≤ 1048576 := by omega
          cases oj with
          | none =>
            obtain ⟨rfl, rfl⟩ := q2 rfl
            have HD2 := Lib.hid D
            clear q1 q2 q3 q4 q5 D hH
            go_wp2_with (fail)
            go_roundg g
            case measure => omega
            case rel =>
              have e1 : es = td := by rw [Q1.out]; simp
              refine ⟨i + 1, A2, m2, c2, vs2, gj2, by omega, by go_num, rfl, rfl, ⟨HD2.out.gm, ?_, HD2.out.below⟩, Lib.hid ⟨?_, q6⟩⟩
              · rw [HS2.out, partsE_append, snd_map, HPS.out, e1]
                exact HD2.out.prt
              · rw [HS2.out, bytesN_append, hgv.out.1, ← Q5.out, e1]
                show gv + byn ((td.map fun e => (i, e)).map Prod.snd) = gv + byn td
                rw [snd_map]
          | some e =>
            have hdz := q3 e rfl
            have hge2 : Es (td.foldl addE ps0) (e :: ej) := Es.behind td (by have h9 := HGD.out; rw [HPS.out, q1] at h9; exact h9)
            have hlen2 : (td.foldl addE ps0).length ≤ 1048577 := by
              have h9 := HOP.out
              rw [q1, opn_append] at h9
              rw [foldE_len]
              have := HL.out
              omega
            have hrow2 : ∀ r ∈ td.foldl addE ps0, r.length ≤ gj2 := by
              rw [← q5]
              refine foldE_row td (fun r hr => ?_)
              rw [← HPS.out] at hr
              rw [← hgv.out.1]
              exact partsE_row _ r hr
            obtain ⟨ps, hps⟩ : ∃ ps, td.foldl addE ps0 = ps := ⟨_, rfl⟩
            rw [hps] at hge2 hlen2 hrow2 D
            have HPP := Lib.hid hps
            have HDZ := Lib.hid hdz
            have HGE2 := Lib.hid hge2
            have HROW := Lib.hid hrow2
            have HB2 := Lib.hid hH.out
            have hm2 := D.prt.len
            rw [hm2] at hlen2
            have hcx := fun j => cell_of_row wr xb j _ _ _ D.x
            have hc0 : wr.cell? ⟨xb, 0, none⟩ = some (.int .i64 (e.kd : Nat)) := hcx 0
            have hc1 : wr.cell? ⟨xb, 1, none⟩ = some (.int .u8 e.by_) := hcx 1
            have hc2 : wr.cell? ⟨xb, 2, none⟩ = some (.int .i64 (e.nd : Nat)) := hcx 2
            have hc3 : wr.cell? ⟨xb, 3, none⟩ = some (.int .i64 0) := hcx 3
            have hc4 : wr.cell? ⟨xb, 4, none⟩ = some (.string (strOfNums e.tx)) := hcx 4
            have HDD := Lib.hid D
            obtain ⟨wq, rfl⟩ : ∃ wq : World, wq = wr := ⟨_, rfl⟩
            clear hcx hps hdz hge2 hrow2 hH q1 q2 q3 q4 q5 HD
            go_upto_block 3 with (fail)
            go_cut [4, 7] (fun t4 t7 wz => ∃ A3 m3 c3 vs3 g3, t4 = .slice A3 m3 c3 ∧ t7 = .int .i64 (g3 : Nat) ∧ Prt wz (sG w a) A3 m3 c3 vs3 (addE ps e) ∧ GM wz a zj ∧ wz.heap[xb]? = wq.heap[xb]? ∧ Kp [] w wz ∧ Hid (gj2 + byn [e] = g3 ∧ g3 ≤ nn.toNat))
            case first =>
              by_cases hk1 : e.kd = 1
              · have i1 : ((e.kd : Int) == 1) = true := W.eqT (by omega)
                have tk1 : True := trivial
                go_wp2_with (at_builtin; have _t := tk1; go_must (refine wpList_ap el88 rfl _ _ rfl rfl (HDD.out.prt.own.alloc _) rfl rfl (RV.new _ _) (by intro u hu; simp at hu; subst hu; rfl) (by unfold maxLen; omega) (by omega) (Nat.zero_le _) ?_); intro A3 c3 w4 hown4 hgrow4 hat4 hle4; clear tk1 _t)
                go_meet
                have e1 : addE ps e = ps ++ [[]] := by unfold addE; rw [if_pos hk1]
                have e2 : byn [e] = 0 := by unfold byn; simp [hk1]
                refine ⟨A3, m2 + 1, c3, _, gj2, rfl, rfl, by rw [e1]; exact HDD.out.prt.opened hown4 hgrow4 hat4 (fun k hk => sG_lt HDD.out.below HDD.out.gm k hk), ?_⟩
                obtain ⟨s1, s2, s3⟩ := HDD.out.step (((Kp.refl (Value.slice A2 m2 c2).ownBlock.toList wq).alloc _).grown hgrow4 (fun k hk => .inl (by have hk' : (Value.slice A2 m2 c2).ownBlock = some k := hk; simpa using hk'))) (fun t ht => by
                    have ht' : (Value.slice A2 m2 c2).ownBlock = some t := by simpa using ht
                    exact ⟨HDD.out.prt.avoid t ht', own_ne HDD.out.prt.own HDD.out.x (by decide) ht'⟩) (own_tn HDD.out.prt.own (by decide))
                exact ⟨s1, s2, s3, Lib.hid ⟨by rw [e2]; rfl, q6⟩⟩
              · have i1 : ((e.kd : Int) == 1) = false := W.eqF (by omega)
                by_cases hk2 : e.kd = 2
                · have i2 : ((e.kd : Int) == 2) = true := W.eqT (by omega)
                  obtain ⟨hpn, heb⟩ := HGE2.out.1 hk2
                  have HEB := Lib.hid heb
                  clear heb
                  by_cases hfull : nn ≤ (gj2 : Int)
                  · have i3 : decide (nn ≤ (gj2 : Int)) = true := W.decT hfull
                    have i4 : ¬ (gj2 : Int) < nn := by omega
                    go_wp2_with (fail)
                    go_ret2
                    have hpre : eAt l i ++ es.map (fun e => (i, e)) <+: eAt l l.length := by
                      rw [← HS2.out]
                      exact e_mono l (by have := HL.out; omega) (Nat.le_refl _)
                    obtain ⟨post, hpost⟩ := hpre
                    refine ⟨A2, m2, c2, eAt l i ++ td.map (fun e => (i, e)), 62, vs2, rfl, .much (t := i) (b := e.by_) (post := ej.map (fun e => (i, e)) ++ post) ?_ ?_, ?_, HDD.out.below⟩
                    · rw [← hpost, Q1.out, List.map_append]
                      simp only [Option.toList_some, List.singleton_append, List.map_cons, List.append_assoc, List.cons_append, List.nil_append]
                      rw [← HEB.out]
                    · rw [bytesN_append, hgv.out.1]
                      unfold bytesN
                      rw [snd_map, Q5.out]
                      omega
                    · rw [partsE_append, snd_map, HPS.out, HPP.out]
                      exact narrow_p HDD.out.prt (fun k hk => List.mem_append_left _ hk)
                  · have i3 : decide (nn ≤ (gj2 : Int)) = false := W.decF hfull
                    have i4 : (gj2 : Int) < nn := by omega
                    obtain ⟨m, hm⟩ : ∃ m, m2 = m + 1 := ⟨m2 - 1, by have := List.length_pos_iff.2 hpn; omega⟩
                    subst hm
                    obtain ⟨rw_, hrw⟩ : ∃ r, ps[m]? = some r := ⟨_, List.getElem?_eq_getElem (by omega)⟩
                    obtain ⟨v, hv, hvo, hva⟩ := HDD.out.prt.row m rw_ hrw
                    obtain ⟨AV, cV, rfl, hcV⟩ := slice_form hvo
                    obtain ⟨g5, cap5, hA5⟩ : ∃ g5 cap5, Value.slice A2 (m + 1) c2 = .slice (some ⟨g5, 0, none⟩) (m + 1) cap5 := by
                      rcases HDD.out.prt.own.2 with ⟨h, _⟩ | ⟨g, cap, cur, h, _⟩
                      · injection h with _ h2; omega
                      · exact ⟨g, cap, h⟩
                    injection hA5 with hA5 _ hA6
                    subst hA5 hA6
                    have hcm := own_elem HDD.out.prt.own hv
                    have hcm3 := fun o => own_elem (HDD.out.prt.own.alloc o) hv
                    have hrl5 := HROW.out rw_ (List.mem_of_getElem? hrw)
                    have e1 : IntKind.i64.wrap (m : Int) = (m : Int) := IntWalk.i64_in _ (by omega)
                    have e2 : (m : Int) < (m : Int) + 1 := by omega
                    have e0 : (0 : Int) ≤ (m : Int) := by omega
                    have e3 : rw_.length + 1 ≤ maxLen := by unfold maxLen; omega
                    have e4 : (rw_.length + 1) * 1 ≤ 140737488355328 := by omega
                    have hDd : Prt wq.drew (sG w a) (some ⟨g5, 0, none⟩) (m + 1) c2 vs2 ps := HDD.out.prt.kept (Kp.refl [] wq).drew (by simp)
                    have b1 : byn [e] = 1 := by unfold byn; simp [hk2]
                    generalize hbv : e.by_ = bv at *
                    go_wp2
                    go_region_law? (refine step_ap el8 rfl (.tmp 58) (.tmp 61) rfl (by rfl) ((hvo.drew).alloc _) (by rfl) rfl (RV.new _ _) (by intro u hu; simp at hu; subst hu; rfl) e3 e4 (Nat.zero_le _) ?_; intro A6 c6 w6 hown6 hgrow6 hat6 hle6; have hsz6 := slot_p hDd hv hrw hgrow6; obtain ⟨hs6, hz6⟩ := hsz6)
                    all_goals clear hcm3 hcm e1 e2
                    all_goals go_wp2
                    all_goals go_meet
                    all_goals
                      obtain ⟨A3, m3, c3, vs3, w1, w2, w3, w4, w5⟩ := HDD.out.byte hrw hv hk2 hbv hown6 hgrow6 hat6
                      exact ⟨A3, m3, c3, vs3, gj2 + 1, w1, rfl, w2, w3, w4, w5, Lib.hid ⟨by rw [b1], by omega⟩⟩
                · have i2 : ((e.kd : Int) == 2) = false := W.eqF (by omega)
                  go_wp2_with (fail)
                  go_meet
                  have e1 : addE ps e = ps := by unfold addE; rw [if_neg hk1, if_neg hk2]
                  have e2 : byn [e] = 0 := by unfold byn; simp [hk2]
                  exact ⟨A2, m2, c2, vs2, gj2, rfl, rfl, by rw [e1]; exact HDD.out.prt, HDD.out.gm, rfl, HDD.out.below, Lib.hid ⟨by rw [e2]; rfl, q6⟩⟩
            case rest =>
              obtain ⟨A3, m3, c3, vs3, g3, rfl, rfl, P3, S3, X3, B3, hg3⟩ := hcut
              have hcx := fun j => cell_of_row wc xb j _ _ _ (X3.trans HDD.out.x)
              have hd0 : wc.cell? ⟨xb, 0, none⟩ = some (.int .i64 (e.kd : Nat)) := hcx 0
              have hd1 : wc.cell? ⟨xb, 1, none⟩ = some (.int .u8 e.by_) := hcx 1
              have hd2 : wc.cell? ⟨xb, 2, none⟩ = some (.int .i64 (e.nd : Nat)) := hcx 2
              have hd3 : wc.cell? ⟨xb, 3, none⟩ = some (.int .i64 0) := hcx 3
              have hd4 : wc.cell? ⟨xb, 4, none⟩ = some (.string (strOfNums e.tx)) := hcx 4
              clear hcx hc0 hc1 hc2 hc3 hc4
              obtain ⟨o2, z2, es2, hrs2, hee2⟩ := rest_of HDZ.out
              have hokz := HB2.out.2.2.2.1
              have HCN := Lib.hid (fun o => g_nx (w := wc.alloc o) (S3.keep ((Kp.refl [] wc).alloc o)) hokz (HGG.out (wc.alloc o) (B3.alloc o)) hrs2)
              have HR2 := Lib.hid hrs2
              have HE2 := Lib.hid hee2
              have HS3 := Lib.hid S3
              have HP3 := Lib.hid P3
              have HB3 := Lib.hid B3
              have hxa : wc.heap.size ∉ a.all := fun hm => by have := S3.lts _ hm; omega
              clear hrs2 hee2 S3 P3 B3 X3 HDD
              go_wp2_with (go_at_call 6; go_must (refine (HCN.out _).mono ?_); rintro en w5 hg5; obtain ⟨rfl, hg5, hk5⟩ := hg5; have HG5 := Lib.hid hg5; have HK5 := Lib.hid hk5; obtain ⟨hX5, hy0, hy1, hy2, hy3, hy4, hyf⟩ := nx_cells hk5 hxa; clear hg5 hk5)
              go_roundg (o2.toList ++ es2).length
              case measure => have h9 := hlen; rw [HE2.out] at h9; simp at h9 ⊢; omega
              case rel =>
                obtain ⟨hx6, hk6⟩ := nx_done hX5 rfl
                have hal := fun o => (Kp.refl [] wc).alloc o
                have htn6 : ∀ (wz : World), wz.heap[wc.heap.size]? = some (.cells #[.int .i64 (e.kd : Nat), .int .u8 e.by_, .int .i64 (e.nd : Nat), .int .i64 0, .string (strOfNums e.tx)] 24 (0, 0)) → Tn wz [wc.heap.size] := fun wz h k hk => by rw [List.mem_singleton.1 hk]; exact ⟨_, _, _, h, by decide⟩
                have kk := ((((hal (.cells #[.int .i64 (e.kd : Nat), .int .u8 e.by_, .int .i64 (e.nd : Nat), .int .i64 0, .string (strOfNums e.tx)] 24)).mono (T := a.all) (by simp)).trans HK5.out).mono (T := wc.heap.size :: a.all) (fun k hk => .inl (List.mem_cons_of_mem _ hk))).trans (hk6.mono (fun k hk => .inl (by rw [List.mem_singleton.1 hk]; exact List.mem_cons_self ..))) |>.mono (T := a.all) (fun k hk => by
                  rcases List.mem_cons.1 hk with h8 | h8
                  · exact .inr (by omega)
                  · exact .inl h8)
                refine ⟨td ++ [e], o2, es2, z2, A3, m3, c3, vs3, wc.heap.size, g3, rfl, rfl, rfl, rfl, rfl, ⟨HG5.out.kept hk6 (htn6 _ hX5) (fun k hk h2 => hxa (by rw [← List.mem_singleton.1 h2]; exact hk)), ?_, hx6, ?_, HB3.out.size, hxa⟩, Lib.hid ⟨?_, ?_, ?_, HR2.out.ok hokz, ?_, hg3.out.2⟩⟩
                · rw [List.foldl_append, HPP.out]
                  exact HP3.out.kept kk (fun k hk => .inl (List.mem_append_right _ hk))
                · exact ((HB3.out.mono (T := a.all) (by simp)).trans kk).mono (fun k hk => .inr (HGE.out k hk))
                · rw [Q1.out, HE2.out]; simp
                · intro he; subst he; exact HR2.out.last
                · intro e' he; subst he; exact HR2.out.dr
                · rw [byn_append, ← hg3.out.1, ← Q5.out]; omega
      · have CP := Lib.hid (g_put_no HW.out.gm (.inr (.inr hw0)) x)
        have HST := Lib.hid (at_stop (by rw [HL.out]; omega) hw0)
        go_wp2_with (first
          | (go_at_call 7; go_must (refine CP.out.mono ?_); rintro en w5 ⟨rfl, rfl⟩)
          | (go_at_call 4; go_must (refine CE.out.mono ?_); rintro en w5 hg5; obtain ⟨rfl, hg5⟩ := hg5; have HG5 := Lib.hid hg5; clear hg5)
          | (go_at_call 8; go_must (refine (CRq.out _ HG5.out.1).mono ?_); rintro en w6 ⟨rfl, rfl⟩))
        go_ret2
        exact HW.out.done HGE.out HG5.out.2 HST.out.1 HST.out.2 (by rw [hgv.out.1]; exact hgle)
end Go.Proofs.YtjjcemdoefigkaaDoor.Hf
