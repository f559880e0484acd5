/- The walker's methods: settle, Put, Next, Reason, End. -/
import Derived.Test.YtjjcemdoefigkaaDoorGk
import Derived.Test.YtjjcemdoefigkaaDoorGb
namespace Go.Proofs.YtjjcemdoefigkaaDoor.Hf
set_option linter.unusedVariables false
set_option linter.unusedSimpArgs false
open Go.RowKit Go.Proofs.YtjjcemdoefigkaaDoor.W

section
variable {w w' : World} {a : Ad} {st st' : Value} {z z' : Z}
/-- The tables that a walker needs, none of its blocks among them. -/
structure Gg (w : World) (a : Ad) : Prop where
  gt : Gt w a.all
  q : Gq w
theorem Gg.kept (h : Gg w a) (hk : Kp a.all w w') : Gg w' a :=
  ⟨h.gt.kept hk (fun k hk => hk), fun i v hv => (World.cell?_of_block (a := ⟨0, i, none⟩) (hk.block 0 (Nat.lt_of_lt_of_le (show 0 < gtop by decide) h.gt.sz) (h.gt.out _ (show 0 < gtop by decide)))).trans (h.q i v hv)⟩
theorem Gg.inf (h : Gg w a) : Gt w a.inf := ⟨h.gt.t0, h.gt.t1, h.gt.t2, h.gt.t3, h.gt.t4, h.gt.sz, fun b hb hm => h.gt.out b hb (inf_all b hm)⟩
theorem Gg.qb (h : Gg w a) : 0 ≠ a.b := fun e => h.gt.out _ (by decide : 0 < gtop) (e ▸ (by simp [Ad.all]))
theorem settle_no (h : z.data = false ∨ z.has = true) : z.settle = z := by unfold Z.settle; rw [if_pos h]
theorem settle_give {o : Int} (h1 : z.data = true) (h2 : z.has = false) (h : (F z.l).out[z.ol.length]? = some o) : z.settle = Z.tell { z with ol := z.ol ++ [o] } (evByte o) := by
  unfold Z.settle
  rw [if_neg (by rw [h1, h2]; simp), h]
theorem settle_over (h1 : z.data = true) (h2 : z.has = false) (h : z.ol = (F z.l).out) : z.settle = z.over := by
  unfold Z.settle
  rw [if_neg (by rw [h1, h2]; simp), h, List.getElem?_eq_none (Nat.le_refl _)]
set_option maxHeartbeats 2000000 in
set_option maxRecDepth 100000 in
theorem g_settle (h : GM w a z) (hok : Zok z) (hG : Gg w a) : Calls Tryd.prog 11 #[.pointer (some ⟨a.b, 0, none⟩)] w (GA w a z.settle) := by
  have c1 := h.cs (i := 1) rfl
  have c7 := h.cs (i := 7) rfl
  have c9 := h.cs (i := 9) rfl
  have c10 := h.cs (i := 10) rfl
  have c16 := h.cs (i := 16) rfl
  have c17 := h.cs (i := 17) rfl
  have hlt := h.lt
  have fz := h.fz
  cases hd : z.data with
  | false =>
    rw [settle_no (.inl hd)]
    rw [hd] at c10
    have H := Lib.hid h
    clear h hok hG
    go_enter Tryd.func11, Tryd.ntmps11
    go_wp2_with (fail)
    refine bodyPost_ret (results_none rfl _ _ _) rfl ?_
    exact ⟨rfl, H.out, Kp.refl _ _⟩
  | true =>
    rw [hd] at c10
    cases hh : z.has with
    | true =>
      rw [settle_no (.inr hh)]
      rw [hh] at c7
      have H := Lib.hid h
      clear h hok hG
      go_enter Tryd.func11, Tryd.ntmps11
      go_wp2_with (fail)
      refine bodyPost_ret (results_none rfl _ _ _) rfl ?_
      exact ⟨rfl, H.out, Kp.refl _ _⟩
    | false =>
      rw [hh] at c7
      obtain ⟨t, mp, rdy, o, hs⟩ := h.inf hd
      have hkn := pn_known hs.pn
      have H := Lib.hid h
      have HS := Lib.hid hs
      have HSEP := Lib.hid (Ad.sep h.ne)
      have hb2 : a.b ∉ [a.d, a.r, a.p, a.q, a.g] := fun hm => (HSEP.out.2 a.b hm).1 rfl
      have hn2 : a.nb ∉ [a.d, a.r, a.p, a.q, a.g] := fun hm => (HSEP.out.2 a.nb hm).2 rfl
      cases hr : rdy with
      | true =>
        subst hr
        have hoo := hkn.1 rfl
        have hob : Bt o := (F_ok z.l).bytes o (List.mem_of_getElem? hoo)
        rw [settle_give hd hh hoo]
        have cN := c_next_any hs hG.inf
        unfold NextP at cN
        have CN := Lib.hid cN
        obtain ⟨V, hV⟩ : ∃ V, z.ol.length % 4294967296 = V := ⟨_, rfl⟩
        have hVl : V < 4294967296 := by rw [← hV]; exact Nat.mod_lt _ (by omega)
        have hV1 : (z.ol ++ [o]).length % 4294967296 = (V + 1) % 4294967296 := by rw [List.length_append, ← hV]; simp
        have eW : IntKind.u32.wrap ((V : Int) + 1) = (((V + 1) % 4294967296 : Nat) : Int) := by rw [IntKind.wrap_u32']; omega
        have HG := Lib.hid hG
        have hcl := crcL_lt hok.zn.olb
        have CC := Lib.hid (fun (wx : World) (hk : Kp [a.d, a.r, a.p, a.q, a.g] w wx) => c_crc (crcL z.ol) o wx hcl hob (hG.kept (kpa hk inf_all)).q)
        rw [← crcL_snoc] at CC
        rw [hV] at c17
        have HV1 := Lib.hid hV1
        have HHAS := Lib.hid hh
        have HD := Lib.hid hd
        clear h hs hkn hok hG cN hoo hV hV1 hh hd hcl
        obtain ⟨V1, hV1⟩ : ∃ V1, (V + 1) % 4294967296 = V1 := ⟨_, rfl⟩
        rw [hV1] at eW HV1
        clear hV1
        have eW2 : ((V : Int) + 1) % 4294967296 = (V1 : Int) := by rw [← eW, IntKind.wrap_u32']
        go_enter Tryd.func11, Tryd.ntmps11
        go_upto_region 3 with (first
          | (go_at_call 14; go_must (refine CN.out.mono ?_); rintro e w2 ⟨rfl, t2, mp2, rdy2, o2, hs2, hk2, -⟩; have HS2 := Lib.hid hs2; have HK2 := Lib.hid hk2; clear hs2 hk2))
        have hcb := (HK2.out.block a.b H.out.lt hb2).trans H.out.cells
        have HCB := Lib.hid hcb
        have d16 := (cell_of_row w2 a.b 16 _ _ _ hcb)
        have d17 := (cell_of_row w2 a.b 17 _ _ _ hcb)
        rw [List.getElem?_toArray] at d16 d17
        replace d16 : w2.cell? ⟨a.b, 16, none⟩ = some (.int .u32 (crcL z.ol : Nat)) := d16
        replace d17 : w2.cell? ⟨a.b, 17, none⟩ = some (.int .u32 (z.ol.length % 4294967296 : Nat)) := d17
        have d17b : w2.cell? ⟨a.b, 17, none⟩ = some (.int .u32 (V : Nat)) := by
          rw [World.cell?_of_block (a := ⟨a.b, 17, none⟩) (HK2.out.block a.b H.out.lt hb2)]; exact c17
        clear d17
        have fz2 := fun i => frozen_of_row w2 a.b i _ _ hcb
        have hlt2 : a.b < w2.heap.size := Nat.lt_of_lt_of_le hlt HK2.out.size
        have hk3 : Kp [a.b] w2 ((w2.setCell ⟨a.b, 16, none⟩ (.int .u32 (crcL (z.ol ++ [o]) : Nat))).setCell ⟨a.b, 17, none⟩ (.int .u32 (V1 : Nat))) := (kpb (by simp) _ _).trans (kpb (by simp) _ _)
        have hi3 : ∀ k ∈ [a.d, a.r, a.p, a.q, a.g], k ∉ [a.b] := fun k hm h2 => (HSEP.out.2 k hm).1 (List.mem_singleton.1 h2)
        have htn : Tn w2 [a.b] := fun k hk => by rw [List.mem_singleton.1 hk]; exact ⟨_, _, _, hcb, by decide⟩
        have hs3 := HS2.out.keep2 hk3 htn hi3
        obtain ⟨b3, hi9, _⟩ := hs3.inf
        have hg3 : GMv ((w2.setCell ⟨a.b, 16, none⟩ (.int .u32 (crcL (z.ol ++ [o]) : Nat))).setCell ⟨a.b, 17, none⟩ (.int .u32 (V1 : Nat))) a (gpV a z.ph) { z with ol := z.ol ++ [o] } :=
          ⟨by
            have h9 := setZ (setZ hcb 16 (.int .u32 (crcL (z.ol ++ [o]) : Nat))) 17 (.int .u32 (V1 : Nat))
            rw [← HV1.out] at h9 ⊢
            exact h9, own_kp (own_kp H.out.name HK2.out hn2) hk3 (fun h2 => HSEP.out.1 (List.mem_singleton.1 h2).symm), fun _ => ⟨t2, mp2, rdy2, o2, hs3⟩, ⟨_, _, _, _, _, hi9, hs3.ok⟩, H.out.ne⟩
        have CT := Lib.hid (g_tell (evByte o) hg3)
        have hev : evV (evByte o) = .agg #[.int .i64 2, .int .u8 o, .int .i64 0, .int .i64 0, .string ⟨#[]⟩] := rfl
        rw [hev] at CT
        have HK3 := Lib.hid hk3
        clear hk3 hi3 htn hs3 hg3 hcb hi9
        go_wp2_with (first
          | (go_at_call 15; go_must (refine (CC.out w2 HK2.out).mono ?_); rintro en wc ⟨rfl, rfl⟩)
          | (go_at_call 16; go_must (refine CT.out.mono ?_); rintro en w5 hg5; obtain ⟨rfl, hg5, hk5⟩ := hg5; have HG5 := Lib.hid hg5; have HK5 := Lib.hid hk5; clear hg5 hk5))
        refine bodyPost_ret (results_none rfl _ _ _) rfl ?_
        exact ⟨rfl, HG5.out, (kpa HK2.out inf_all).trans (kpa (HK3.out.trans HK5.out) ab_all)⟩
      | false =>
        subst hr
        obtain ⟨rfl, hol⟩ := hkn.2 rfl
        rw [settle_over hd hh hol]
        have CN := Lib.hid (c_next_none hs)
        have cR := c_reason_any hs
        have CR := Lib.hid (show Calls Tryd.prog 17 #[.pointer (some ⟨a.d, 0, none⟩)] w (fun e w' => e = .returned (.int .i64 ((F z.l).m.why : Nat)) ∧ w = w') from cR)
        have hk1 : Kp [a.b] w (w.setCell ⟨a.b, 9, none⟩ (.int .i64 ((F z.l).m.why : Nat))) := kpb (by simp) _ _
        have hi3 : ∀ k ∈ [a.d, a.r, a.p, a.q, a.g], k ∉ [a.b] := fun k hm h2 => (HSEP.out.2 k hm).1 (List.mem_singleton.1 h2)
        have cD := c_done_any (hs.keep2 hk1 h.tn hi3)
        have CD := Lib.hid (show Calls Tryd.prog 18 #[.pointer (some ⟨a.d, 0, none⟩)] (w.setCell ⟨a.b, 9, none⟩ (.int .i64 ((F z.l).m.why : Nat))) (fun e w' => e = .returned (.bool (F z.l).m.fin) ∧ w.setCell ⟨a.b, 9, none⟩ (.int .i64 ((F z.l).m.why : Nat)) = w') from by rw [Bool.not_false, Bool.and_true] at cD; exact cD)
        have HK1 := Lib.hid hk1
        cases hf : (F z.l).m.fin with
        | true =>
          rw [hf] at CD
          have e : z.over = Z.want { z with why := (F z.l).m.why, data := false } .sums := by unfold Z.over; rw [if_pos hf]
          rw [e]
          have hk2 : Kp [a.b] w ((w.setCell ⟨a.b, 9, none⟩ (.int .i64 ((F z.l).m.why : Nat))).setCell ⟨a.b, 10, none⟩ (.bool false)) := hk1.trans (kpb (by simp) _ _)
          have hg2 : GMv ((w.setCell ⟨a.b, 9, none⟩ (.int .i64 ((F z.l).m.why : Nat))).setCell ⟨a.b, 10, none⟩ (.bool false)) a (gpV a z.ph) { z with why := (F z.l).m.why, data := false } := h.upd (setZ (setZ h.cells 9 (.int .i64 ((F z.l).m.why : Nat))) 10 (.bool false)) hk2 (.inl rfl) (fun h => by cases h)
          have CO := Lib.hid (g_want .sums hg2 rfl)
          rw [show gpF .sums = 20 from rfl] at CO
          have HK2 := Lib.hid hk2
          generalize (F z.l).m.why = Y at *
          clear h hs hkn hok hG cR cD hk1 hk2 hg2 e
          go_enter Tryd.func11, Tryd.ntmps11
          go_wp2_with (first
            | (go_at_call 14; go_must (refine CN.out.mono ?_); rintro e w2 ⟨rfl, rfl⟩)
            | (go_at_call 17; go_must (refine CR.out.mono ?_); rintro e w2 ⟨rfl, rfl⟩)
            | (go_at_call 18; go_must (refine CD.out.mono ?_); rintro e w2 ⟨rfl, rfl⟩)
            | (go_at_call 19; go_must (refine CO.out.mono ?_); rintro en w5 hg5; obtain ⟨rfl, hg5⟩ := hg5; have HG5 := Lib.hid hg5; clear hg5))
          refine bodyPost_end (results_none rfl _ _ _) rfl ?_
          exact ⟨rfl, HG5.out.1, kpa (HK2.out.trans HG5.out.2) ab_all⟩
        | false =>
          rw [hf] at CD
          have e : z.over = { z with why := (F z.l).m.why } := by unfold Z.over; rw [if_neg (by rw [hf]; simp)]
          rw [e]
          have HU := Lib.hid (show GM (w.setCell ⟨a.b, 9, none⟩ (.int .i64 ((F z.l).m.why : Nat))) a { z with why := (F z.l).m.why } from h.upd (setZ h.cells 9 (.int .i64 ((F z.l).m.why : Nat))) hk1 (.inl rfl) (fun h => ⟨h, rfl, rfl⟩))
          generalize (F z.l).m.why = Y at *
          clear h hs hkn hok hG cR cD hk1 e
          go_enter Tryd.func11, Tryd.ntmps11
          go_wp2_with (first
            | (go_at_call 14; go_must (refine CN.out.mono ?_); rintro e w2 ⟨rfl, rfl⟩)
            | (go_at_call 17; go_must (refine CR.out.mono ?_); rintro e w2 ⟨rfl, rfl⟩)
            | (go_at_call 18; go_must (refine CD.out.mono ?_); rintro e w2 ⟨rfl, rfl⟩))
          refine bodyPost_end (results_none rfl _ _ _) rfl ?_
          exact ⟨rfl, HU.out, kpa HK1.out ab_all⟩
theorem gp_enter (x : Gp) (args : Array Value) (w : World) : Sem.run Tryd.prog (callFunc (gpF x) args) w = .ok (.enter (gpF x) args) w := by
  cases x with
  | first => exact run_enter Tryd.func13 (by kernel_rfl) rfl args w
  | nought => exact run_enter Tryd.func23 (by kernel_rfl) rfl args w
  | fixed => exact run_enter Tryd.func22 (by kernel_rfl) rfl args w
  | exLen => exact run_enter Tryd.func33 (by kernel_rfl) rfl args w
  | exBytes => exact run_enter Tryd.func39 (by kernel_rfl) rfl args w
  | nameB => exact run_enter Tryd.func38 (by kernel_rfl) rfl args w
  | comB => exact run_enter Tryd.func49 (by kernel_rfl) rfl args w
  | hSum => exact run_enter Tryd.func60 (by kernel_rfl) rfl args w
  | defl => exact run_enter Tryd.func68 (by kernel_rfl) rfl args w
  | sums => exact run_enter Tryd.func20 (by kernel_rfl) rfl args w
  | sizes => exact run_enter Tryd.func26 (by kernel_rfl) rfl args w
/-- A step, whichever it is. -/
theorem g_step (h : GM w a z) (hr : Rz z) (h0 : z.why = 0) (hG : Gg w a) (x : Int) (hx : Bt x) : Calls Tryd.prog (gpF z.ph) #[.pointer (some ⟨a.b, 0, none⟩), .int .u8 x] w (GA w a (z.step x)) := by
  have hp := hr.ok.ph h0
  have hzn := hr.ok.zn
  have hdf : z.ph ≠ .defl → z.data = false := fun hn => by
    cases hd : z.data with
    | false => rfl
    | true => exact absurd (hr.ok.dt.2 hd) hn
  unfold PhZ at hp
  unfold Z.step
  cases hph : z.ph with
  | first => exact g_first h hph x hx hG.q hG.qb
  | nought => exact g_nought h x
  | fixed => rw [hph] at hp; exact g_fixed h hzn h0 (hdf (by rw [hph]; intro h; cases h)) hp x hx hG.q
  | exLen => rw [hph] at hp; exact g_exLen h hzn (hdf (by rw [hph]; intro h; cases h)) hp x hx hG.q
  | exBytes => rw [hph] at hp; exact g_exBytes h hzn (hdf (by rw [hph]; intro h; cases h)) hp x hx hG.q
  | nameB => exact g_nameB h hzn (hdf (by rw [hph]; intro h; cases h)) x hx hG.q
  | comB => rw [hph] at hp; exact g_comB h hzn (hdf (by rw [hph]; intro h; cases h)) hp x hx hG.q
  | hSum => rw [hph] at hp; exact g_hSum h hzn (hdf (by rw [hph]; intro h; cases h)) hp x hx
  | defl =>
    have hd := hr.ok.dt.1 hph
    obtain ⟨h1, h2, h3⟩ := hr.zr hd hr.has
    exact g_defl h hd h1 ⟨h2.symm.trans h0, h3⟩ x hx hG.inf
  | sums => rw [hph] at hp; exact g_sums h hzn (hdf (by rw [hph]; intro h; cases h)) hp x hx
  | sizes => rw [hph] at hp; exact g_sizes h hzn (hdf (by rw [hph]; intro h; cases h)) hp x hx
/-- A byte is taken. -/
def GB (w : World) (a : Ad) (z : Z) (y : Bool) (e : Ending) (w' : World) : Prop := e = .returned (.bool y) ∧ GM w' a z ∧ Kp a.all w w'
set_option maxHeartbeats 2000000 in
set_option maxRecDepth 100000 in
theorem g_put (h : GM w a z) (hr : Rz z) (h0 : z.why = 0) (hG : Gg w a) (x : Int) (hx : Bt x) : Calls Tryd.prog 7 #[.pointer (some ⟨a.b, 0, none⟩), .int .u8 x] w (GB w a (z.put x) true) := by
  have c0 := h.cs (i := 0) rfl
  have c7 := h.cs (i := 7) rfl
  have c8 := h.cs (i := 8) rfl
  have c9 := h.cs (i := 9) rfl
  rw [hr.has] at c7
  rw [hr.ended] at c8
  rw [h0] at c9
  have hlt := h.lt
  have CS := Lib.hid (g_step h hr h0 hG x hx)
  have hen := gp_enter z.ph #[.pointer (some ⟨a.b, 0, none⟩), .int .u8 x] w
  have HOK := Lib.hid (hr.ok.step h0 hx)
  have HG := Lib.hid hG
  unfold gpV at c0
  generalize gpF z.ph = fn at *
  clear h hr h0 hG
  go_enter Tryd.func7, Tryd.ntmps7
  go_wp2_with (first
    | (go_at_call 11; go_must (refine (g_settle HG2.out.1 HOK.out (HG.out.kept HG2.out.2)).mono ?_); rintro en w5 hg5; obtain ⟨rfl, hg5⟩ := hg5; have HG5 := Lib.hid hg5; clear hg5)
    | (refine CS.out.mono ?_; rintro en w2 hg2; obtain ⟨rfl, hg2⟩ := hg2; have HG2 := Lib.hid hg2; clear hg2))
  go_ret
  exact ⟨rfl, HG5.out.1, HG2.out.2.trans HG5.out.2⟩
set_option maxHeartbeats 2000000 in
set_option maxRecDepth 100000 in
theorem g_put_no (h : GM w a z) (hn : z.has = true ∨ z.ended = true ∨ z.why ≠ 0) (x : Int) : Calls Tryd.prog 7 #[.pointer (some ⟨a.b, 0, none⟩), .int .u8 x] w fun e w' => e = .returned (.bool false) ∧ w = w' := by
  have c7 := h.cs (i := 7) rfl
  have c8 := h.cs (i := 8) rfl
  have c9 := h.cs (i := 9) rfl
  have hlt := h.lt
  cases hh : z.has with
  | true =>
    rw [hh] at c7
    clear h hn hh
    go_enter Tryd.func7, Tryd.ntmps7
    go_wp2_with (fail)
    go_ret
    exact ⟨rfl, rfl⟩
  | false =>
    rw [hh] at c7
    cases he : z.ended with
    | true =>
      rw [he] at c8
      clear h hn hh he
      go_enter Tryd.func7, Tryd.ntmps7
      go_wp2_with (fail)
      go_ret
      exact ⟨rfl, rfl⟩
    | false =>
      rw [he] at c8
      have hw : z.why ≠ 0 := by
        rcases hn with h1 | h1 | h1
        · rw [hh] at h1; cases h1
        · rw [he] at h1; cases h1
        · exact h1
      have i1 : ((z.why : Int) != 0) = true := W.neT (by omega)
      have i2 : ((z.why : Int) == 0) = false := W.eqF (by omega)
      generalize z.why = y at *
      clear h hn hh he
      go_enter Tryd.func7, Tryd.ntmps7
      go_wp2_with (fail)
      go_ret
      exact ⟨rfl, rfl⟩
set_option maxHeartbeats 2000000 in
set_option maxRecDepth 100000 in
theorem g_reason (h : GM w a z) : Calls Tryd.prog 8 #[.pointer (some ⟨a.b, 0, none⟩)] w fun e w' => e = .returned (.int .i64 ((if z.has then 0 else z.why : Nat) : Int)) ∧ w = w' := by
  have c7 := h.cs (i := 7) rfl
  have c9 := h.cs (i := 9) rfl
  have hlt := h.lt
  cases hh : z.has <;> (rw [hh] at c7; generalize z.why = y at *; clear h hh; go_enter Tryd.func8, Tryd.ntmps8; go_wp2_with (fail); go_ret; exact ⟨rfl, rfl⟩)
set_option maxHeartbeats 2000000 in
set_option maxRecDepth 100000 in
theorem g_end (h : GM w a z) : Calls Tryd.prog 4 #[.pointer (some ⟨a.b, 0, none⟩)] w (GA w a z.end_) := by
  have c7 := h.cs (i := 7) rfl
  have c8 := h.cs (i := 8) rfl
  have c9 := h.cs (i := 9) rfl
  have c11 := h.cs (i := 11) rfl
  have hlt := h.lt
  have fz := h.fz
  have H := Lib.hid h
  by_cases hn : z.has = true ∨ z.ended = true ∨ z.why ≠ 0
  · have e : z.end_ = z := by unfold Z.end_; rw [if_pos hn]
    rw [e]
    cases hh : z.has with
    | true =>
      rw [hh] at c7
      clear h hn hh e
      go_enter Tryd.func4, Tryd.ntmps4
      go_wp2_with (fail)
      refine bodyPost_ret (results_none rfl _ _ _) rfl ?_
      exact ⟨rfl, H.out, Kp.refl _ _⟩
    | false =>
      rw [hh] at c7
      cases he : z.ended with
      | true =>
        rw [he] at c8
        clear h hn hh he e
        go_enter Tryd.func4, Tryd.ntmps4
        go_wp2_with (fail)
        refine bodyPost_ret (results_none rfl _ _ _) rfl ?_
        exact ⟨rfl, H.out, Kp.refl _ _⟩
      | false =>
        rw [he] at c8
        have hw : z.why ≠ 0 := by
          rcases hn with h1 | h1 | h1
          · rw [hh] at h1; cases h1
          · rw [he] at h1; cases h1
          · exact h1
        have i1 : ((z.why : Int) != 0) = true := W.neT (by omega)
        have i2 : ((z.why : Int) == 0) = false := W.eqF (by omega)
        generalize z.why = y at *
        clear h hn hh he e
        go_enter Tryd.func4, Tryd.ntmps4
        go_wp2_with (fail)
        refine bodyPost_ret (results_none rfl _ _ _) rfl ?_
        exact ⟨rfl, H.out, Kp.refl _ _⟩
  · have hh : z.has = false := by cases hh : z.has with
      | false => rfl
      | true => exact absurd (.inl hh) hn
    have he : z.ended = false := by cases hh : z.ended with
      | false => rfl
      | true => exact absurd (.inr (.inl hh)) hn
    have hw : z.why = 0 := Decidable.by_contra fun hh => hn (.inr (.inr hh))
    rw [hh] at c7
    rw [he] at c8
    rw [hw] at c9
    have hk1 := kpb (a := a) (w := w) (by simp) 8 (.bool true)
    cases hb : z.between with
    | true =>
      rw [hb] at c11
      have e : z.end_ = { z with ended := true } := by unfold Z.end_; rw [if_neg hn, if_pos hb]
      rw [e]
      have HU := Lib.hid (show GM (w.setCell ⟨a.b, 8, none⟩ (.bool true)) a { z with ended := true } from h.upd (setZ h.cells 8 (.bool true)) hk1 (.inl rfl) (fun h => ⟨h, rfl, rfl⟩))
      have HK := Lib.hid hk1
      clear h hn hh he hw hk1 hb e
      go_enter Tryd.func4, Tryd.ntmps4
      go_wp2_with (fail)
      refine bodyPost_end (results_none rfl _ _ _) rfl ?_
      exact ⟨rfl, HU.out, kpa HK.out ab_all⟩
    | false =>
      rw [hb] at c11
      have e : z.end_ = { z with ended := true, why := 1 } := by unfold Z.end_; rw [if_neg hn, if_neg (by rw [hb]; simp)]
      rw [e]
      have hk2 : Kp [a.b] w ((w.setCell ⟨a.b, 8, none⟩ (.bool true)).setCell ⟨a.b, 9, none⟩ (.int .i64 1)) := hk1.trans (kpb (by simp) _ _)
      have HU := Lib.hid (show GM ((w.setCell ⟨a.b, 8, none⟩ (.bool true)).setCell ⟨a.b, 9, none⟩ (.int .i64 1)) a { z with ended := true, why := 1 } from h.upd (setZ (setZ h.cells 8 (.bool true)) 9 (.int .i64 1)) hk2 (.inl rfl) (fun h => ⟨h, rfl, rfl⟩))
      have HK := Lib.hid hk2
      clear h hn hh he hw hk1 hk2 hb e
      go_enter Tryd.func4, Tryd.ntmps4
      go_wp2_with (fail)
      refine bodyPost_end (results_none rfl _ _ _) rfl ?_
      exact ⟨rfl, HU.out, kpa HK.out ab_all⟩
end
end Go.Proofs.YtjjcemdoefigkaaDoor.Hf
