/- The walker's steps: the header's sum, what is deflated, the sums. -/
import Derived.Test.YtjjcemdoefigkaaDoorGj
namespace Go.Proofs.YtjjcemdoefigkaaDoor.Hf
set_option linter.unusedVariables false
set_option linter.unusedSimpArgs false
open Go.RowKit Go.Proofs.YtjjcemdoefigkaaDoor.W

section
variable {w w' : World} {a : Ad} {st st' : Value} {z z' : Z}
set_option maxHeartbeats 2000000 in
set_option maxRecDepth 100000 in
theorem g_hSum (h : GM w a z) (hzn : Zn z) (hd : z.data = false) (hn : z.n ≤ 1 ∧ z.val < 256 ^ z.n) (x : Int) (hx : Bt x) : Calls Tryd.prog 60 #[.pointer (some ⟨a.b, 0, none⟩), .int .u8 x] w (GA w a (z.hSum x)) := by
  by_cases h2 : z.n + 1 = 2
  · have cN := g_number h x 2 hx hd (show z.n ≤ 3 by omega) hn.2 (by omega)
    rw [decide_eq_true h2] at cN
    have CN := Lib.hid cN
    have e : z.hSum x = Z.hSum2 (z.num x) := by unfold Z.hSum; rw [if_pos h2]
    rw [e]
    have hyn := (hzn.num (x := x) hx (show z.n ≤ 3 by omega) hn.2).1
    have hyd : (z.num x).data = false := hd
    have hyp : (z.num x).ph = z.ph := rfl
    have hlt := h.lt
    generalize hy : z.num x = y at *
    clear h cN e hy
    go_enter Tryd.func60, Tryd.ntmps60
    go_upto_region 1 with (first
      | (go_at_call 25; go_must (refine CN.out.mono ?_); rintro en w2 hg2; obtain ⟨rfl, hg2, hk2⟩ := hg2; have HG2 := Lib.hid hg2; have HK2 := Lib.hid hk2; clear hg2 hk2))
    have d18 := HG2.out.cs (i := 18) rfl
    have dC := HG2.out.cs (i := 15) rfl
    have hlt2 := HG2.out.lt
    have ea : bits .and .u32 (y.head : Int) 65535 = ((y.head % 65536 : Nat) : Int) := by
      rw [show ((y.head % 65536 : Nat) : Int) = ((y.head &&& 65535 : Nat) : Int) by rw [show y.head &&& 65535 = y.head % 65536 from Nat.and_two_pow_sub_one_eq_mod y.head 16]]
      exact u32_and_nat y.head 65535 hyn.head (by omega)
    by_cases hc : y.val = y.head % 65536
    · have HE := Lib.hid (show Z.hSum2 y = y.open_ from by unfold Z.hSum2; rw [if_pos hc])
      have i1 : ((y.val : Int) != ((y.head % 65536 : Nat) : Int)) = false := W.neF (by omega)
      have CO := Lib.hid (fun n => g_open (HG2.out.keep ((Kp.refl [] w2).drewN n)) hyd)
      generalize y.head % 65536 = V at *
      clear hc
      go_quiet (fail)
      go_wp2_with (first
        | (go_at_call 59; go_must (refine (CO.out _).mono ?_); rintro en w5 hg5; obtain ⟨rfl, hg5⟩ := hg5; have HG5 := Lib.hid hg5; clear hg5))
      refine bodyPost_end (results_none rfl _ _ _) rfl ?_
      rw [HE.out]
      exact ⟨rfl, HG5.out.1, (kpa (HK2.out.trans ((Kp.refl _ _).drewN _)) ab_all).trans HG5.out.2⟩
    · have HE := Lib.hid (show Z.hSum2 y = y.stop 43 from by unfold Z.hSum2; rw [if_neg hc])
      have i1 : ((y.val : Int) != ((y.head % 65536 : Nat) : Int)) = true := W.neT (by omega)
      generalize y.head % 65536 = V at *
      clear hc
      have hU := fun n => stop_upd (HG2.out.keep ((Kp.refl [] w2).drewN n)) 43
      have HU := Lib.hid hU
      have fzd : ∀ n i, (w2.drewN n).frozen? ⟨a.b, i, none⟩ = false := fun n => (HG2.out.keep ((Kp.refl [] w2).drewN n)).fz
      have d9 : ∀ n, (w2.drewN n).cell? ⟨a.b, 9, none⟩ = some (.int .i64 (y.why : Nat)) := fun n => (HG2.out.keep ((Kp.refl [] w2).drewN n)).cs (i := 9) rfl
      clear hU
      go_quiet (fail)
      have e9 := d9 nq
      have ef := fzd nq
      go_wp2_with (fail)
      refine bodyPost_end (results_none rfl _ _ _) rfl ?_
      rw [HE.out]
      exact ⟨rfl, by unfold GM; rw [show (y.stop 43).ph = z.ph from hyp]; exact (HU.out _).1, kpa ((HK2.out.trans ((Kp.refl _ _).drewN _)).trans (HU.out _).2) ab_all⟩
  · have cN := g_number h x 2 hx hd (show z.n ≤ 3 by omega) hn.2 (by omega)
    rw [decide_eq_false h2] at cN
    have CN := Lib.hid cN
    have e : z.hSum x = z.num x := by unfold Z.hSum; rw [if_neg h2]
    rw [e]
    clear h cN e
    go_enter Tryd.func60, Tryd.ntmps60
    go_wp2_with (first
      | (go_at_call 25; go_must (refine CN.out.mono ?_); rintro en w2 hg2; obtain ⟨rfl, hg2, hk2⟩ := hg2; have HG2 := Lib.hid hg2; have HK2 := Lib.hid hk2; clear hg2 hk2))
    refine bodyPost_end (results_none rfl _ _ _) rfl ?_
    exact ⟨rfl, HG2.out, kpa HK2.out ab_all⟩
set_option maxHeartbeats 2000000 in
set_option maxRecDepth 100000 in
theorem g_sums (h : GM w a z) (hzn : Zn z) (hd : z.data = false) (hn : z.n ≤ 3 ∧ z.val < 256 ^ z.n) (x : Int) (hx : Bt x) : Calls Tryd.prog 20 #[.pointer (some ⟨a.b, 0, none⟩), .int .u8 x] w (GA w a (z.sums x)) := by
  by_cases h2 : z.n + 1 = 4
  · have cN := g_number h x 4 hx hd (show z.n ≤ 3 by omega) hn.2 (by omega)
    rw [decide_eq_true h2] at cN
    have CN := Lib.hid cN
    have e : z.sums x = Z.sums2 (z.num x) := by unfold Z.sums; rw [if_pos h2]
    rw [e]
    have hyn := (hzn.num (x := x) hx (show z.n ≤ 3 by omega) hn.2).1
    have hyd : (z.num x).data = false := hd
    have hyp : (z.num x).ph = z.ph := rfl
    have hlt := h.lt
    generalize hy : z.num x = y at *
    clear h cN e hy
    go_enter Tryd.func20, Tryd.ntmps20
    go_upto_region 1 with (first
      | (go_at_call 25; go_must (refine CN.out.mono ?_); rintro en w2 hg2; obtain ⟨rfl, hg2, hk2⟩ := hg2; have HG2 := Lib.hid hg2; have HK2 := Lib.hid hk2; clear hg2 hk2))
    have d18 := HG2.out.cs (i := 18) rfl
    have dC := HG2.out.cs (i := 16) rfl
    have hlt2 := HG2.out.lt
    by_cases hc : y.val = crcL y.ol
    · have HE := Lib.hid (show Z.sums2 y = y.want .sizes from by unfold Z.sums2; rw [if_pos hc])
      have i1 : ((y.val : Int) != ((crcL y.ol : Nat) : Int)) = false := W.neF (by omega)
      have CO := Lib.hid (fun n => g_want .sizes (HG2.out.keep ((Kp.refl [] w2).drewN n)) hyd)
      rw [show gpF .sizes = 26 from rfl] at CO
      generalize crcL y.ol = V at *
      clear hc
      go_quiet (fail)
      go_wp2_with (first
        | (go_at_call 19; go_must (refine (CO.out _).mono ?_); rintro en w5 hg5; obtain ⟨rfl, hg5⟩ := hg5; have HG5 := Lib.hid hg5; clear hg5))
      refine bodyPost_end (results_none rfl _ _ _) rfl ?_
      rw [HE.out]
      exact ⟨rfl, HG5.out.1, kpa ((HK2.out.trans ((Kp.refl _ _).drewN _)).trans HG5.out.2) ab_all⟩
    · have HE := Lib.hid (show Z.sums2 y = y.stop 44 from by unfold Z.sums2; rw [if_neg hc])
      have i1 : ((y.val : Int) != ((crcL y.ol : Nat) : Int)) = true := W.neT (by omega)
      generalize crcL y.ol = V at *
      clear hc
      have hU := fun n => stop_upd (HG2.out.keep ((Kp.refl [] w2).drewN n)) 44
      have HU := Lib.hid hU
      have fzd : ∀ n i, (w2.drewN n).frozen? ⟨a.b, i, none⟩ = false := fun n => (HG2.out.keep ((Kp.refl [] w2).drewN n)).fz
      have d9 : ∀ n, (w2.drewN n).cell? ⟨a.b, 9, none⟩ = some (.int .i64 (y.why : Nat)) := fun n => (HG2.out.keep ((Kp.refl [] w2).drewN n)).cs (i := 9) rfl
      clear hU
      go_quiet (fail)
      have e9 := d9 nq
      have ef := fzd nq
      go_wp2_with (fail)
      refine bodyPost_end (results_none rfl _ _ _) rfl ?_
      rw [HE.out]
      exact ⟨rfl, by unfold GM; rw [show (y.stop 44).ph = z.ph from hyp]; exact (HU.out _).1, kpa ((HK2.out.trans ((Kp.refl _ _).drewN _)).trans (HU.out _).2) ab_all⟩
  · have cN := g_number h x 4 hx hd (show z.n ≤ 3 by omega) hn.2 (by omega)
    rw [decide_eq_false h2] at cN
    have CN := Lib.hid cN
    have e : z.sums x = z.num x := by unfold Z.sums; rw [if_neg h2]
    rw [e]
    clear h cN e
    go_enter Tryd.func20, Tryd.ntmps20
    go_wp2_with (first
      | (go_at_call 25; go_must (refine CN.out.mono ?_); rintro en w2 hg2; obtain ⟨rfl, hg2, hk2⟩ := hg2; have HG2 := Lib.hid hg2; have HK2 := Lib.hid hk2; clear hg2 hk2))
    refine bodyPost_end (results_none rfl _ _ _) rfl ?_
    exact ⟨rfl, HG2.out, kpa HK2.out ab_all⟩
set_option maxHeartbeats 2000000 in
set_option maxRecDepth 100000 in
theorem g_sizes (h : GM w a z) (hzn : Zn z) (hd : z.data = false) (hn : z.n ≤ 3 ∧ z.val < 256 ^ z.n) (x : Int) (hx : Bt x) : Calls Tryd.prog 26 #[.pointer (some ⟨a.b, 0, none⟩), .int .u8 x] w (GA w a (z.sizes x)) := by
  by_cases h2 : z.n + 1 = 4
  · have cN := g_number h x 4 hx hd (show z.n ≤ 3 by omega) hn.2 (by omega)
    rw [decide_eq_true h2] at cN
    have CN := Lib.hid cN
    have e : z.sizes x = Z.sizes2 (z.num x) := by unfold Z.sizes; rw [if_pos h2]
    rw [e]
    have hyn := (hzn.num (x := x) hx (show z.n ≤ 3 by omega) hn.2).1
    have hyd : (z.num x).data = false := hd
    have hyp : (z.num x).ph = z.ph := rfl
    have hlt := h.lt
    generalize hy : z.num x = y at *
    clear h cN e hy
    go_enter Tryd.func26, Tryd.ntmps26
    go_upto_region 1 with (first
      | (go_at_call 25; go_must (refine CN.out.mono ?_); rintro en w2 hg2; obtain ⟨rfl, hg2, hk2⟩ := hg2; have HG2 := Lib.hid hg2; have HK2 := Lib.hid hk2; clear hg2 hk2))
    have d18 := HG2.out.cs (i := 18) rfl
    have dC := HG2.out.cs (i := 17) rfl
    have hlt2 := HG2.out.lt
    by_cases hc : y.val = y.ol.length % 4294967296
    · have HE := Lib.hid (show Z.sizes2 y = Z.begin (y.tell evClose) from by unfold Z.sizes2; rw [if_pos hc])
      have i1 : ((y.val : Int) != ((y.ol.length % 4294967296 : Nat) : Int)) = false := W.neF (by omega)
      have CO := Lib.hid (fun n => g_tell evClose (HG2.out.keep ((Kp.refl [] w2).drewN n)))
      have hev : evV evClose = .agg #[.int .i64 3, .int .u8 0, .int .i64 0, .int .i64 0, .string ⟨#[]⟩] := rfl
      rw [hev] at CO
      generalize y.ol.length % 4294967296 = V at *
      clear hc
      go_quiet (fail)
      go_wp2_with (first
        | (go_at_call 16; go_must (refine (CO.out _).mono ?_); rintro en w5 hg5; obtain ⟨rfl, hg5, hk5⟩ := hg5; have HG5 := Lib.hid hg5; have HK5 := Lib.hid hk5; clear hg5 hk5)
        | (go_at_call 10; go_must (refine (g_begin HG5.out).mono ?_); rintro en w6 hg6; obtain ⟨rfl, hg6, hk6⟩ := hg6; have HG6 := Lib.hid hg6; have HK6 := Lib.hid hk6; clear hg6 hk6))
      refine bodyPost_end (results_none rfl _ _ _) rfl ?_
      rw [HE.out]
      exact ⟨rfl, HG6.out, kpa (((HK2.out.trans ((Kp.refl _ _).drewN _)).trans HK5.out).trans HK6.out) ab_all⟩
    · have HE := Lib.hid (show Z.sizes2 y = y.stop 45 from by unfold Z.sizes2; rw [if_neg hc])
      have i1 : ((y.val : Int) != ((y.ol.length % 4294967296 : Nat) : Int)) = true := W.neT (by omega)
      generalize y.ol.length % 4294967296 = V at *
      clear hc
      have hU := fun n => stop_upd (HG2.out.keep ((Kp.refl [] w2).drewN n)) 45
      have HU := Lib.hid hU
      have fzd : ∀ n i, (w2.drewN n).frozen? ⟨a.b, i, none⟩ = false := fun n => (HG2.out.keep ((Kp.refl [] w2).drewN n)).fz
      have d9 : ∀ n, (w2.drewN n).cell? ⟨a.b, 9, none⟩ = some (.int .i64 (y.why : Nat)) := fun n => (HG2.out.keep ((Kp.refl [] w2).drewN n)).cs (i := 9) rfl
      clear hU
      go_quiet (fail)
      have e9 := d9 nq
      have ef := fzd nq
      go_wp2_with (fail)
      refine bodyPost_end (results_none rfl _ _ _) rfl ?_
      rw [HE.out]
      exact ⟨rfl, by unfold GM; rw [show (y.stop 45).ph = z.ph from hyp]; exact (HU.out _).1, kpa ((HK2.out.trans ((Kp.refl _ _).drewN _)).trans (HU.out _).2) ab_all⟩
  · have cN := g_number h x 4 hx hd (show z.n ≤ 3 by omega) hn.2 (by omega)
    rw [decide_eq_false h2] at cN
    have CN := Lib.hid cN
    have e : z.sizes x = z.num x := by unfold Z.sizes; rw [if_neg h2]
    rw [e]
    clear h cN e
    go_enter Tryd.func26, Tryd.ntmps26
    go_wp2_with (first
      | (go_at_call 25; go_must (refine CN.out.mono ?_); rintro en w2 hg2; obtain ⟨rfl, hg2, hk2⟩ := hg2; have HG2 := Lib.hid hg2; have HK2 := Lib.hid hk2; clear hg2 hk2))
    refine bodyPost_end (results_none rfl _ _ _) rfl ?_
    exact ⟨rfl, HG2.out, kpa HK2.out ab_all⟩
/-- What the inflater's object is at rest. -/
theorem sx_rest {l ol : List Int} {t : St} {mp : M} {rdy : Bool} {o : Int} (h : Sx w a.d a.r a.p a.q a.g l t mp rdy o ol) (he : ol = (F l).out) : rdy = false ∧ t = F l := by
  obtain ⟨h1, h2⟩ := pn_known h.pn
  cases rdy with
  | false => exact ⟨rfl, (h2 rfl).1⟩
  | true =>
    have h3 := h1 rfl
    rw [he, List.getElem?_eq_none (Nat.le_refl _)] at h3
    cases h3
set_option maxHeartbeats 2000000 in
set_option maxRecDepth 100000 in
theorem g_defl (h : GM w a z) (hd : z.data = true) (hol : z.ol = (F z.l).out) (hlv : Live (F z.l).m) (x : Int) (hx : Bt x) (hG : Gt w a.inf) : Calls Tryd.prog 68 #[.pointer (some ⟨a.b, 0, none⟩), .int .u8 x] w (GA w a (z.defl x)) := by
  obtain ⟨t, mp, rdy, o, hs⟩ := h.inf hd
  obtain ⟨rfl, rfl⟩ := sx_rest hs hol
  have ht : (z.l ++ [x]).take z.l.length = z.l := List.take_left
  have cP := c_put_any (l := z.l ++ [x]) (i := z.l.length) (s := F z.l) (mp := mp) (o := o) (x := x) (by rw [ht, ← hol]; exact hs) (by simp) hx hG (yes := true) (by simp [hlv])
  rw [ht] at cP
  unfold PutP at cP
  have CP := Lib.hid cP
  have c1 := h.cs (i := 1) rfl
  have hlt := h.lt
  have H := Lib.hid h
  have HOL := Lib.hid hol
  clear h hs cP
  go_enter Tryd.func68, Tryd.ntmps68
  go_wp2_with (first
    | (go_at_call 72; go_must (refine CP.out.mono ?_); rintro en w2 hg2; obtain ⟨rfl, t2, mp2, rdy2, o2, hs2, hk2⟩ := hg2; have HS2 := Lib.hid hs2; have HK2 := Lib.hid hk2; clear hs2 hk2))
  refine bodyPost_end (results_none rfl _ _ _) rfl ?_
  have hsep := Ad.sep H.out.ne
  have hb2 : a.b ∉ [a.d, a.r, a.p, a.q, a.g] := fun hm => (hsep.2 a.b hm).1 rfl
  have hn2 : a.nb ∉ [a.d, a.r, a.p, a.q, a.g] := fun hm => (hsep.2 a.nb hm).2 rfl
  obtain ⟨b0, hi2, _⟩ := HS2.out.inf
  refine ⟨rfl, ⟨(HK2.out.block a.b H.out.lt hb2).trans H.out.cells, own_kp H.out.name HK2.out hn2, fun _ => ⟨t2, mp2, rdy2, o2, ?_⟩, ⟨_, _, _, _, _, hi2, HS2.out.ok⟩, H.out.ne⟩, kpa HK2.out inf_all⟩
  have := HS2.out
  rw [← HOL.out] at this
  exact this
end
end Go.Proofs.YtjjcemdoefigkaaDoor.Hf
