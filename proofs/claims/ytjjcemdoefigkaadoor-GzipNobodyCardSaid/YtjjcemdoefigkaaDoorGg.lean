/- The walker's header: number, open, summed, commented, named, extra. -/
import Derived.Test.YtjjcemdoefigkaaDoorGf
namespace Go.Proofs.YtjjcemdoefigkaaDoor.Hf
set_option linter.unusedVariables false
set_option linter.unusedSimpArgs false
open Go.RowKit Go.Proofs.YtjjcemdoefigkaaDoor.W

section
variable {w w' : World} {a : Ad} {st st' : Value} {z z' : Z}
theorem num_lt32 {n c : Nat} (hn : n ≤ 3) (hc : c < 256) : c * 256 ^ n < 4294967296 := by
  have h := pow_le (show n + 1 ≤ 4 by omega)
  rw [Nat.pow_succ] at h
  have : c * 256 ^ n ≤ 255 * 256 ^ n := Nat.mul_le_mul_right _ (by omega)
  have h0 : 0 < 256 ^ n := Nat.pow_pos (by omega)
  omega
theorem num_or {n v c : Nat} (hn : n ≤ 3) (hv : v < 256 ^ n) (hc : c < 256) : bits .or .u32 (v : Int) (IntKind.u32.wrap ((c : Int) * 2 ^ (8 * n))) = ((v + c * 256 ^ n : Nat) : Int) := by
  have e1 : (2 : Nat) ^ (8 * n) = 256 ^ n := by rw [Nat.pow_mul]
  have h3 := num_lt32 hn hc
  have e2 : IntKind.u32.wrap ((c : Int) * 2 ^ (8 * n)) = ((c * 256 ^ n : Nat) : Int) := by
    rw [show ((c : Int) * 2 ^ (8 * n)) = ((c * 2 ^ (8 * n) : Nat) : Int) by push_cast; rfl, e1, IntKind.wrap_u32']
    omega
  have hvl : v < 4294967296 := Nat.lt_of_lt_of_le hv (pow_le (by omega))
  rw [e2, u32_or_nat v (c * 256 ^ n) hvl h3, Nat.or_comm, nat_join (8 * n) (c * 256 ^ n) v (by rw [e1]; exact Nat.mul_mod_left _ _) (by rw [e1]; exact hv), Nat.add_comm]
def NumP (w : World) (a : Ad) (st : Value) (z : Z) (y : Bool) (e : Ending) (w' : World) : Prop := e = .returned (.bool y) ∧ GMv w' a st z ∧ Kp [a.b] w w'
set_option maxHeartbeats 4000000 in
set_option maxRecDepth 100000 in
theorem g_number (h : GMv w a st z) (x : Int) (N : Nat) (hx : Bt x) (hd : z.data = false) (hn : z.n ≤ 3) (hv : z.val < 256 ^ z.n) (hN : N ≤ 4) :
    Calls Tryd.prog 25 #[.pointer (some ⟨a.b, 0, none⟩), .int .u8 x, .int .i64 (N : Nat)] w (NumP w a st (z.num x) (decide (z.n + 1 = N))) := by
  obtain ⟨c, rfl⟩ : ∃ c : Nat, x = c := ⟨x.toNat, by have := hx.1; omega⟩
  have hc : c < 256 := by have := hx.2; omega
  have HOR := Lib.hid (num_or hn hv hc)
  have c18 := h.cs (i := 18) rfl
  have c13 := h.cs (i := 13) rfl
  have fz := h.fz
  have hlt := h.lt
  have hk : Kp [a.b] w ((w.setCell ⟨a.b, 18, none⟩ (.int .u32 ((z.num c).val : Nat))).setCell ⟨a.b, 13, none⟩ (.int .i64 ((z.n + 1 : Nat) : Int))) := (kpb (by simp) _ _).trans (kpb (by simp) _ _)
  have hU := h.upd (z' := z.num c) (st' := st) (setZ (setZ h.cells 18 (.int .u32 ((z.num c).val : Nat))) 13 (.int .i64 ((z.n + 1 : Nat) : Int))) hk (.inl rfl) (fun h => ⟨h, rfl, rfl⟩)
  have HU := Lib.hid hU
  have HK := Lib.hid hk
  clear h hk hU hx
  have hval : (z.num c).val = z.val + c * 256 ^ z.n := rfl
  rw [← hval] at HOR
  generalize (z.num c).val = V at *
  generalize z.val = v0 at *
  generalize z.n = n at *
  clear hval hv
  obtain ⟨E, hE⟩ : ∃ E, 8 * n = E := ⟨_, rfl⟩
  have e8 : IntKind.i64.wrap (8 * (n : Int)) = (E : Int) := by rw [← hE, Int.natCast_mul]; exact IntWalk.i64_in _ (by omega)
  have hE2 : E ≤ 24 := by omega
  have hE3 : (E : Int) < 64 := by omega
  rw [hE, IntKind.wrap_u32'] at HOR
  go_enter Tryd.func25, Tryd.ntmps25
  go_upto_region 1 with (fail)
  go_region
  rw [HOR.out]
  go_wp2
  go_ret
  have i9 : ((n : Int) + 1 == (N : Int)) = decide (n + 1 = N) := by
    by_cases h9 : n + 1 = N
    · rw [decide_eq_true h9]; exact W.eqT (by omega)
    · rw [decide_eq_false h9]; exact W.eqF (by omega)
  exact ⟨by rw [← i9]; rfl, HU.out.keep ((Kp.refl _ _).drew), HK.out.drew⟩
def Zo (z : Z) : Z := { z with data := true, ph := .defl, l := [], ol := [] }
def GA (w : World) (a : Ad) (z : Z) (e : Ending) (w' : World) : Prop := e = .returned (.tuple #[]) ∧ GM w' a z ∧ Kp a.all w w'
theorem kpa {S : List Nat} (h : Kp S w w') (hs : ∀ k ∈ S, k ∈ a.all) : Kp a.all w w' := h.mono fun k hk => .inl (hs k hk)
theorem ab_all : ∀ k ∈ [a.b], k ∈ a.all := fun k hk => by rw [List.mem_singleton.1 hk]; simp [Ad.all]
theorem inf_all : ∀ k ∈ [a.d, a.r, a.p, a.q, a.g], k ∈ a.all := fun k hk => List.mem_cons_of_mem _ (List.mem_cons_of_mem _ hk)
theorem GMP.ga {e : Ending} (h : GMP w a (gpV a z.ph) z e w') : GA w a z e w' := ⟨h.1, h.2.1, kpa h.2.2 ab_all⟩
theorem GA.then {w1 : World} {e : Ending} (h : GA w1 a z e w') (hk : Kp a.all w w1) : GA w a z e w' := ⟨h.1, h.2.1, hk.trans h.2.2⟩
set_option maxHeartbeats 4000000 in
set_option maxRecDepth 100000 in
theorem g_open (h : GMv w a st z) (hd : z.data = false) : Calls Tryd.prog 59 #[.pointer (some ⟨a.b, 0, none⟩)] w (GA w a z.open_) := by
  obtain ⟨m, out, bs, rdy, o, hraw, hok⟩ := h.raw
  have CR := Lib.hid (c_reset hraw)
  have c1 := h.cs (i := 1) rfl
  have hlt := h.lt
  have H := Lib.hid h
  have HOK := Lib.hid hok
  clear h hraw hok
  go_enter Tryd.func59, Tryd.ntmps59
  go_upto_region 1 with (first
    | (go_at_call 31; go_must (refine CR.out.mono ?_); rintro en w2 ⟨rfl, hi2, hk2⟩; have HI2 := Lib.hid hi2; have HK2 := Lib.hid hk2; clear hi2 hk2))
  have hsep := Ad.sep H.out.ne
  have hb2 : a.b ∉ [a.d, a.r, a.p, a.q, a.g] := fun hm => (hsep.2 a.b hm).1 rfl
  have hn2 : a.nb ∉ [a.d, a.r, a.p, a.q, a.g] := fun hm => (hsep.2 a.nb hm).2 rfl
  have hG2 : GMv w2 a st z := ⟨(HK2.out.block a.b H.out.lt hb2).trans H.out.cells, own_kp H.out.name HK2.out hn2, fun h => (by rw [hd] at h; cases h), ⟨_, _, _, _, _, HI2.out, HOK.out.reset⟩, H.out.ne⟩
  have d0 := hG2.cs (i := 0) rfl
  have d10 := hG2.cs (i := 10) rfl
  have d16 := hG2.cs (i := 16) rfl
  have d17 := hG2.cs (i := 17) rfl
  have d19 := hG2.cs (i := 19) rfl
  have fz := hG2.fz
  have hlt2 := hG2.lt
  have hk3 : Kp [a.b] w2 ((((w2.setCell ⟨a.b, 10, none⟩ (.bool true)).setCell ⟨a.b, 16, none⟩ (.int .u32 0)).setCell ⟨a.b, 17, none⟩ (.int .u32 0)).setCell ⟨a.b, 0, none⟩ (gpV a .defl)) :=
    (((kpb (by simp) _ _).trans (kpb (by simp) _ _)).trans (kpb (by simp) _ _)).trans (kpb (by simp) _ _)
  have hi3 : ∀ k ∈ [a.d, a.r, a.p, a.q, a.g], k ∉ [a.b] := fun k hm h2 => (hsep.2 k hm).1 (List.mem_singleton.1 h2)
  have hI3 := HI2.out.row2 hk3 hG2.tn hi3
  have hG3 : GMv ((((w2.setCell ⟨a.b, 10, none⟩ (.bool true)).setCell ⟨a.b, 16, none⟩ (.int .u32 0)).setCell ⟨a.b, 17, none⟩ (.int .u32 0)).setCell ⟨a.b, 0, none⟩ (gpV a .defl)) a (gpV a .defl) (Zo z) :=
    ⟨setZ (setZ (setZ (setZ hG2.cells 10 (.bool true)) 16 (.int .u32 0)) 17 (.int .u32 0)) 0 (gpV a .defl), own_kp hG2.name hk3 (fun h2 => hsep.1 (List.mem_singleton.1 h2).symm),
      fun _ => ⟨st0, resetM m, false, 0, ⟨⟨.refl _, Rel.reset m, fun _ => ⟨next_none.2 fun _ => rfl, rfl, rfl⟩, fun h => (by cases h), fun h => (by cases h), Nat.le_refl _⟩, ⟨[], hI3, fun _ => rfl⟩, HOK.out.reset⟩⟩, ⟨_, _, _, _, _, hI3, HOK.out.reset⟩, H.out.ne⟩
  have hst := store_fn (fn := gpF .defl) (v := .pointer (some ⟨a.b, 0, none⟩)) (w := ((w2.setCell ⟨a.b, 10, none⟩ (.bool true)).setCell ⟨a.b, 16, none⟩ (.int .u32 0)).setCell ⟨a.b, 17, none⟩ (.int .u32 0)) (d := a.b) (i := 0) (v0 := st) (by
    have h9 : ((w2.setCell ⟨a.b, 10, none⟩ (.bool true)).setCell ⟨a.b, 16, none⟩ (.int .u32 0)).setCell ⟨a.b, 17, none⟩ (.int .u32 0) |>.heap[a.b]? = _ := setZ (setZ (setZ hG2.cells 10 (.bool true)) 16 (.int .u32 0)) 17 (.int .u32 0)
    rw [cell_of_row _ a.b 0 _ _ _ h9]; rfl) (frozen_of_row _ a.b 0 _ _ (setZ (setZ (setZ hG2.cells 10 (.bool true)) 16 (.int .u32 0)) 17 (.int .u32 0)))
  rw [show gpF .defl = 68 from rfl] at hst
  have hs := run_string (P := Tryd.prog) (w := (((w2.setCell ⟨a.b, 10, none⟩ (.bool true)).setCell ⟨a.b, 16, none⟩ (.int .u32 0)).setCell ⟨a.b, 17, none⟩ (.int .u32 0)).setCell ⟨a.b, 0, none⟩ (gpV a .defl)) _ _ _ Tryd.underlying34 Tryd.underlying5 Tryd.underlying9 (c := 256) (n := z.nm.length) (RV.own hG3.name) rfl
  have CT := Lib.hid (g_tell (evOpen z.nm) hG3)
  have HK3 := Lib.hid hk3
  clear hk3 hi3 hI3 hG3 hG2 hb2 hn2 CR c1
  have hev : evV (evOpen z.nm) = .agg #[.int .i64 1, .int .u8 0, .int .i64 2, .int .i64 0, .string (strOfNums z.nm)] := rfl
  have hgv : gpV a .defl = .func (Fn.func 68) #[.pointer (some ⟨a.b, 0, none⟩)] #[] := rfl
  rw [hev, hgv] at CT
  rw [hgv, show (Zo z).nm = z.nm from rfl] at hs
  generalize strOfNums z.nm = nmS at *
  go_wp2_with (first
    | (go_at_call 16; go_must (refine CT.out.mono ?_); rintro en w4 ⟨rfl, hg4, hk4⟩; have HG4 := Lib.hid hg4; have HK4 := Lib.hid hk4; clear hg4 hk4))
  refine bodyPost_end (results_none rfl _ _ _) rfl ?_
  exact ⟨rfl, HG4.out, ((kpa HK2.out inf_all).trans (kpa HK3.out ab_all)).trans (kpa HK4.out ab_all)⟩
theorem and_bit {f : Nat} (hf : f < 256) : bits .and .u8 (f : Int) 4 = ((f / 4 % 2 * 4 : Nat) : Int) ∧ bits .and .u8 (f : Int) 8 = ((f / 8 % 2 * 8 : Nat) : Int) ∧ bits .and .u8 (f : Int) 16 = ((f / 16 % 2 * 16 : Nat) : Int) ∧ bits .and .u8 (f : Int) 2 = ((f / 2 % 2 * 2 : Nat) : Int) := by
  have h : ∀ i, i ≤ 7 → bits .and .u8 (f : Int) ((2 ^ i : Nat) : Int) = ((f / 2 ^ i % 2 * 2 ^ i : Nat) : Int) := fun i hi => by
    have h2 : (2 : Nat) ^ i ≤ 2 ^ 7 := Nat.pow_le_pow_right (by omega) hi
    rw [u8_and_nat f (2 ^ i) hf (by omega), nat_bit]
  exact ⟨h 2 (by omega), h 3 (by omega), h 4 (by omega), h 1 (by omega)⟩
set_option maxHeartbeats 2000000 in
set_option maxRecDepth 100000 in
theorem g_summed (h : GMv w a st z) (hd : z.data = false) (hf : z.fl < 256) : Calls Tryd.prog 48 #[.pointer (some ⟨a.b, 0, none⟩)] w (GA w a z.summed) := by
  have c12 := h.cs (i := 12) rfl
  have hlt := h.lt
  have ha := (and_bit hf).2.2.2
  by_cases hb : z.fl / 2 % 2 = 0
  · have e : z.summed = z.open_ := by unfold Z.summed; rw [if_pos hb]
    rw [e]
    have CO := Lib.hid (g_open h hd)
    have i1 : ((z.fl / 2 % 2 * 2 : Nat) : Int) = 0 := by rw [hb]; rfl
    rw [i1] at ha
    generalize z.fl = f at *
    clear h hb
    go_enter Tryd.func48, Tryd.ntmps48
    go_wp2_with (first
      | (go_at_call 59; go_must (refine CO.out.mono ?_); rintro en w2 hg2; obtain ⟨rfl, hg2⟩ := hg2; have HG2 := Lib.hid hg2; clear hg2))
    refine bodyPost_end (results_none rfl _ _ _) rfl ?_
    exact ⟨rfl, HG2.out⟩
  · have e : z.summed = z.want .hSum := by unfold Z.summed; rw [if_neg hb]
    rw [e]
    have CO := Lib.hid (g_want .hSum h hd)
    rw [show gpF .hSum = 60 from rfl] at CO
    have i1 : ((z.fl / 2 % 2 * 2 : Nat) : Int) = 2 := by have : z.fl / 2 % 2 = 1 := by omega
                                                         rw [this]; rfl
    rw [i1] at ha
    generalize z.fl = f at *
    clear h hb
    go_enter Tryd.func48, Tryd.ntmps48
    go_wp2_with (first
      | (go_at_call 19; go_must (refine CO.out.mono ?_); rintro en w2 hg2; obtain ⟨rfl, hg2⟩ := hg2; have HG2 := Lib.hid hg2; clear hg2))
    refine bodyPost_end (results_none rfl _ _ _) rfl ?_
    exact ⟨rfl, HG2.out.1, kpa HG2.out.2 ab_all⟩
set_option maxHeartbeats 2000000 in
set_option maxRecDepth 100000 in
theorem g_commented (h : GMv w a st z) (hd : z.data = false) (hf : z.fl < 256) : Calls Tryd.prog 37 #[.pointer (some ⟨a.b, 0, none⟩)] w (GA w a z.commented) := by
  have c0 := h.cs (i := 0) rfl
  have c12 := h.cs (i := 12) rfl
  have c14 := h.cs (i := 14) rfl
  have hlt := h.lt
  have fz := h.fz
  have ha := (and_bit hf).2.2.1
  have hk1 : Kp [a.b] w (w.setCell ⟨a.b, 14, none⟩ (.int .i64 0)) := kpb (by simp) _ _
  have hG1 : GMv (w.setCell ⟨a.b, 14, none⟩ (.int .i64 0)) a st { z with cnt := 0 } := h.upd (setZ h.cells 14 (.int .i64 0)) hk1 (.inl rfl) (fun h => ⟨h, rfl, rfl⟩)
  by_cases hb : z.fl / 16 % 2 = 0
  · have e : z.commented = Z.summed { z with cnt := 0 } := by unfold Z.commented; rw [if_pos hb]
    rw [e]
    have CO := Lib.hid (g_summed hG1 hd hf)
    have HK1 := Lib.hid hk1
    have i1 : ((z.fl / 16 % 2 * 16 : Nat) : Int) = 0 := by rw [hb]; rfl
    rw [i1] at ha
    clear h hb hG1 hk1
    go_enter Tryd.func37, Tryd.ntmps37
    go_wp2_with (first
      | (go_at_call 48; go_must (refine CO.out.mono ?_); rintro en w2 hg2; obtain ⟨rfl, hg2⟩ := hg2; have HG2 := Lib.hid hg2; clear hg2))
    refine bodyPost_end (results_none rfl _ _ _) rfl ?_
    exact ⟨rfl, HG2.out.1, (kpa HK1.out ab_all).trans HG2.out.2⟩
  · have e : z.commented = { z with cnt := 0, ph := .comB } := by unfold Z.commented; rw [if_neg hb]
    rw [e]
    have hk2 := hk1.trans (kpb (a := a) (w := w.setCell ⟨a.b, 14, none⟩ (.int .i64 0)) (by simp) 0 (gpV a .comB))
    have HG2 := Lib.hid (show GM _ a { z with cnt := 0, ph := .comB } from h.upd (setZ (setZ h.cells 14 (.int .i64 0)) 0 (gpV a .comB)) hk2 (.inl rfl) (fun h => ⟨h, rfl, rfl⟩))
    have hst := store_fn (fn := gpF .comB) (v := .pointer (some ⟨a.b, 0, none⟩)) (hG1.cs (i := 0) rfl) (hG1.fz 0)
    rw [show gpF .comB = 49 from rfl] at hst
    have HK2 := Lib.hid hk2
    have i1 : ((z.fl / 16 % 2 * 16 : Nat) : Int) = 16 := by have : z.fl / 16 % 2 = 1 := by omega
                                                            rw [this]; rfl
    rw [i1] at ha
    clear h hb hG1 hk1 hk2
    go_enter Tryd.func37, Tryd.ntmps37
    go_wp2_with (fail)
    refine bodyPost_end (results_none rfl _ _ _) rfl ?_
    exact ⟨rfl, HG2.out, kpa HK2.out ab_all⟩
set_option maxHeartbeats 2000000 in
set_option maxRecDepth 100000 in
theorem g_named (h : GMv w a st z) (hd : z.data = false) (hf : z.fl < 256) : Calls Tryd.prog 32 #[.pointer (some ⟨a.b, 0, none⟩)] w (GA w a z.named) := by
  have c0 := h.cs (i := 0) rfl
  have c12 := h.cs (i := 12) rfl
  have hlt := h.lt
  have fz := h.fz
  have ha := (and_bit hf).2.1
  by_cases hb : z.fl / 8 % 2 = 0
  · have e : z.named = z.commented := by unfold Z.named; rw [if_pos hb]
    rw [e]
    have CO := Lib.hid (g_commented h hd hf)
    have i1 : ((z.fl / 8 % 2 * 8 : Nat) : Int) = 0 := by rw [hb]; rfl
    rw [i1] at ha
    clear h hb
    go_enter Tryd.func32, Tryd.ntmps32
    go_wp2_with (first
      | (go_at_call 37; go_must (refine CO.out.mono ?_); rintro en w2 hg2; obtain ⟨rfl, hg2⟩ := hg2; have HG2 := Lib.hid hg2; clear hg2))
    refine bodyPost_end (results_none rfl _ _ _) rfl ?_
    exact ⟨rfl, HG2.out⟩
  · have e : z.named = { z with ph := .nameB } := by unfold Z.named; rw [if_neg hb]
    rw [e]
    have hk2 := kpb (a := a) (w := w) (by simp) 0 (gpV a .nameB)
    have HG2 := Lib.hid (show GM _ a { z with ph := .nameB } from h.upd (setZ h.cells 0 (gpV a .nameB)) hk2 (.inl rfl) (fun h => ⟨h, rfl, rfl⟩))
    have hst := store_fn (fn := gpF .nameB) (v := .pointer (some ⟨a.b, 0, none⟩)) c0 (fz 0)
    rw [show gpF .nameB = 38 from rfl] at hst
    have HK2 := Lib.hid hk2
    have i1 : ((z.fl / 8 % 2 * 8 : Nat) : Int) = 8 := by have : z.fl / 8 % 2 = 1 := by omega
                                                         rw [this]; rfl
    rw [i1] at ha
    clear h hb hk2
    go_enter Tryd.func32, Tryd.ntmps32
    go_wp2_with (fail)
    refine bodyPost_end (results_none rfl _ _ _) rfl ?_
    exact ⟨rfl, HG2.out, kpa HK2.out ab_all⟩
set_option maxHeartbeats 2000000 in
set_option maxRecDepth 100000 in
theorem g_extra (h : GMv w a st z) (hd : z.data = false) (hf : z.fl < 256) : Calls Tryd.prog 28 #[.pointer (some ⟨a.b, 0, none⟩)] w (GA w a z.extra) := by
  have c12 := h.cs (i := 12) rfl
  have hlt := h.lt
  have ha := (and_bit hf).1
  by_cases hb : z.fl / 4 % 2 = 0
  · have e : z.extra = z.named := by unfold Z.extra; rw [if_pos hb]
    rw [e]
    have CO := Lib.hid (g_named h hd hf)
    have i1 : ((z.fl / 4 % 2 * 4 : Nat) : Int) = 0 := by rw [hb]; rfl
    rw [i1] at ha
    clear h hb
    go_enter Tryd.func28, Tryd.ntmps28
    go_wp2_with (first
      | (go_at_call 32; go_must (refine CO.out.mono ?_); rintro en w2 hg2; obtain ⟨rfl, hg2⟩ := hg2; have HG2 := Lib.hid hg2; clear hg2))
    refine bodyPost_end (results_none rfl _ _ _) rfl ?_
    exact ⟨rfl, HG2.out⟩
  · have e : z.extra = z.want .exLen := by unfold Z.extra; rw [if_neg hb]
    rw [e]
    have CO := Lib.hid (g_want .exLen h hd)
    rw [show gpF .exLen = 33 from rfl] at CO
    have i1 : ((z.fl / 4 % 2 * 4 : Nat) : Int) = 4 := by have : z.fl / 4 % 2 = 1 := by omega
                                                         rw [this]; rfl
    rw [i1] at ha
    clear h hb
    go_enter Tryd.func28, Tryd.ntmps28
    go_wp2_with (first
      | (go_at_call 19; go_must (refine CO.out.mono ?_); rintro en w2 hg2; obtain ⟨rfl, hg2⟩ := hg2; have HG2 := Lib.hid hg2; clear hg2))
    refine bodyPost_end (results_none rfl _ _ _) rfl ?_
    exact ⟨rfl, HG2.out.1, kpa HG2.out.2 ab_all⟩
end
end Go.Proofs.YtjjcemdoefigkaaDoor.Hf
