/- The inflater: counts, the lengths of lengths' numbers. -/
import Derived.Test.YtdpnlmofkkdioaaDoorIo
import Derived.Deep.MidRow
namespace Go.Proofs.YtdpnlmofkkdioaaDoor.Hf
set_option linter.unusedVariables false
set_option linter.unusedSimpArgs false
open Go.RowKit Go.Proofs.YtdpnlmofkkdioaaDoor.W

def setAll (l : List Nat) : Nat → List Nat → List Nat
  | _, [] => l
  | i, x :: xs => setAll (l.set i x) (i + 1) xs
theorem setAll_all : ∀ (xs l pre post : List Nat) (i : Nat), l = pre ++ post → pre.length = i → post.length = xs.length → setAll l i xs = pre ++ xs := by
  intro xs
  induction xs with
  | nil => intro l pre post i h1 _ h3; rw [h1, List.eq_nil_of_length_eq_zero h3]; rfl
  | cons x xs ih =>
    intro l pre post i h1 h2 h3
    obtain ⟨y, post, rfl⟩ : ∃ y p, post = y :: p := by cases post with
      | nil => simp at h3
      | cons y p => exact ⟨y, p, rfl⟩
    rw [setAll, ih (l.set i x) (pre ++ [x]) post (i + 1) (by rw [h1, List.set_append_right _ _ (by omega), h2, Nat.sub_self]; simp) (by simp; omega) (by simpa using h3)]
    simp
theorem DB.setFs {d r p g : Nat} {l e c : Option Addr} {rdy : Bool} {o : Int} : ∀ (xs : List Nat) (w : World) (m : M) (i : Nat), i + xs.length ≤ 19 → DB w d r p g l e c m rdy o → DB (w.setCells d (12 + i) (ints xs)) d r p g l e c { m with fl := setAll m.fl i xs } rdy o := by
  intro xs
  induction xs with
  | nil => intro w m i _ h; exact h
  | cons x xs ih =>
    intro w m i hi h
    rw [List.length_cons] at hi
    exact ih _ _ (i + 1) (by omega) (h.setF (by omega) x)
theorem kp_sets {d : Nat} {S : List Nat} (h : d ∈ S) : ∀ (vs : List Value) (w : World) (i : Nat), Kp S w (w.setCells d i vs) := by
  intro vs
  induction vs with
  | nil => intro w i; exact Kp.refl _ _
  | cons v vs ih => intro w i; exact (kp_set h i v).trans (ih _ _)
theorem u32_low {v k M : Nat} (hM : M = 2 ^ k - 1) (hv : v < 4294967296) (hm : M < 4294967296) : bits .and .u32 (v : Int) (M : Int) = ((v % 2 ^ k : Nat) : Int) := by
  rw [u32_and_nat v M hv hm, hM, Nat.and_two_pow_sub_one_eq_mod]
set_option maxHeartbeats 2000000 in
set_option maxRecDepth 100000 in
theorem c_cts {w : World} {d r p q g : Nat} {m : M} {out : List Int} {bs : List Bool} (h : Inf w d r p q g m out bs false 0) (h0 : m.why = 0) (hph : m.ph = .cts) (hl : bs.length < 64) :
    Calls Tryd.prog 55 #[.pointer (some ⟨d, 0, none⟩)] w (StepPost w d r p q g m out bs) := by
  obtain ⟨l, e, c, hd, hT⟩ := h.db
  obtain ⟨b0, hr, hb⟩ := h.rd
  obtain rfl := hb h0
  have hne := h.ne
  simp only [List.nodup_cons, List.mem_cons, List.not_mem_nil, or_false, not_or] at hne
  have hdr : d ∉ [r] := by simp; exact hne.1.1
  have hrd : r ∉ [d] := by simp; exact fun h => hne.1.1 h.symm
  have c0 := hd.a (i := 0) rfl
  have hlt := hd.lt
  have H := Lib.hid h
  have HD := Lib.hid hd
  have HT := Lib.hid hT
  by_cases hle : 14 ≤ b0.length
  · have CT := Lib.hid (take_yes hr hl (by omega) hle)
    have hv := num_take_lt b0 (n := 14)
    obtain ⟨v, hv'⟩ : ∃ v, num (b0.take 14) = v := ⟨_, rfl⟩
    rw [hv'] at CT hv
    have HS := Lib.hid (show step m out b0 = some (ctsM m v, [], 14) by unfold step; rw [hph]; dsimp only; rw [if_pos hle, hv'])
    obtain ⟨A, hA⟩ : ∃ A, v % 32 = A := ⟨_, rfl⟩
    obtain ⟨T, hT5⟩ : ∃ T, v / 32 = T := ⟨_, rfl⟩
    obtain ⟨B, hB⟩ : ∃ B, T % 32 = B := ⟨_, rfl⟩
    obtain ⟨C, hC⟩ : ∃ C, v / 1024 = C := ⟨_, rfl⟩
    have e1 : bits .and .u32 (v : Int) 31 = (A : Int) := by rw [← hA]; exact u32_low (k := 5) (M := 31) rfl (by omega) (by omega)
    have e2 : (v : Int) / 32 = (T : Int) := by omega
    have e3 : bits .and .u32 (T : Int) 31 = (B : Int) := by rw [← hB]; exact u32_low (k := 5) (M := 31) rfl (by omega) (by omega)
    have e4 : (v : Int) / 1024 = (C : Int) := by omega
    have HM := Lib.hid (show ctsM m v = if 257 + A > 286 ∨ 1 + B > 30 then stopM { m with lits := 257 + A } 12 else { m with lits := 257 + A, wanted := 257 + A + (1 + B), left := 4 + C, order := 0, fl := List.replicate 19 0, ph := .lol } by unfold ctsM; rw [hA, hT5, hB, hC])
    have hAB : A < 32 ∧ B < 32 ∧ C < 16 := by omega
    obtain ⟨X, hX⟩ : ∃ X, 257 + A = X := ⟨_, rfl⟩
    obtain ⟨Y, hY⟩ : ∃ Y, 1 + B = Y := ⟨_, rfl⟩
    obtain ⟨Z, hZ⟩ : ∃ Z, X + Y = Z := ⟨_, rfl⟩
    obtain ⟨U, hU⟩ : ∃ U, 4 + C = U := ⟨_, rfl⟩
    have eX : (257 : Int) + (A : Int) = (X : Int) := by omega
    have eY : (1 : Int) + (B : Int) = (Y : Int) := by omega
    have eZ : (X : Int) + (Y : Int) = (Z : Int) := by omega
    have eU : (4 : Int) + (C : Int) = (U : Int) := by omega
    rw [hX, hY, hZ, hU] at HM
    have hXY : X < 400 ∧ Y < 40 ∧ Z < 440 ∧ U < 20 := by omega
    clear hv' hA hB hC hT5 h hd hT hr hX hY hZ hU hAB hv
    by_cases hs : X > 286
    · have i1 : (286 : Int) < (X : Int) := by omega
      go_enter Tryd.func55, Tryd.ntmps55
      go_wp2_with (first
        | (go_at_call 49; go_must (refine CT.out.mono ?_); rintro en w2 ⟨rfl, hr2, hk2⟩; have HR2 := Lib.hid hr2; have HK2 := Lib.hid hk2; have HD2 := Lib.hid (HD.out.kept hk2 hdr); have g31 := HD2.out.b (j := 0) rfl; have gf := HD2.out.fz; have gl := HD2.out.lt; clear hr2 hk2)
        | (go_at_call 56; go_must (refine (c_stop 12 (HD2.out.lits X)).mono ?_); rintro en w3 ⟨rfl, hd3, hk3⟩))
      go_ret
      have hk4 : Kp [d] w2 w3 := (kp_set (by simp) _ _).trans hk3
      exact H.out.done HS.out (by rw [HM.out, if_pos (.inl hs)]) ((HK2.out.mono (by simp)).trans (hk4.mono (by simp))) hd3 (Tbs.none (by show usesT m.ph = false; rw [hph]; rfl) (by show usesC m.ph = false; rw [hph]; rfl)) (HR2.out.kept hk4 hrd) (fun _ => rfl) rfl
    · have i1 : ¬ (286 : Int) < (X : Int) := by omega
      by_cases hs2 : Y > 30
      · have i2 : (30 : Int) < (Y : Int) := by omega
        go_enter Tryd.func55, Tryd.ntmps55
        go_wp2_with (first
          | (go_at_call 49; go_must (refine CT.out.mono ?_); rintro en w2 ⟨rfl, hr2, hk2⟩; have HR2 := Lib.hid hr2; have HK2 := Lib.hid hk2; have HD2 := Lib.hid (HD.out.kept hk2 hdr); have g31 := HD2.out.b (j := 0) rfl; have gf := HD2.out.fz; have gl := HD2.out.lt; clear hr2 hk2)
          | (go_at_call 56; go_must (refine (c_stop 12 (HD2.out.lits X)).mono ?_); rintro en w3 ⟨rfl, hd3, hk3⟩))
        go_ret
        have hk4 : Kp [d] w2 w3 := (kp_set (by simp) _ _).trans hk3
        exact H.out.done HS.out (by rw [HM.out, if_pos (.inr hs2)]) ((HK2.out.mono (by simp)).trans (hk4.mono (by simp))) hd3 (Tbs.none (by show usesT m.ph = false; rw [hph]; rfl) (by show usesC m.ph = false; rw [hph]; rfl)) (HR2.out.kept hk4 hrd) (fun _ => rfl) rfl
      · have i2 : ¬ (30 : Int) < (Y : Int) := by omega
        go_enter Tryd.func55, Tryd.ntmps55
        go_upto_region 11 with (first
          | (go_at_call 49; go_must (refine CT.out.mono ?_); rintro en w2 ⟨rfl, hr2, hk2⟩; have HR2 := Lib.hid hr2; have HK2 := Lib.hid hk2; have HD2 := Lib.hid (HD.out.kept hk2 hdr); have g31 := HD2.out.b (j := 0) rfl; have g32 := HD2.out.b (j := 1) rfl; have g33 := HD2.out.b (j := 2) rfl; have g35 := HD2.out.b (j := 4) rfl; have gf := HD2.out.fz; have gl := HD2.out.lt; clear hr2 hk2))
        have HD3 := Lib.hid (show DB _ d r p g l e c { m with lits := X, wanted := Z, left := U, order := 0 } false 0 from (((HD2.out.lits X).wanted Z).left U).order 0)
        have HK3 := Lib.hid (show Kp [d] w2 ((((w2.setCell ⟨d, 31, none⟩ (.int .i64 (X : Nat))).setCell ⟨d, 32, none⟩ (.int .i64 (Z : Nat))).setCell ⟨d, 35, none⟩ (.int .i64 (U : Nat))).setCell ⟨d, 33, none⟩ (.int .i64 ((0 : Nat) : Int))) from (((kp_set (by simp) _ _).trans (kp_set (by simp) _ _)).trans (kp_set (by simp) _ _)).trans (kp_set (by simp) _ _))
        change Code.wp _ _ _ _ ((((w2.setCell ⟨d, 31, none⟩ (.int .i64 (X : Nat))).setCell ⟨d, 32, none⟩ (.int .i64 (Z : Nat))).setCell ⟨d, 35, none⟩ (.int .i64 (U : Nat))).setCell ⟨d, 33, none⟩ (.int .i64 ((0 : Nat) : Int)))
        generalize (((w2.setCell ⟨d, 31, none⟩ (.int .i64 (X : Nat))).setCell ⟨d, 32, none⟩ (.int .i64 (Z : Nat))).setCell ⟨d, 35, none⟩ (.int .i64 (U : Nat))).setCell ⟨d, 33, none⟩ (.int .i64 ((0 : Nat) : Int)) = w3 at *
        clear g31 g32 g33 g35 gf gl
        have HTH := Lib.hid (show w3.there d 12 19 from fun j hj => ⟨by rw [HD3.out.f (List.getElem?_eq_getElem (by rw [HD3.out.fl]; exact hj))]; rfl, HD3.out.fz _⟩)
        have HFL := Lib.hid (show setAll m.fl 0 (List.replicate 19 0) = List.replicate 19 0 from setAll_all (List.replicate 19 0) m.fl [] m.fl 0 rfl rfl (by rw [HD.out.fl]; rfl))
        have HD4 := Lib.hid (show DB (w3.setCells d 12 (ints (List.replicate 19 0))) d r p g l e c { m with lits := X, wanted := Z, left := U, order := 0, fl := List.replicate 19 0 } false 0 from (by have h9 := DB.setFs (List.replicate 19 0) _ _ 0 (by simp) HD3.out; dsimp only at h9; rw [HFL.out] at h9; exact h9))
        have HK4 := Lib.hid (show Kp [d] w3 (w3.setCells d 12 (ints (List.replicate 19 0))) from kp_sets (by simp) _ _ _)
        have gl3 := HD3.out.lt
        have HI := Lib.hid (show (Tryd.prog.info? 67).map (·.size) = some 19 by kernel_rfl)
        iterate 13 go_step
        refine wpList_store_mid rfl 67 (.tmp 61) (.tmp 59) rfl d 12 #[.int .i64 0, .int .i64 0, .int .i64 0, .int .i64 0, .int .i64 0, .int .i64 0, .int .i64 0, .int .i64 0, .int .i64 0, .int .i64 0, .int .i64 0, .int .i64 0, .int .i64 0, .int .i64 0, .int .i64 0, .int .i64 0, .int .i64 0, .int .i64 0, .int .i64 0] rfl rfl HTH.out HI.out (by simp [Value.oneCell']) ?_
        change wpList _ _ _ _ _ (w3.setCells d 12 (ints (List.replicate 19 0)))
        generalize w3.setCells d 12 (ints (List.replicate 19 0)) = w4 at *
        go_wp2_with (first
          | (go_at_call 51; go_must (refine (c_then .lol HD4.out).mono ?_); rintro en w5 ⟨rfl, hd5, hk5⟩))
        go_ret
        have hk6 : Kp [d] w2 w5 := (HK3.out.trans HK4.out).trans hk5
        exact H.out.done HS.out (by rw [HM.out, if_neg (by omega)]) ((HK2.out.mono (by simp)).trans (hk6.mono (by simp))) hd5 (Tbs.none rfl rfl) (HR2.out.kept hk6 hrd) (fun _ => rfl) rfl
  · have CT := Lib.hid (take_no hr hl (by omega) hle)
    have HS := Lib.hid (show step m out b0 = none by unfold step; rw [hph]; dsimp only; rw [if_neg hle])
    clear h hd hT hr
    go_enter Tryd.func55, Tryd.ntmps55
    go_wp2_with (first
      | (go_at_call 49; go_must (refine CT.out.mono ?_); rintro en w2 ⟨rfl, hr2, hk2⟩))
    go_ret
    exact H.out.wait hk2 hr2 HS.out
end Go.Proofs.YtdpnlmofkkdioaaDoor.Hf
