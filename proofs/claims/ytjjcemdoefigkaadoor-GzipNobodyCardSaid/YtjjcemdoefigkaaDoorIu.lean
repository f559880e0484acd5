/- The inflater: the lengths of lengths. -/
import Derived.Test.YtjjcemdoefigkaaDoorIr
namespace Go.Proofs.YtjjcemdoefigkaaDoor.Hf
set_option linter.unusedVariables false
set_option linter.unusedSimpArgs false
open Go.RowKit Go.Proofs.YtjjcemdoefigkaaDoor.W

theorem newOk_full {ls : List Nat} (h : kraft ls = 32768) : newOk ls = true := by
  unfold newOk
  rw [h]
  rfl
theorem Inf.turnW {w w' : World} {d r p q g : Nat} {l e c : Option Addr} {m m' : M} {out : List Int} {bs bs' : List Bool} {rdy rdy' : Bool} {o o' : Int} (h : Inf w d r p q g m out bs rdy o) (hk : Kp [d, r] w w') (hd : DB w' d r p g l e c m' rdy' o') (hT : Tbs w' [d, r, p, q, g] l e c m') (hr : ∃ b0, Rd w' r b0 ∧ (m'.why = 0 → b0 = bs'))
    (hrow : w'.ownsRow 0 3 1 (.slice (some ⟨g, 0, none⟩) m.row.length 320) m.row.length (ints m.row) → w'.ownsRow 0 3 1 (.slice (some ⟨g, 0, none⟩) m'.row.length 320) m'.row.length (ints m'.row)) : Inf w' d r p q g m' out bs' rdy' o' := by
  have hne := h.ne
  simp only [List.nodup_cons, List.mem_cons, List.not_mem_nil, or_false, not_or] at hne
  obtain ⟨⟨n1, n2, n3, n4⟩, ⟨n5, n6, n7⟩, ⟨n8, n9⟩, n10, _⟩ := hne
  refine ⟨⟨l, e, c, hd, hT⟩, hr, h.rg.kept hk ?_ ?_, hrow (own_kp h.row hk ?_), h.ne⟩
  · simp; exact ⟨fun h => n2 h.symm, fun h => n5 h.symm⟩
  · simp; exact ⟨fun h => n3 h.symm, fun h => n6 h.symm⟩
  · simp; exact ⟨fun h => n4 h.symm, fun h => n7 h.symm⟩
theorem fl_row {w : World} {d r p g : Nat} {l e c : Option Addr} {m : M} {rdy : Bool} {o : Int} (h : DB w d r p g l e c m rdy o) : RV w (some ⟨d, 12, none⟩) (ints m.fl) := fun i v hv => by
  obtain ⟨n, hn, rfl⟩ : ∃ n, m.fl[i]? = some n ∧ v = .int .i64 (n : Nat) := by
    unfold ints at hv
    rw [List.getElem?_map] at hv
    cases h9 : m.fl[i]? with
    | none => rw [h9] at hv; cases hv
    | some n => rw [h9] at hv; injection hv with hv; exact ⟨n, rfl, hv.symm⟩
  exact ⟨d, 12, rfl, h.lt, h.f hn⟩
set_option maxHeartbeats 8000000 in
set_option maxRecDepth 100000 in
theorem c_lol {w : World} {d r p q g : Nat} {m : M} {out : List Int} {bs : List Bool} (h : Inf w d r p q g m out bs false 0) (h0 : m.why = 0) (hph : m.ph = .lol) (hl : bs.length < 64) (hok : Ok m out) (hG : Gt w [d, r, p, q, g]) :
    Calls Tryd.prog 58 #[.pointer (some ⟨d, 0, none⟩)] w (StepPost w d r p q g m out bs) := by
  obtain ⟨l, e, c, hd, hT⟩ := h.db
  obtain ⟨b0, hr, hb⟩ := h.rd
  obtain rfl := hb h0
  have hne := h.ne
  simp only [List.nodup_cons, List.mem_cons, List.not_mem_nil, or_false, not_or] at hne
  have hdr : d ∉ [r] := by simp; exact hne.1.1
  have hrd : r ∉ [d] := by simp; exact fun h => hne.1.1 h.symm
  have c0 := hd.a (i := 0) rfl
  have hlt := hd.lt
  have H := Lib.hid h
  have HD := Lib.hid hd
  have HT := Lib.hid hT
  have hpo := hok.ph h0
  unfold PhOk at hpo
  rw [hph] at hpo
  dsimp only at hpo
  have HG := Lib.hid hG
  by_cases hle : 3 ≤ b0.length
  · have CT := Lib.hid (take_yes hr hl (by omega) hle)
    have hv := num_take_lt b0 (n := 3)
    obtain ⟨v, hv'⟩ : ∃ v, num (b0.take 3) = v := ⟨_, rfl⟩
    rw [hv'] at CT hv
    have HS := Lib.hid (show step m out b0 = some (lolM m v, [], 3) by unfold step; rw [hph]; dsimp only; rw [if_pos hle, hv'])
    obtain ⟨O, hO⟩ : ∃ O, m.order = O := ⟨_, rfl⟩
    obtain ⟨L, hL⟩ : ∃ L, m.left = L := ⟨_, rfl⟩
    have hOL : O < L ∧ L ≤ 19 := by omega
    obtain ⟨k, hk⟩ : ∃ k, ord[O]? = some k := ⟨_, List.getElem?_eq_getElem (by show O < 19; omega)⟩
    have hk19 : k < 19 := by
      have hall : ∀ x ∈ ord, x < 19 := by decide
      exact hall k (List.mem_of_getElem? hk)
    obtain ⟨y, hy⟩ : ∃ y, m.fl[k]? = some y := ⟨_, List.getElem?_eq_getElem (by rw [HD.out.fl]; exact hk19)⟩
    have HM := Lib.hid (show lolM m v = if O + 1 < L then { m with fl := m.fl.set k v, order := O + 1 } else if kraft (m.fl.set k v) = 32768 then { m with fl := m.fl.set k v, order := O + 1, cd := m.fl.set k v, row := [], ph := .len } else stopM { m with fl := m.fl.set k v, order := O + 1 } 12 by unfold lolM; rw [hO, hL, show ord.getD O 0 = k by rw [List.getD_eq_getElem?_getD, hk]; rfl])
    have hfl7 : ∀ x ∈ m.fl.set k v, x ≤ 7 := fun x hx => mem_set_le hok.fl (by omega) hx
    have hfll : (m.fl.set k v).length = 19 := by rw [List.length_set]; exact HD.out.fl
    have HFL7 := Lib.hid hfl7
    have HFLL := Lib.hid hfll
    have HKK := Lib.hid hk
    have HYY := Lib.hid hy
    have HOO := Lib.hid hO
    have HLL := Lib.hid hL
    have i1 : (O : Int) < 19 := by omega
    have i2 : (k : Int) < 19 := by omega
    have hv3 : v < 8 := by omega
    clear hv' h hd hT hr hfl7 hfll hk hy hok hpo hO hL
    go_enter Tryd.func58, Tryd.ntmps58
    go_upto_region 4 with (first
      | (go_at_call 40; go_must (refine CT.out.mono ?_); rintro en w2 ⟨rfl, hr2, hk2⟩; have HR2 := Lib.hid hr2; have HK2 := Lib.hid hk2; have HD2 := Lib.hid (HD.out.kept hk2 hdr); have g33 := HD2.out.b (j := 2) rfl; rw [HOO.out] at g33; have gk := HD2.out.f HYY.out; have HG2 := Lib.hid (HG.out.kept HK2.out (by simp)); have gt := HG2.out.t2 O k HKK.out; have gf := HD2.out.fz; have gl := HD2.out.lt; clear hr2 hk2))
    go_still_tail 12, (by kernel_rfl)
    change wpList _ _ _ _ _ w2.drew
    have HD3 := Lib.hid HD2.out.drew
    have HK3 := Lib.hid (show Kp [d] w2 w2.drew from (Kp.refl _ _).drew)
    have gk : w2.drew.cell? ⟨d, 12 + k, none⟩ = some (.int .i64 (y : Nat)) := gk
    have gf : ∀ i, w2.drew.frozen? ⟨d, i, none⟩ = false := gf
    have gl : d < w2.drew.heap.size := gl
    clear g33 gt
    generalize w2.drew = w3 at *
    go_upto_region 5 with (fail)
    have HD4 := Lib.hid (HD3.out.setF (i := k) (by omega) v)
    have HK4 := Lib.hid (show Kp [d] w3 (w3.setCell ⟨d, 12 + k, none⟩ (.int .i64 (v : Nat))) from kp_set (by simp) _ _)
    generalize w3.setCell ⟨d, 12 + k, none⟩ (.int .i64 (v : Nat)) = w4 at *
    clear gk gf gl
    have c33 := HD4.out.b (j := 2) rfl
    dsimp only at c33
    rw [HOO.out] at c33
    have cf := HD4.out.fz
    have cl := HD4.out.lt
    obtain ⟨O1, hO1⟩ : ∃ O1, O + 1 = O1 := ⟨_, rfl⟩
    have eO : (O : Int) + 1 = (O1 : Int) := by omega
    go_upto_region 6 with (fail)
    have HD5 := Lib.hid (show DB (w4.setCell ⟨d, 33, none⟩ (.int .i64 (O1 : Nat))) d r p g l e c { m with fl := m.fl.set k v, order := O1 } false 0 from HD4.out.order O1)
    have HK5 := Lib.hid (show Kp [d] w4 (w4.setCell ⟨d, 33, none⟩ (.int .i64 (O1 : Nat))) from kp_set (by simp) _ _)
    generalize w4.setCell ⟨d, 33, none⟩ (.int .i64 (O1 : Nat)) = w5 at *
    clear c33 cf cl eO
    have c33 := HD5.out.b (j := 2) rfl
    dsimp only at c33
    have c35 := HD5.out.b (j := 4) rfl
    dsimp only at c35
    rw [HLL.out] at c35
    have c5l := HD5.out.lt
    rw [hO1] at HM
    have HKW := Lib.hid (show Kp [d, r] w w5 from (HK2.out.mono (by simp)).trans (((HK3.out.trans HK4.out).trans HK5.out).mono (by simp)))
    have HKW2 := Lib.hid (show Kp [d] w2 w5 from (HK3.out.trans HK4.out).trans HK5.out)
    by_cases hs : O1 < L
    · have d1 : decide ((O1 : Int) < (L : Int)) = true := W.decT (Int.ofNat_lt.2 hs)
      have d1' : decide (O1 < L) = true := W.decT hs
      go_quiet (fail)
      go_wp2_with (fail)
      go_ret
      have hk6 : Kp [] w5 (w5.drewN nq) := (Kp.refl _ _).drewN _
      exact H.out.done HS.out (by rw [HM.out, if_pos hs]) (HKW.out.trans (hk6.mono (by simp))) (HD5.out.kept hk6 (by simp)) (Tbs.none (by show usesT m.ph = false; rw [hph]; rfl) (by show usesC m.ph = false; rw [hph]; rfl)) ((HR2.out.kept HKW2.out hrd).kept hk6 (by simp)) (fun _ => rfl) rfl
    · have d1 : decide ((O1 : Int) < (L : Int)) = false := W.decF (fun h => hs (Int.ofNat_lt.1 h))
      have d1' : decide (O1 < L) = false := W.decF hs
      go_quiet (fail)
      go_upto_region 8 with (fail)
      have HK6 := Lib.hid (show Kp [d] w2 (w5.drewN nq) from HKW2.out.trans ((Kp.refl _ _).drewN _))
      have HKX := Lib.hid (show Kp [d, r] w (w5.drewN nq) from HKW.out.trans ((Kp.refl _ _).drewN _))
      have HD6 := Lib.hid (HD5.out.kept (S := []) ((Kp.refl _ w5).drewN nq) (by simp))
      clear c33 c35 c5l d1 d1'
      generalize w5.drewN nq = w6 at *
      have CK := c_kraft (some ⟨d, 12, none⟩) 19 19 (m.fl.set k v) w6 HFLL.out (by omega) (fun x hx => by have := HFL7.out x hx; omega) (fl_row HD6.out)
      unfold KraftPost at CK
      have CK := Lib.hid CK
      have c6l := HD6.out.lt
      obtain ⟨K, hK⟩ : ∃ K, kraft (m.fl.set k v) = K := ⟨_, rfl⟩
      rw [hK] at CK HM
      have HKK2 := Lib.hid hK
      clear hK
      by_cases hK8 : K = 32768
      · have j1 : ((K : Int) == 32768) = true := W.eqT (by omega)
        have j2 : ((K : Int) != 32768) = false := W.neF (by omega)
        have HN := Lib.hid (c_new1 (some ⟨d, 12, none⟩) 19 19 (m.fl.set k v) w6 HFLL.out (by omega) (fun x hx => by have := HFL7.out x hx; omega) (fl_row HD6.out))
        have HN8 := Lib.hid (show newOk (m.fl.set k v) = true from newOk_full (by rw [HKK2.out, hK8]))
        have HK8 := Lib.hid hK8
        have HSZ := Lib.hid (show ∀ x ∈ [d, r, p, q, g], x < w6.heap.size from fun x hx => Nat.lt_of_lt_of_le (H.out.lts x hx) HKX.out.size)
        clear hK8
        go_wp2_with (first
          | (go_at_call 61; go_must (refine CK.out.mono ?_); rintro en w7 ⟨rfl, rfl⟩)
          | (go_at_call 53; go_must (refine HN.out.mono ?_); rintro en w7 ⟨pt, er, rfl, hyes, hno, hk7⟩; have HY := Lib.hid (hyes HN8.out); have HK7 := Lib.hid hk7; clear hyes hno hk7; have HD7 := Lib.hid (HD6.out.kept HK7.out (by simp)); have g10 := HD7.out.a (i := 10) rfl; have g11 := HD7.out.a (i := 11) rfl; have gf := HD7.out.fz; have gl := HD7.out.lt)
          | (go_at_call 42; go_must (refine (c_then .len ((HD7.out.setCd pt).row [])).mono ?_); rintro en w8 ⟨rfl, hd8, hk8⟩))
        go_ret
        obtain ⟨rfl, tc, rfl, hTC⟩ := HY.out
        have HTC := hTC [d, r, p, q, g] (fun x hx => HSZ.out x hx)
        have hk9 : Kp [d] w7 w8 := ((kp_set (by simp) _ _).trans (kp_set (by simp) _ _)).trans hk8
        have hk10 : Kp [d] w2 w8 := (HK6.out.trans (HK7.out.mono (by simp))).trans hk9
        have hk11 : Kp [d, r] w w8 := (HKX.out.trans (HK7.out.mono (by simp))).trans (hk9.mono (by simp))
        have hi : Inf w8 d r p q g { m with fl := m.fl.set k v, order := O1, cd := m.fl.set k v, row := [], ph := .len } out (b0.drop 3) false 0 := by
          refine H.out.turnW (c := some ⟨tc, 0, none⟩) hk11 ⟨hd8.cells, hd8.fl⟩ ⟨fun h => (by cases h), fun h => (by cases h), fun _ => ⟨tc, rfl, HTC.kept hk9 (fun x hx => .inl (by simp at hx; simp [hx]))⟩⟩ ⟨_, HR2.out.kept hk10 hrd, fun _ => rfl⟩ (fun h => own_zero h)
        exact hi.fin HS.out (by rw [HM.out, if_neg hs, if_pos HK8.out]) rfl (hk11.mono (by simp))
      · have j1 : ((K : Int) == 32768) = false := W.eqF (by omega)
        have j2 : ((K : Int) != 32768) = true := W.neT (by omega)
        go_wp2_with (first
          | (go_at_call 61; go_must (refine CK.out.mono ?_); rintro en w7 ⟨rfl, rfl⟩)
          | (go_at_call 47; go_must (refine (c_stop 12 HD6.out).mono ?_); rintro en w8 ⟨rfl, hd8, hk8⟩))
        go_ret
        exact H.out.done HS.out (by rw [HM.out, if_neg hs, if_neg hK8]) (HKX.out.trans (hk8.mono (by simp))) hd8 (Tbs.none (by show usesT m.ph = false; rw [hph]; rfl) (by show usesC m.ph = false; rw [hph]; rfl)) ((HR2.out.kept HK6.out hrd).kept hk8 hrd) (fun _ => rfl) rfl
  · have CT := Lib.hid (take_no hr hl (by omega) hle)
    have HS := Lib.hid (show step m out b0 = none by unfold step; rw [hph]; dsimp only; rw [if_neg hle])
    clear h hd hT hr
    go_enter Tryd.func58, Tryd.ntmps58
    go_wp2_with (first
      | (go_at_call 40; go_must (refine CT.out.mono ?_); rintro en w2 ⟨rfl, hr2, hk2⟩))
    go_ret
    exact H.out.wait hk2 hr2 HS.out
end Go.Proofs.YtjjcemdoefigkaaDoor.Hf
/- The inflater: fixed, head. -/
namespace Go.Proofs.YtjjcemdoefigkaaDoor.Hf
set_option linter.unusedVariables false
set_option linter.unusedSimpArgs false
open Go.RowKit Go.Proofs.YtjjcemdoefigkaaDoor.W

/-- A row of numbers that is being laid. -/
structure Lw (w0 w : World) (d x : Nat) (X : List Nat) : Prop where
  cells : w.heap[x]? = some (.cells (ints X).toArray 3 (0, 0))
  kp : Kp [d] w0 w
  x0 : w0.heap.size ≤ x
section
variable {w0 w w' : World} {d x : Nat} {X : List Nat}
theorem Lw.lt (h : Lw w0 w d x X) : x < w.heap.size := (Array.getElem?_eq_some_iff.1 h.cells).1
theorem Lw.fz (h : Lw w0 w d x X) : ∀ i, w.frozen? ⟨x, i, none⟩ = false := fun i => frozen_of_row w x i _ _ h.cells
theorem Lw.c (h : Lw w0 w d x X) {i n : Nat} (hi : X[i]? = some n) : w.cell? ⟨x, i, none⟩ = some (.int .i64 (n : Nat)) := by
  rw [cell_of_row w x i _ _ _ h.cells, List.getElem?_toArray]; exact ints_get hi
theorem Lw.set (h : Lw w0 w d x X) (i n : Nat) : Lw w0 (w.setCell ⟨x, i, none⟩ (.int .i64 (n : Nat))) d x (X.set i n) :=
  ⟨(heap_set h.cells _ _).trans (by rw [List.setIfInBounds_toArray, ints_set]), h.kp.setCell (.inr h.x0) _, h.x0⟩
theorem Lw.row (h : Lw w0 w d x X) : RV w (some ⟨x, 0, none⟩) (ints X) := fun i v hv =>
  ⟨x, 0, rfl, h.lt, by rw [cell_of_row w x (0 + i) _ _ _ h.cells, List.getElem?_toArray, Nat.zero_add]; exact hv⟩
theorem Lw.kept {T : List Nat} (h : Lw w0 w d x X) (hk : Kp T w w') (hT : ∀ k ∈ T, k = d) (hd : d < w0.heap.size) : Lw w0 w' d x X :=
  ⟨(hk.block x h.lt (fun hm => by have h1 := hT x hm; have h2 := h.x0; omega)).trans h.cells, h.kp.trans (hk.mono fun k hk' => .inl (by rw [hT k hk']; simp)), h.x0⟩
end
theorem Tb.sub {w : World} {S T : List Nat} {t : Nat} {lens : List Nat} (h : Tb w S t lens) (hs : ∀ k ∈ T, k ∈ S) : Tb w T t lens := by
  obtain ⟨b, h1, h2, h3⟩ := h.mp
  exact ⟨h.nums, fun hm => h.out (hs t hm), ⟨b, h1, h2, fun hm => h3 (hs b hm)⟩, h.ty⟩
theorem fixL_get : ∀ i : _root_.Fin 288, fixL[i.val]? = some (if 144 ≤ i.val ∧ i.val < 256 then 9 else if 256 ≤ i.val ∧ i.val < 280 then 7 else 8) := by decide +kernel
def part (F : List Nat) (i : Nat) (R : List Nat) : List Nat := F.take i ++ R.drop i
theorem part_set {F R : List Nat} {i v : Nat} (hF : F[i]? = some v) (hR : i < R.length) : (part F i R).set i v = part F (i + 1) R := by
  unfold part
  obtain ⟨h1, h2⟩ := List.getElem?_eq_some_iff.1 hF
  rw [List.set_append_right _ _ (by rw [List.length_take]; omega), List.length_take, Nat.min_eq_left (Nat.le_of_lt h1), Nat.sub_self, List.take_succ_eq_append_getElem h1, h2, List.append_assoc]
  congr 1
  rw [List.drop_eq_getElem_cons hR]
  rfl
theorem part_set2 {F R : List Nat} {i u v : Nat} (hF : F[i]? = some v) (hR : i < R.length) : ((part F i R).set i u).set i v = part F (i + 1) R := by
  rw [List.set_set, part_set hF hR]
theorem part_get {F R : List Nat} {i : Nat} (hF : i < F.length) (hR : i < R.length) : ∃ y, (part F i R)[i]? = some y := by
  unfold part
  exact ⟨_, List.getElem?_eq_getElem (by rw [List.length_append, List.length_take, List.length_drop]; omega)⟩
theorem part_zero (F R : List Nat) : part F 0 R = R := by simp [part]
theorem part_all (F R : List Nat) (h : F.length = R.length) : part F R.length R = F := by unfold part; rw [← h, List.take_length, h, List.drop_length, List.append_nil]
def z288 : List Nat := List.replicate 288 0
def five : List Nat := List.replicate 288 5
theorem newOk_fixL : newOk fixL = true := by decide +kernel
theorem newOk_fixD : newOk fixD = true := by decide +kernel
set_option maxHeartbeats 4000000 in
set_option maxRecDepth 100000 in
theorem c_fixed {w : World} {d r p g : Nat} {l e c : Option Addr} {m : M} {rdy : Bool} {o : Int} (D : List Nat) (hD : ∀ k ∈ D, k < w.heap.size) (hdD : d ∈ D) (h : DB w d r p g l e c m rdy o) :
    Calls Tryd.prog 44 #[.pointer (some ⟨d, 0, none⟩)] w fun en w' => en = .returned (.tuple #[]) ∧ ∃ ta tb, DB w' d r p g (some ⟨ta, 0, none⟩) (some ⟨tb, 0, none⟩) c m rdy o ∧ Tb w' D ta fixL ∧ Tb w' D tb fixD ∧ Kp [d] w w' := by
  have HD := Lib.hid h
  have HDD := Lib.hid hD
  have HDM := Lib.hid hdD
  have hlt := h.lt
  have hmk : Sem.run Tryd.prog (Instr.makeSlice 49 (.int .i64 288) (.int .i64 288)) w = .ok (.slice (some ⟨w.heap.size, 0, none⟩) 288 288) (w.alloc (.cells (madeCells (Value.int .i64 0).cells 288) 3)) := run_mk int8 .i64 .i64 (Nat.le_refl 288) (by omega) (by omega) w
  have hcs : madeCells (Value.int .i64 0).cells 288 = (ints z288).toArray := by
    apply Array.toList_inj.1
    rw [show (Value.int .i64 0).cells = #[Value.int .i64 0] from rfl, toList_madeCells_one]
    simp [ints, z288]
  rw [hcs] at hmk
  have HL0 := Lib.hid (show Lw w (w.alloc (.cells (ints z288).toArray 3)) d w.heap.size (part fixL 0 z288) from ⟨by rw [part_zero]; exact heap_alloc_new _ _, (Kp.refl _ _).alloc _, Nat.le_refl _⟩)
  clear h hD hdD hcs
  go_enter Tryd.func44, Tryd.ntmps44
  go_upto_block 0 with (fail)
  obtain ⟨x, hx⟩ : ∃ x, w.heap.size = x := ⟨_, rfl⟩
  rw [hx] at HL0
  rw [hx]
  have HK01 := Lib.hid (show Kp [] w (w.alloc (.cells (ints z288).toArray 3)) from (Kp.refl _ _).alloc _)
  generalize w.alloc (.cells (ints z288).toArray 3) = w1 at *
  have HX := Lib.hid hx
  clear hmk hx
  have HDB1 := Lib.hid (show DB w1 d r p g l e c m rdy o from HD.out.kept HK01.out (by simp))
  go_cut [] (fun wz => Lw w wz d x fixL ∧ DB wz d r p g l e c m rdy o)
  case first =>
    go_wp2_with (fail)
    go_loopg [8] 288 (fun g' s8 wx => ∃ i : Nat, i + g' = 288 ∧ s8 = .int .i64 i ∧ Lw w wx d x (part fixL i z288) ∧ DB wx d r p g l e c m rdy o)
    case atStart => exact ⟨0, by omega, rfl, HL0.out, HDB1.out⟩
    case round =>
      obtain ⟨i, hig, rfl, hL, hB⟩ := hrel
      have HB := Lib.hid hB
      have hxd : ¬ x = d := by have h1 := hL.x0; have h2 := HD.out.lt; omega
      have HKX := Lib.hid (show ∀ (wq : World) (i : Nat) (v : Value), DB wq d r p g l e c m rdy o → DB (wq.setCell ⟨x, i, none⟩ v) d r p g l e c m rdy o from fun wq i v h => h.kept (S := [x]) (kp_set (by simp) i v) (by simp; exact fun h => hxd h.symm))
      clear hB
      cases gk with
      | zero =>
        obtain rfl : i = 288 := by omega
        have HLq := Lib.hid hL
        go_wp2_with (fail)
        go_meet
        have h9 := HLq.out
        rw [show part fixL 288 z288 = fixL from part_all fixL z288 (by decide +kernel)] at h9
        exact ⟨h9, HB.out⟩
      | succ g' =>
        have hk : (i : Int) < 288 := by omega
        obtain ⟨y, hy⟩ := part_get (F := fixL) (R := z288) (i := i) (by rw [show fixL.length = 288 by decide +kernel]; omega) (by rw [show z288.length = 288 by decide +kernel]; omega)
        have hcy := hL.c hy
        have hf := hL.fz
        have hl := hL.lt
        have hg := fixL_get ⟨i, by omega⟩
        dsimp only at hg
        have hz : i < z288.length := by rw [show z288.length = 288 by decide +kernel]; omega
        have HLq := Lib.hid hL
        have HG := Lib.hid hg
        have HZ := Lib.hid hz
        clear hL hy hg hz
        by_cases c1 : 144 ≤ i ∧ i < 256
        · have HV := Lib.hid (part_set2 (u := 8) (HG.out.trans (by rw [if_pos c1])) HZ.out)
          have i1 : (144 : Int) ≤ (i : Int) := by omega
          have i2 : (i : Int) < 256 := by omega
          clear c1
          go_wp2_with (fail)
          go_roundg g'
          case measure => omega
          case rel => exact ⟨i + 1, by omega, by go_num, by rw [← HV.out]; exact (HLq.out.set i 8).set i 9, HKX.out _ _ _ (HKX.out _ _ _ HB.out)⟩
        · by_cases c2 : 256 ≤ i ∧ i < 280
          · have HV := Lib.hid (part_set2 (u := 8) (HG.out.trans (by rw [if_neg c1, if_pos c2])) HZ.out)
            have i1 : (144 : Int) ≤ (i : Int) := by omega
            have i2 : ¬ (i : Int) < 256 := by omega
            have i3 : (256 : Int) ≤ (i : Int) := by omega
            have i4 : (i : Int) < 280 := by omega
            clear c1 c2
            go_wp2_with (fail)
            go_roundg g'
            case measure => omega
            case rel => exact ⟨i + 1, by omega, by go_num, by rw [← HV.out]; exact (HLq.out.set i 8).set i 7, HKX.out _ _ _ (HKX.out _ _ _ HB.out)⟩
          · have HV := Lib.hid (part_set (HG.out.trans (by rw [if_neg c1, if_neg c2])) HZ.out)
            by_cases c3 : i < 144
            · have i1 : ¬ (144 : Int) ≤ (i : Int) := by omega
              have i3 : ¬ (256 : Int) ≤ (i : Int) := by omega
              clear c1 c2
              go_wp2_with (fail)
              go_roundg g'
              case measure => omega
              case rel => exact ⟨i + 1, by omega, by go_num, by rw [← HV.out]; exact HLq.out.set i 8, HKX.out _ _ _ HB.out⟩
            · have i1 : (144 : Int) ≤ (i : Int) := by omega
              have i2 : ¬ (i : Int) < 256 := by omega
              have i3 : (256 : Int) ≤ (i : Int) := by omega
              have i4 : ¬ (i : Int) < 280 := by omega
              clear c1 c2
              go_wp2_with (fail)
              go_roundg g'
              case measure => omega
              case rel => exact ⟨i + 1, by omega, by go_num, by rw [← HV.out]; exact HLq.out.set i 8, HKX.out _ _ _ HB.out⟩
  case rest =>
    obtain ⟨hcut, hDB⟩ := hcut
    have HLc := Lib.hid hcut
    have hcl := hcut.lt
    have hxw := hcut.x0
    have HN := Lib.hid (c_new1 (some ⟨x, 0, none⟩) 288 288 fixL wc (by decide +kernel) (by omega) (Tab.fixL.le) hcut.row)
    have HK1 := Lib.hid hcut.kp
    have HSZ := Lib.hid (show ∀ k ∈ x :: D, k < wc.heap.size from fun k hk => by
      rcases List.mem_cons.1 hk with h9 | h9
      · rw [h9]; exact hcl
      · exact Nat.lt_of_lt_of_le (HDD.out k h9) hcut.kp.size)
    have hcd := hDB.lt
    clear hcut
    go_upto_block 2 with (first
      | (go_at_call 53; go_must (refine HN.out.mono ?_); rintro en w2 ⟨pt, er, rfl, hyes, hno, hk2⟩; have HY := Lib.hid (hyes newOk_fixL); have HK2 := Lib.hid hk2; clear hyes hno hk2; have HD2 := Lib.hid (hDB.kept HK2.out (by simp)); have g8 := HD2.out.a (i := 8) rfl; have gf := HD2.out.fz; have gl := HD2.out.lt))
    obtain ⟨rfl, ta, rfl, hTA⟩ := HY.out
    have HD3 := Lib.hid (HD2.out.setL (some ⟨ta, 0, none⟩))
    have hk3 : Kp [d] w2 (w2.setCell ⟨d, 8, none⟩ (.pointer (some ⟨ta, 0, none⟩))) := kp_set (by simp) _ _
    have HTA := Lib.hid (((hTA (x :: D) (fun k hk => HSZ.out k hk))).kept hk3 (fun k hk => .inl (by simp at hk; rw [hk]; exact List.mem_cons_of_mem _ HDM.out)))
    have HL3 := Lib.hid (show Lw w (w2.setCell ⟨d, 8, none⟩ (.pointer (some ⟨ta, 0, none⟩))) d x (part five 0 fixL) from by
      rw [part_zero]
      exact HLc.out.kept ((HK2.out.mono (T := [d]) (by simp)).trans hk3) (by simp) HD.out.lt)
    have hxd : ¬ x = d := by have h2 := HD.out.lt; omega
    have HKX := Lib.hid (show ∀ (wq : World) (i : Nat) (v : Value), DB wq d r p g (some ⟨ta, 0, none⟩) e c m rdy o ∧ Tb wq (x :: D) ta fixL → DB (wq.setCell ⟨x, i, none⟩ v) d r p g (some ⟨ta, 0, none⟩) e c m rdy o ∧ Tb (wq.setCell ⟨x, i, none⟩ v) (x :: D) ta fixL from fun wq i v h => ⟨h.1.kept (S := [x]) (kp_set (by simp) i v) (by simp; exact fun h => hxd h.symm), h.2.kept (T := [x]) (kp_set (by simp) i v) (fun k hk => .inl (by simp at hk; rw [hk]; exact List.mem_cons_self ..))⟩)
    clear hTA hk3 gf gl g8 hcd hcl hDB
    generalize w2.setCell ⟨d, 8, none⟩ (.pointer (some ⟨ta, 0, none⟩)) = w3 at *
    go_cut [] (fun wz => Lw w wz d x (part five 32 fixL) ∧ DB wz d r p g (some ⟨ta, 0, none⟩) e c m rdy o ∧ Tb wz (x :: D) ta fixL)
    case first =>
      go_wp2_with (fail)
      go_loopg [41] 32 (fun g' s41 wx => ∃ i : Nat, i + g' = 32 ∧ s41 = .int .i64 i ∧ Lw w wx d x (part five i fixL) ∧ DB wx d r p g (some ⟨ta, 0, none⟩) e c m rdy o ∧ Tb wx (x :: D) ta fixL)
      case atStart => exact ⟨0, by omega, rfl, HL3.out, HD3.out, HTA.out⟩
      case round =>
        obtain ⟨i, hig, rfl, hL, hB⟩ := hrel
        have HB := Lib.hid hB
        have HLq := Lib.hid hL
        cases gk with
        | zero =>
          obtain rfl : i = 32 := by omega
          go_wp2_with (fail)
          go_meet
          exact ⟨HLq.out, HB.out⟩
        | succ g' =>
          have hk : (i : Int) < 32 := by omega
          have hk288 : (i : Int) < 288 := by omega
          obtain ⟨y, hy⟩ := part_get (F := five) (R := fixL) (i := i) (by rw [show five.length = 288 by decide +kernel]; omega) (by rw [show fixL.length = 288 by decide +kernel]; omega)
          have hcy := hL.c hy
          have hf := hL.fz
          have hl := hL.lt
          have HV := Lib.hid (part_set (F := five) (R := fixL) (i := i) (v := 5) (by unfold five; rw [List.getElem?_replicate, if_pos (by omega)]) (by rw [show fixL.length = 288 by decide +kernel]; omega))
          clear hL hB hy
          go_wp2_with (fail)
          go_roundg g'
          case measure => omega
          case rel => exact ⟨i + 1, by omega, by go_num, by rw [← HV.out]; exact HLq.out.set i 5, HKX.out _ _ _ HB.out⟩
    case rest =>
      obtain ⟨hL, hB, hTb⟩ := hcut
      have hF : (part five 32 fixL).take 32 = fixD := by decide +kernel
      have HN2 := Lib.hid (c_new1 (some ⟨x, 0, none⟩) 32 288 fixD wc (by decide +kernel) (by omega) (Tab.fixD.le) (by rw [← hF, show ints ((part five 32 fixL).take 32) = (ints (part five 32 fixL)).take 32 by simp [ints, List.map_take]]; exact hL.row.take 32))
      have HBc := Lib.hid hB
      have HTc := Lib.hid hTb
      have HKc := Lib.hid hL.kp
      have HSD := Lib.hid (show ∀ k ∈ D, k < wc.heap.size from fun k hk => Nat.lt_of_lt_of_le (HDD.out k hk) hL.kp.size)
      have hcd := hB.lt
      clear hL hB hTb hF
      go_wp2_with (first
        | (go_at_call 53; go_must (refine HN2.out.mono ?_); rintro en w5 ⟨pt, er, rfl, hyes, hno, hk5⟩; have HY5 := Lib.hid (hyes newOk_fixD); have HK5 := Lib.hid hk5; clear hyes hno hk5; have HD5 := Lib.hid (HBc.out.kept HK5.out (by simp)); have g9 := HD5.out.a (i := 9) rfl; have gf := HD5.out.fz; have gl := HD5.out.lt))
      refine bodyPost_end (results_none rfl _ _ _) rfl ?_
      obtain ⟨rfl, tb, rfl, hTB⟩ := HY5.out
      have hk6 : Kp [d] w5 (w5.setCell ⟨d, 9, none⟩ (.pointer (some ⟨tb, 0, none⟩))) := kp_set (by simp) _ _
      exact ⟨rfl, ta, tb, HD5.out.setE _, ((HTc.out.kept (HK5.out.mono (T := [d]) (by simp)) (fun k hk => .inl (by simp at hk; rw [hk]; exact List.mem_cons_of_mem _ HDM.out))).kept hk6 (fun k hk => .inl (by simp at hk; rw [hk]; exact List.mem_cons_of_mem _ HDM.out))).sub (fun k hk => List.mem_cons_of_mem _ hk), (hTB D (fun k hk => HSD.out k hk)).kept hk6 (fun k hk => .inl (by simp at hk; rw [hk]; exact HDM.out)), (HKc.out.trans (HK5.out.mono (by simp))).trans hk6⟩
set_option maxHeartbeats 8000000 in
set_option maxRecDepth 100000 in
theorem c_head {w : World} {d r p q g : Nat} {m : M} {out : List Int} {bs : List Bool} (h : Inf w d r p q g m out bs false 0) (h0 : m.why = 0) (hph : m.ph = .head) (hl : bs.length < 64) :
    Calls Tryd.prog 36 #[.pointer (some ⟨d, 0, none⟩)] w (StepPost w d r p q g m out bs) := by
  obtain ⟨l, e, c, hd, hT⟩ := h.db
  obtain ⟨b0, hr, hb⟩ := h.rd
  obtain rfl := hb h0
  have hne := h.ne
  simp only [List.nodup_cons, List.mem_cons, List.not_mem_nil, or_false, not_or] at hne
  have hdr : d ∉ [r] := by simp; exact hne.1.1
  have hrd : r ∉ [d] := by simp; exact fun h => hne.1.1 h.symm
  have c0 := hd.a (i := 0) rfl
  have hlt := hd.lt
  have H := Lib.hid h
  have HD := Lib.hid hd
  have HT := Lib.hid hT
  by_cases hle : 3 ≤ b0.length
  · have CT := Lib.hid (take_yes hr hl (by omega) hle)
    have hv := num_take_lt b0 (n := 3)
    obtain ⟨v, hv'⟩ : ∃ v, num (b0.take 3) = v := ⟨_, rfl⟩
    rw [hv'] at CT hv
    have HS := Lib.hid (show step m out b0 = some (headM m v ((b0.length - 3) % 8)) by unfold step; rw [hph]; dsimp only; rw [if_pos hle, hv'])
    obtain ⟨A, hA⟩ : ∃ A, v % 2 = A := ⟨_, rfl⟩
    obtain ⟨B, hB⟩ : ∃ B, v / 2 = B := ⟨_, rfl⟩
    have e1 : bits .and .u32 (v : Int) 1 = (A : Int) := by rw [← hA]; exact u32_low (k := 1) (M := 1) rfl (by omega) (by omega)
    have e2 : (v : Int) / 2 = (B : Int) := by omega
    have hAB : A < 2 ∧ B < 4 := by omega
    have HA := Lib.hid hA
    have HB := Lib.hid hB
    have HSZ := Lib.hid h.lts
    have HLEN := Lib.hid (show (b0.drop 3).length = b0.length - 3 from by rw [List.length_drop])
    obtain ⟨lst, hlst⟩ : ∃ lst, decide (v % 2 = 1) = lst := ⟨_, rfl⟩
    have e3 : ((A : Int) == 1) = lst := by
      rw [← hlst, hA]
      by_cases h1 : A = 1
      · rw [W.decT h1, W.eqT (by omega)]
      · rw [W.decF h1, W.eqF (by omega)]
    have HLST := Lib.hid hlst
    clear hv' hA hB h hd hT hr hlst
    obtain rfl | rfl | rfl | rfl : B = 0 ∨ B = 1 ∨ B = 2 ∨ B = 3 := by omega
    · go_enter Tryd.func36, Tryd.ntmps36
      go_wp2_with (first
        | (go_at_call 40; go_must (refine CT.out.mono ?_); rintro en w2 ⟨rfl, hr2, hk2⟩; have HR2 := Lib.hid hr2; have HK2 := Lib.hid hk2; have HD2 := Lib.hid (HD.out.kept hk2 hdr); have g3 := HD2.out.a (i := 3) rfl; have g0 := HD2.out.a (i := 0) rfl; have gf := HD2.out.fz; have gl := HD2.out.lt; clear hr2 hk2)
        | (go_at_call 41; go_must (refine (c_align r (b0.drop 3) _ (HR2.out.kept (kp_set (S := [d]) (by simp) 3 (.bool lst)) hrd) (by rw [HLEN.out]; omega)).mono ?_); rintro en w3 ⟨⟨z, rfl⟩, hr3, hk3⟩; have HR3 := Lib.hid hr3; have HK3 := Lib.hid hk3; clear hr3 hk3; have HD3 := Lib.hid ((HD2.out.last lst).kept HK3.out hdr))
        | (go_at_call 42; go_must (refine (c_then .sth HD3.out).mono ?_); rintro en w4 ⟨rfl, hd4, hk4⟩))
      go_ret
      have hks : Kp [d] w2 (w2.setCell ⟨d, 3, none⟩ (.bool lst)) := kp_set (by simp) _ _
      have hk5 : Kp [d, r] w2 w4 := ((hks.mono (by simp)).trans (HK3.out.mono (by simp))).trans (hk4.mono (by simp))
      have h9 : (b0.drop 3).drop ((b0.drop 3).length % 8) = b0.drop (3 + (b0.length - 3) % 8) := by rw [List.drop_drop, HLEN.out]
      exact H.out.done HS.out (by unfold headM; rw [HB.out, HLST.out]; rfl) ((HK2.out.mono (by simp)).trans hk5) hd4 (Tbs.none rfl rfl) (HR3.out.kept hk4 hrd) (fun _ => h9) rfl
    · go_enter Tryd.func36, Tryd.ntmps36
      go_wp2_with (first
        | (go_at_call 40; go_must (refine CT.out.mono ?_); rintro en w2 ⟨rfl, hr2, hk2⟩; have HR2 := Lib.hid hr2; have HK2 := Lib.hid hk2; have HD2 := Lib.hid (HD.out.kept hk2 hdr); have g3 := HD2.out.a (i := 3) rfl; have g0 := HD2.out.a (i := 0) rfl; have gf := HD2.out.fz; have gl := HD2.out.lt; clear hr2 hk2)
        | (go_at_call 44; go_must (refine (c_fixed [d, r, p, q, g] (fun k hk => Nat.lt_of_lt_of_le (Nat.lt_of_lt_of_le (HSZ.out k hk) HK2.out.size) (kp_set (S := [d]) (by simp) 3 (.bool lst)).size) (by simp) (HD2.out.last lst)).mono ?_); rintro en w3 ⟨rfl, ta, tb, hd3, hta, htb, hk3⟩; have HD3 := Lib.hid hd3; have HTA := Lib.hid hta; have HTB := Lib.hid htb; have HK3 := Lib.hid hk3; clear hd3 hta htb hk3)
        | (go_at_call 42; go_must (refine (c_then .lit HD3.out).mono ?_); rintro en w4 ⟨rfl, hd4, hk4⟩))
      go_ret
      have hks : Kp [d] w2 (w2.setCell ⟨d, 3, none⟩ (.bool lst)) := kp_set (by simp) _ _
      have hk5 : Kp [d] w2 w4 := (hks.trans HK3.out).trans hk4
      exact H.out.done (m' := { m with last := lst, lt := fixL, ds := fixD, ph := .lit }) HS.out (by unfold headM; rw [HB.out, HLST.out]; rfl) ((HK2.out.mono (by simp)).trans (hk5.mono (by simp))) ⟨hd4.cells, hd4.fl⟩ ⟨fun _ => ⟨ta, rfl, HTA.out.kept hk4 (fun k hk => .inl (by simp at hk; simp [hk]))⟩, fun _ => ⟨tb, rfl, HTB.out.kept hk4 (fun k hk => .inl (by simp at hk; simp [hk]))⟩, fun h => (by cases h)⟩ (HR2.out.kept hk5 hrd) (fun _ => rfl) rfl
    · go_enter Tryd.func36, Tryd.ntmps36
      go_wp2_with (first
        | (go_at_call 40; go_must (refine CT.out.mono ?_); rintro en w2 ⟨rfl, hr2, hk2⟩; have HR2 := Lib.hid hr2; have HK2 := Lib.hid hk2; have HD2 := Lib.hid (HD.out.kept hk2 hdr); have g3 := HD2.out.a (i := 3) rfl; have g0 := HD2.out.a (i := 0) rfl; have gf := HD2.out.fz; have gl := HD2.out.lt; clear hr2 hk2)
        | (go_at_call 42; go_must (refine (c_then .cts (HD2.out.last lst)).mono ?_); rintro en w4 ⟨rfl, hd4, hk4⟩))
      go_ret
      have hks : Kp [d] w2 (w2.setCell ⟨d, 3, none⟩ (.bool lst)) := kp_set (by simp) _ _
      have hk5 : Kp [d] w2 w4 := hks.trans hk4
      exact H.out.done HS.out (by unfold headM; rw [HB.out, HLST.out]; rfl) ((HK2.out.mono (by simp)).trans (hk5.mono (by simp))) hd4 (Tbs.none rfl rfl) (HR2.out.kept hk5 hrd) (fun _ => rfl) rfl
    · go_enter Tryd.func36, Tryd.ntmps36
      go_wp2_with (first
        | (go_at_call 40; go_must (refine CT.out.mono ?_); rintro en w2 ⟨rfl, hr2, hk2⟩; have HR2 := Lib.hid hr2; have HK2 := Lib.hid hk2; have HD2 := Lib.hid (HD.out.kept hk2 hdr); have g3 := HD2.out.a (i := 3) rfl; have g0 := HD2.out.a (i := 0) rfl; have gf := HD2.out.fz; have gl := HD2.out.lt; clear hr2 hk2)
        | (go_at_call 47; go_must (refine (c_stop 10 (HD2.out.last lst)).mono ?_); rintro en w4 ⟨rfl, hd4, hk4⟩))
      go_ret
      have hks : Kp [d] w2 (w2.setCell ⟨d, 3, none⟩ (.bool lst)) := kp_set (by simp) _ _
      have hk5 : Kp [d] w2 w4 := hks.trans hk4
      exact H.out.done HS.out (by unfold headM; rw [HB.out, HLST.out]; rfl) ((HK2.out.mono (by simp)).trans (hk5.mono (by simp))) hd4 (Tbs.none (by show usesT m.ph = false; rw [hph]; rfl) (by show usesC m.ph = false; rw [hph]; rfl)) (HR2.out.kept hk5 hrd) (fun _ => rfl) rfl
  · have CT := Lib.hid (take_no hr hl (by omega) hle)
    have HS := Lib.hid (show step m out b0 = none by unfold step; rw [hph]; dsimp only; rw [if_neg hle])
    clear h hd hT hr
    go_enter Tryd.func36, Tryd.ntmps36
    go_wp2_with (first
      | (go_at_call 40; go_must (refine CT.out.mono ?_); rintro en w2 ⟨rfl, hr2, hk2⟩))
    go_ret
    exact H.out.wait hk2 hr2 HS.out
end Go.Proofs.YtjjcemdoefigkaaDoor.Hf
/- The inflater: any step; advance. -/
namespace Go.Proofs.YtjjcemdoefigkaaDoor.Hf
set_option linter.unusedVariables false
set_option linter.unusedSimpArgs false
open Go.RowKit Go.Proofs.YtjjcemdoefigkaaDoor.W

theorem c_step {w : World} {d r p q g : Nat} {m : M} {out : List Int} {bs : List Bool} (h : Inf w d r p q g m out bs false 0) (h0 : m.why = 0) (hl : bs.length < 64) (hok : Ok m out) (hG : Gt w [d, r, p, q, g]) :
    Calls Tryd.prog (phF m.ph) #[.pointer (some ⟨d, 0, none⟩)] w (StepPost w d r p q g m out bs) := by
  have hp := hok.ph h0
  unfold PhOk at hp
  cases hph : m.ph with
  | head => exact c_head h h0 hph hl
  | sth => exact c_sth h h0 hph hl
  | sto => rw [hph] at hp; exact c_sto h h0 hph hl hp
  | cts => exact c_cts h h0 hph hl
  | lol => exact c_lol h h0 hph hl hok hG
  | len => exact c_len h h0 hph hl hok
  | rep => exact c_rep h h0 hph hl hok
  | lit => rw [hph] at hp; exact c_lit h h0 hph hl hp.lt
  | lbits => rw [hph] at hp; exact c_lbits h h0 hph hl hp.2 hG
  | dst => rw [hph] at hp; exact c_dst h h0 hph hl hp.1.ds
  | dbits => rw [hph] at hp; exact c_dbits h h0 hph hl hp.2.2 hG
  | cpy => exact c_cpy h h0 hph hok
def Mid (m : M) (out : List Int) (bs : List Bool) (m1 : M) (out1 : List Int) (bs1 : List Bool) (rdy1 : Bool) (o1 : Int) : Prop :=
  (rdy1 = false ∧ o1 = 0 ∧ ∀ m' out' bs' r', Adv m1 out1 bs1 m' out' bs' r' → Adv m out bs m' out' bs' r') ∨ (rdy1 = true ∧ Adv m out bs m1 out1 bs1 true ∧ ∃ o0, out1 = o0 ++ [o1])
def AdvPost (w : World) (d r p q g : Nat) (m : M) (out : List Int) (bs : List Bool) (en : Ending) (w' : World) : Prop :=
  en = .returned (.tuple #[]) ∧ ∃ m' out' bs' rdy o, Adv m out bs m' out' bs' rdy ∧ Inf w' d r p q g m' out' bs' rdy o ∧ Ok m' out' ∧ bs'.length ≤ bs.length ∧ Kp [d, r, p, q, g] w w' ∧ (rdy = false → o = 0) ∧ (rdy = true → ∃ o0, out' = o0 ++ [o])
theorem step_gives {m : M} {out : List Int} {bs : List Bool} {rr : Out} (h : step m out bs = some rr) : rr.2.1 = [] ∨ ∃ b, rr.2.1 = [b] := by
  unfold step at h
  have hif : ∀ {c : Prop} [Decidable c] {x : Out}, (if c then some x else none) = some rr → (x.2.1 = [] ∨ ∃ b, x.2.1 = [b]) → rr.2.1 = [] ∨ ∃ b, rr.2.1 = [b] := fun h1 h2 => by
    split at h1
    · injection h1 with h1; subst h1; exact h2
    · cases h1
  cases hph : m.ph with
  | head =>
    rw [hph] at h
    refine hif h ?_
    unfold headM
    rcases num (bs.take 3) / 2 with _ | _ | _ | _ <;> exact .inl rfl
  | sth => rw [hph] at h; exact hif h (.inl rfl)
  | sto =>
    rw [hph] at h
    dsimp only at h
    split at h
    · injection h with h; subst h; exact .inl rfl
    · exact hif h (.inr ⟨_, rfl⟩)
  | cts => rw [hph] at h; exact hif h (.inl rfl)
  | lol => rw [hph] at h; exact hif h (.inl rfl)
  | len =>
    rw [hph] at h
    dsimp only at h
    split at h
    · injection h with h; subst h; exact .inl rfl
    · cases h
  | rep => rw [hph] at h; exact hif h (.inl rfl)
  | lit =>
    rw [hph] at h
    dsimp only at h
    split at h
    · injection h with h
      subst h
      unfold litM
      split
      · exact .inl rfl
      · split
        · exact .inr ⟨_, rfl⟩
        · split <;> exact .inl rfl
    · injection h with h; subst h; exact .inl rfl
    · cases h
  | lbits => rw [hph] at h; exact hif h (.inl rfl)
  | dst =>
    rw [hph] at h
    dsimp only at h
    split at h
    · injection h with h; subst h; exact .inl rfl
    · injection h with h; subst h; exact .inl rfl
    · cases h
  | dbits => rw [hph] at h; exact hif h (.inl rfl)
  | cpy => rw [hph] at h; injection h with h; subst h; exact .inr ⟨_, rfl⟩
theorem run_enter {P : Program} {f : FuncId} {fn : Func} (hf : P.funcs[f]? = some fn) (hname : (fn.name == "runtime.NumGoroutine") = false) (hb : fn.body.isSome = true) (args : Array Value) (w : World) : (callFunc f args).run P w = .ok (.enter f args) w := by
  have h1 : fn.name ≠ "runtime.NumGoroutine" := by simpa using hname
  obtain ⟨c, hc⟩ := Option.isSome_iff_exists.1 hb
  simp [callFunc, hf, h1, hc]
theorem ph_enter (x : Ph) (args : Array Value) (w : World) : Sem.run Tryd.prog (callFunc (phF x) args) w = .ok (.enter (phF x) args) w := by
  cases x with
  | head => exact run_enter Tryd.func36 (by kernel_rfl) rfl args w
  | sth => exact run_enter Tryd.func43 (by kernel_rfl) rfl args w
  | sto => exact run_enter Tryd.func52 (by kernel_rfl) rfl args w
  | cts => exact run_enter Tryd.func46 (by kernel_rfl) rfl args w
  | lol => exact run_enter Tryd.func58 (by kernel_rfl) rfl args w
  | len => exact run_enter Tryd.func67 (by kernel_rfl) rfl args w
  | rep => exact run_enter Tryd.func71 (by kernel_rfl) rfl args w
  | lit => exact run_enter Tryd.func45 (by kernel_rfl) rfl args w
  | lbits => exact run_enter Tryd.func57 (by kernel_rfl) rfl args w
  | dst => exact run_enter Tryd.func66 (by kernel_rfl) rfl args w
  | dbits => exact run_enter Tryd.func69 (by kernel_rfl) rfl args w
  | cpy => exact run_enter Tryd.func74 (by kernel_rfl) rfl args w
set_option maxHeartbeats 4000000 in
set_option maxRecDepth 100000 in
theorem c_advance {w : World} {d r p q g : Nat} {m : M} {out : List Int} {bs : List Bool} (h : Inf w d r p q g m out bs false 0) (hl : bs.length < 64) (hok : Ok m out) (hG : Gt w [d, r, p, q, g]) :
    Calls Tryd.prog 24 #[.pointer (some ⟨d, 0, none⟩)] w (AdvPost w d r p q g m out bs) := by
  have H := Lib.hid h
  have HOK := Lib.hid hok
  have HG := Lib.hid hG
  clear h hok hG
  go_enter Tryd.func24, Tryd.ntmps24
  go_wp2_with (fail)
  go_loopg [] (1000 * bs.length + rank m) (fun gk wx => ∃ m1 out1 bs1 rdy1 o1, Inf wx d r p q g m1 out1 bs1 rdy1 o1 ∧ Kp [d, r, p, q, g] w wx ∧ Ok m1 out1 ∧ bs1.length ≤ bs.length ∧ Mid m out bs m1 out1 bs1 rdy1 o1 ∧ 1000 * bs1.length + rank m1 ≤ gk)
  case atStart => exact ⟨m, out, bs, false, 0, H.out, Kp.refl _ _, HOK.out, Nat.le_refl _, .inl ⟨rfl, rfl, fun _ _ _ _ h => h⟩, Nat.le_refl _⟩
  case round =>
    obtain ⟨m1, out1, bs1, rdy1, o1, hI, hK, hOk, hlen, hmid, hmeas⟩ := hrel
    obtain ⟨l, e, c, hd, hT⟩ := hI.db
    have c6 := hd.a (i := 6) rfl
    have c4 := hd.a (i := 4) rfl
    have c5 := hd.a (i := 5) rfl
    have c2 := hd.a (i := 2) rfl
    have hlt := hd.lt
    have HI := Lib.hid hI
    have HK := Lib.hid hK
    have HO := Lib.hid hOk
    have HL := Lib.hid hlen
    have HM := Lib.hid hmeas
    have HMID := Lib.hid hmid
    clear hI hK hOk hmeas hd hT hmid
    rcases HMID.out with ⟨rfl, rfl, hadv⟩ | ⟨rfl, hadv, o0, ho0⟩
    · have HA := Lib.hid hadv
      clear hadv HMID
      by_cases hlive : Live m1
      · obtain ⟨hw0, hf0⟩ := hlive
        have CS := Lib.hid (c_step HI.out hw0 (by omega) HO.out (HG.out.kept HK.out (fun k hk => hk)))
        rw [hf0] at c4
        rw [hw0] at c5
        have HLV := Lib.hid (show Live m1 from ⟨hw0, hf0⟩)
        have HW0 := Lib.hid hw0
        clear hw0 hf0
        have hen := ph_enter m1.ph #[.pointer (some ⟨d, 0, none⟩)] wr
        generalize phF m1.ph = fn at *
        go_wp2_with (first
          | (refine CS.out.mono ?_; rintro en w2 (⟨hs, rfl, hi, hk⟩ | ⟨rr, hs, rfl, hi, hk⟩)))
        · refine bodyPost_end (results_none rfl _ _ _) rfl ?_
          exact ⟨rfl, m1, out1, bs1, false, 0, HA.out _ _ _ _ (.wait HLV.out hs), hi, HO.out, HL.out, HK.out.trans hk, fun _ => rfl, fun h => (by cases h)⟩
        · have hlt2 := step_meas HO.out HW0.out hs
          have hku := (step_take m1 out1 bs1 (Nat.le_refl _) rfl).1 rr hs
          have hok2 := HO.out.step HW0.out hs
          have hm9 := HM.out
          have hl9 := HL.out
          go_roundg (1000 * (bs1.length - rr.2.2) + rank rr.1)
          case measure => omega
          case rel =>
            obtain ⟨m2, gv, k⟩ := rr
            dsimp only at *
            rcases step_gives hs with h9 | ⟨b, h9⟩
            · dsimp only at h9
              subst h9
              rw [List.append_nil] at hi hok2
              exact ⟨m2, out1, bs1.drop k, false, 0, hi, HK.out.trans hk, hok2, by rw [List.length_drop]; omega, .inl ⟨rfl, rfl, fun m' out' bs' r' h => HA.out _ _ _ _ (.go HLV.out hs h)⟩, by rw [List.length_drop]; omega⟩
            · dsimp only at h9
              subst h9
              exact ⟨m2, out1 ++ [b], bs1.drop k, true, b, hi, HK.out.trans hk, hok2, by rw [List.length_drop]; omega, .inr ⟨rfl, HA.out _ _ _ _ (.give HLV.out hs), out1, rfl⟩, by rw [List.length_drop]; omega⟩
      · have FIN := Lib.hid (show AdvPost w d r p q g m out bs (.returned (.tuple #[])) wr from ⟨rfl, m1, out1, bs1, false, 0, HA.out _ _ _ _ (.dead hlive), HI.out, HO.out, HL.out, HK.out, fun _ => rfl, fun h => (by cases h)⟩)
        by_cases hf : m1.fin = true
        · rw [hf] at c4
          clear hlive hf
          go_wp2_with (fail)
          refine bodyPost_end (results_none rfl _ _ _) rfl ?_
          exact FIN.out
        · have hf2 : m1.fin = false := by cases h9 : m1.fin with
            | false => rfl
            | true => exact absurd h9 hf
          have hw : ¬ m1.why = 0 := fun h9 => hlive ⟨h9, hf2⟩
          have hw2 : ((m1.why : Int) == 0) = false := W.eqF (by omega)
          rw [hf2] at c4
          clear hlive hf hf2 hw
          go_wp2_with (fail)
          refine bodyPost_end (results_none rfl _ _ _) rfl ?_
          exact FIN.out
    · clear HMID
      have FIN := Lib.hid (show AdvPost w d r p q g m out bs (.returned (.tuple #[])) wr from ⟨rfl, m1, out1, bs1, true, o1, hadv, HI.out, HO.out, HL.out, HK.out, fun h => (by cases h), fun _ => ⟨o0, ho0⟩⟩)
      clear hadv ho0
      go_wp2_with (fail)
      refine bodyPost_end (results_none rfl _ _ _) rfl ?_
      exact FIN.out
end Go.Proofs.YtjjcemdoefigkaaDoor.Hf
