/- winklelaw22.awake. -/
import Derived.Test.YtgjningfpkoooaaDoorQl
import Derived.Test.YtgjningfpkoooaaDoorQn
import Derived.Test.YtgjningfpkoooaaDoorQf
namespace Go.Proofs.YtgjningfpkoooaaDoor.Ro
set_option linter.unusedVariables false
set_option linter.unusedSimpArgs false
open Go.RowKit Go.Proofs.YtgjningfpkoooaaDoor.W

def awR : Rp := ([(2, [1, 0], 7)], [([], 33)])
def awS : List UInt8 := [104, 105, 116, 32, 50, 32, 47, 49, 47, 48, 32, 55, 10, 119, 104, 121, 32, 47, 32, 51, 51, 10]
theorem awR_ok : okR awR = true := by decide
theorem awR_text : textR awR = awS := by
  unfold textR
  rw [if_pos awR_ok]
  have d2 : Lib.decDigits 2 = [50] := by rw [dec_step, if_pos (by omega)]; rfl
  have d7 : Lib.decDigits 7 = [55] := by rw [dec_step, if_pos (by omega)]; rfl
  have d1 : Lib.decDigits 1 = [49] := by rw [dec_step, if_pos (by omega)]; rfl
  have d0 : Lib.decDigits 0 = [48] := by rw [dec_step, if_pos (by omega)]; rfl
  have d3 : Lib.decDigits 3 = [51] := by rw [dec_step, if_pos (by omega)]; rfl
  have d33 : Lib.decDigits 33 = [51, 51] := by
    rw [dec_step, if_neg (by omega)]
    show Lib.decDigits 3 ++ _ = _
    rw [d3]
    rfl
  have t1 : textP [1, 0] = [47, 49, 47, 48] := by
    unfold textP
    rw [if_pos (by decide)]
    show txt [1, 0] = _
    simp [txt, d1, d0]
  have t0 : textP [] = [47] := rfl
  simp [flatR, awR, hitL, whyL, numL, t1, t0, d2, d7, d33, awS]
theorem awR_parse : parseR awS = some awR := by rw [← awR_text]; exact parse_textR awR_ok
/-- The world in which the law's own report lies. -/
def awW (w : World) : World := (((w.alloc (.cells #[.int .i64 1, .int .i64 0] 3)).alloc (.cells #[.int .i64 2, .slice (some ⟨w.heap.size, 0, none⟩) 2 2, .int .i64 7] 44)).alloc (.cells #[.slice none 0 0, .int .i64 33] 68)).alloc (.cells #[.slice (some ⟨w.heap.size + 1, 0, none⟩) 1 1, .slice (some ⟨w.heap.size + 1 + 1, 0, none⟩) 1 1] 36)
theorem al_sz (w : World) (o : Obj) : (w.alloc o).heap.size = w.heap.size + 1 := by simp
theorem al_bel (w : World) (o : Obj) : Below w.heap.size w (w.alloc o) := (Below.refl _ _).alloc (Nat.le_refl _) o
theorem aw_world (w : World) : Below w.heap.size w (awW w) ∧ (awW w).heap.size = w.heap.size + 4 ∧ (awW w).heap[w.heap.size + 1 + 1 + 1]? = some (.cells #[.slice (some ⟨w.heap.size + 1, 0, none⟩) 1 1, .slice (some ⟨w.heap.size + 1 + 1, 0, none⟩) 1 1] 36 (0, 0)) ∧ RepAt (awW w) 0 (some ⟨w.heap.size + 1, 0, none⟩) 1 1 (some ⟨w.heap.size + 1 + 1, 0, none⟩) 1 1 awR := by
  unfold awW
  obtain ⟨w1, h1⟩ : ∃ w1, w.alloc (.cells #[.int .i64 1, .int .i64 0] 3) = w1 := ⟨_, rfl⟩
  have z1 : w1.heap.size = w.heap.size + 1 := by rw [← h1]; simp
  have b1 : Below w.heap.size w w1 := by rw [← h1]; exact al_bel _ _
  have r1 : RV w1 (some ⟨w.heap.size, 0, none⟩) (is64 [1, 0]) := by rw [← h1]; exact rv_lit rfl
  rw [h1]
  obtain ⟨w2, h2⟩ : ∃ w2, w1.alloc (.cells #[.int .i64 2, .slice (some ⟨w.heap.size, 0, none⟩) 2 2, .int .i64 7] 44) = w2 := ⟨_, rfl⟩
  have z2 : w2.heap.size = w.heap.size + 1 + 1 := by rw [← h2]; simp [z1]
  have b2 : Below w1.heap.size w1 w2 := by rw [← h2]; exact al_bel _ _
  have c2 : w2.heap[w.heap.size + 1]? = some (.cells #[.int .i64 2, .slice (some ⟨w.heap.size, 0, none⟩) 2 2, .int .i64 7] 44 (0, 0)) := by rw [← h2, ← z1]; exact heap_alloc_new w1 _
  rw [h2]
  obtain ⟨w3, h3⟩ : ∃ w3, w2.alloc (.cells #[.slice none 0 0, .int .i64 33] 68) = w3 := ⟨_, rfl⟩
  have z3 : w3.heap.size = w.heap.size + 1 + 1 + 1 := by rw [← h3]; simp [z2]
  have b3 : Below w2.heap.size w2 w3 := by rw [← h3]; exact al_bel _ _
  have c3 : w3.heap[w.heap.size + 1 + 1]? = some (.cells #[.slice none 0 0, .int .i64 33] 68 (0, 0)) := by rw [← h3, ← z2]; exact heap_alloc_new w2 _
  rw [h3]
  obtain ⟨w4, h4⟩ : ∃ w4, w3.alloc (.cells #[.slice (some ⟨w.heap.size + 1, 0, none⟩) 1 1, .slice (some ⟨w.heap.size + 1 + 1, 0, none⟩) 1 1] 36) = w4 := ⟨_, rfl⟩
  have z4 : w4.heap.size = w.heap.size + 4 := by rw [← h4]; simp [z3]
  have b4 : Below w3.heap.size w3 w4 := by rw [← h4]; exact al_bel _ _
  have c4 : w4.heap[w.heap.size + 1 + 1 + 1]? = some (.cells #[.slice (some ⟨w.heap.size + 1, 0, none⟩) 1 1, .slice (some ⟨w.heap.size + 1 + 1, 0, none⟩) 1 1] 36 (0, 0)) := by rw [← h4, ← z3]; exact heap_alloc_new w3 _
  rw [h4]
  have d2 := ((b4.block _ (by omega)).trans (b3.block _ (by omega))).trans c2
  have d3 := (b4.block _ (by omega)).trans c3
  have r4 : RV w4 (some ⟨w.heap.size, 0, none⟩) (is64 [1, 0]) := ((r1.below b2).below b3).below b4
  refine ⟨b1.trans ((b2.trans ((b3.trans (b4.mono (by omega))).mono (by omega))).mono (by omega)), z4, c4, rfl, Nat.le_refl _, rfl, Nat.le_refl _, fun i h hi => ?_, fun i h hi => ?_⟩
  · have hi0 : i = 0 := by
      rcases i with _ | i
      · rfl
      · simp [awR] at hi
    subst hi0
    injection hi with hi
    subst hi
    refine ⟨w.heap.size + 1, 0, .slice (some ⟨w.heap.size, 0, none⟩) 2 2, rfl, by omega, Nat.zero_le _, fun j u hu => ?_, ⟨_, 2, rfl, Nat.le_refl _, by show 2 ≤ _; omega, RV.apart r4 (fun ad _ => by simp), fun ad ha => .inl ⟨Nat.zero_le _, by injection ha with ha; subst ha; show w.heap.size < _; omega⟩⟩⟩
    rw [show hS.k = 3 from rfl, show 0 + 0 * 3 + j = j by omega, cell_of_row w4 _ j _ _ _ d2]
    have : hS.cs (2, [1, 0], 7) (.slice (some ⟨w.heap.size, 0, none⟩) 2 2) = (#[.int .i64 2, .slice (some ⟨w.heap.size, 0, none⟩) 2 2, .int .i64 7] : Array Value).toList := rfl
    rw [this] at hu
    simpa using hu
  · have hi0 : i = 0 := by
      rcases i with _ | i
      · rfl
      · simp [awR] at hi
    subst hi0
    injection hi with hi
    subst hi
    refine ⟨w.heap.size + 1 + 1, 0, .slice none 0 0, rfl, by omega, Nat.zero_le _, fun j u hu => ?_, ⟨none, 0, rfl, Nat.le_refl _, by show 0 ≤ _; omega, fun i v hv => by simp [is64, vS] at hv, fun ad ha => by cases ha⟩⟩
    rw [show vS.k = 2 from rfl, show 0 + 0 * 2 + j = j by omega, cell_of_row w4 _ j _ _ _ d3]
    have : vS.cs ([], 33) (.slice none 0 0) = (#[.slice none 0 0, .int .i64 33] : Array Value).toList := rfl
    rw [this] at hu
    simpa using hu
theorem awR_fit : Fit awR := ⟨by decide, by decide, fun h hh => by simp [awR] at hh; subst hh; simp, fun h hh => by simp [awR] at hh; subst hh; simp⟩
theorem aw_same : decide (awR = awR) = true := decide_eq_true rfl
theorem aw_diff : decide (awR = (([], []) : Rp)) = false := by decide
theorem rep_nil (w : World) (B : Nat) : RepAt w B none 0 0 none 0 0 (([], []) : Rp) := (RepV.nil w B).read
theorem aw_seq : ((⟨awS.toArray⟩ : ByteArray).toList == awS) = true := by rw [ByteArray.toList_eq]; exact beq_self_eq_true _
theorem aw_cst : (⟨#[104, 105, 116, 32, 50, 32, 47, 49, 47, 48, 32, 55, 10, 119, 104, 121, 32, 47, 32, 51, 51, 10]⟩ : ByteArray).data.toList = awS := rfl
theorem RepAt.base {w : World} {B B' : Nat} {A : Option Addr} {n c : Nat} {A2 : Option Addr} {m c2 : Nat} {r : Rp} (h : RepAt w B A n c A2 m c2 r) (hb : B' ≤ B) : RepAt w B' A n c A2 m c2 r :=
  ⟨h.1, h.2.1, h.2.2.1, h.2.2.2.1, h.2.2.2.2.1.base hb, h.2.2.2.2.2.base hb⟩
set_option maxHeartbeats 8000000 in
set_option maxRecDepth 100000 in
theorem c_awaker (w : World) (hG : Gw w) : Calls Tryd.prog 27 #[] w (TrueP w) := by
  have HG := Lib.hid hG
  clear hG
  go_enter Tryd.func27, Tryd.ntmps27
  obtain ⟨q1, q2, q3, q4⟩ := aw_world w
  have HW := Lib.hid q1
  have HR := Lib.hid q4
  have HC := Lib.hid (show ∀ wx, Below (w.heap.size + 4) (awW w) wx → wx.cell? ⟨w.heap.size + 1 + 1 + 1, 0, none⟩ = some (.slice (some ⟨w.heap.size + 1, 0, none⟩) 1 1) ∧ wx.cell? ⟨w.heap.size + 1 + 1 + 1, 1, none⟩ = some (.slice (some ⟨w.heap.size + 1 + 1, 0, none⟩) 1 1) ∧ w.heap.size + 4 ≤ wx.heap.size from fun wx hb => by
    have h1 := (hb.block _ (by omega)).trans q3
    exact ⟨cell_of_row wx _ 0 _ _ _ h1, cell_of_row wx _ 1 _ _ _ h1, by have := hb.size; omega⟩)
  have HZ := Lib.hid q2
  clear q1 q2 q3 q4
  go_upto_region 2 with (fail)
  change Code.wp _ _ _ _ (awW w)
  generalize awW w = w1 at *
  obtain ⟨p1, hp1⟩ : ∃ p, w.heap.size + 1 = p := ⟨_, rfl⟩
  obtain ⟨p2, hp2⟩ : ∃ p, p1 + 1 = p := ⟨_, rfl⟩
  obtain ⟨p3, hp3⟩ : ∃ p, p2 + 1 = p := ⟨_, rfl⟩
  rw [hp1, hp2, hp3] at HC ⊢
  rw [hp1, hp2] at HR
  obtain ⟨N, hN⟩ : ∃ N, w.heap.size + 4 = N := ⟨_, rfl⟩
  rw [hN] at HC HZ
  have HN := Lib.hid (show w.heap.size ≤ N ∧ p3 < N ∧ 8 ≤ N from ⟨by omega, by omega, by have := HG.out.sz; omega⟩)
  clear hp1 hp2 hp3 hN
  have HG1 := Lib.hid (HG.out.below HW.out HG.out.sz)
  obtain ⟨a0, a1, alt⟩ := HC.out w1 (Below.refl _ _)
  have C1 := Lib.hid (c_rtext _ _ _ _ _ _ awR w1 HR.out awR_fit HG1.out)
  go_upto_region 3 with (first
    | (go_at_call 24; go_must (refine C1.out.mono ?_); rintro e w2 ⟨he, hb⟩; rw [awR_text, awR_ok] at he; obtain ⟨S, hS⟩ : ∃ S : ByteArray, (⟨awS.toArray⟩ : ByteArray) = S := ⟨_, rfl⟩; rw [hS] at he; subst he; have HS := Lib.hid hS; have HB2 := Lib.hid (show Below N w1 w2 by rw [← HZ.out]; exact hb); clear hb hS))
  obtain ⟨b0, b1, blt⟩ := HC.out w2 HB2.out
  have C2 := Lib.hid (c_rparse ⟨#[104, 105, 116, 32, 50, 32, 47, 49, 47, 48, 32, 55, 10, 119, 104, 121, 32, 47, 32, 51, 51, 10]⟩ w2 (by show 22 ≤ _; omega) (HG1.out.below HB2.out HN.out.2.2))
  go_upto_region 4 with (first
    | (go_at_call 28; go_must (refine C2.out.mono ?_); rintro e w3 ⟨A, n, c, A2, m, c2, he, hb, hr⟩; rw [aw_cst, awR_parse] at he hr; subst he; have HB3 := Lib.hid (HB2.out.trans (hb.mono blt)); have HR3 := Lib.hid (RepAt.base hr.read (Nat.zero_le _)); clear hb hr))
  obtain ⟨w4, hw4⟩ : ∃ w4, w3.alloc (.cells #[.slice A n c, .slice A2 m c2] 36) = w4 := ⟨_, rfl⟩
  have HB34 := Lib.hid (show Below w3.heap.size w3 w4 by rw [← hw4]; exact al_bel _ _)
  have hc4 : w4.heap[w3.heap.size]? = some (.cells #[.slice A n c, .slice A2 m c2] 36 (0, 0)) := by rw [← hw4]; exact heap_alloc_new w3 _
  have e0 := cell_of_row w4 _ 0 _ _ _ hc4
  have e1 := cell_of_row w4 _ 1 _ _ _ hc4
  obtain ⟨d0, d1, dlt⟩ := HC.out w3 HB3.out
  have HB4 := Lib.hid (HB3.out.trans (HB34.out.mono dlt))
  obtain ⟨f0, f1, flt⟩ := HC.out w4 HB4.out
  have HR4 := Lib.hid (HR3.out.below HB34.out)
  have HRA := Lib.hid (show ∀ wx, Below N w1 wx → RepAt wx 0 (some ⟨p1, 0, none⟩) 1 1 (some ⟨p2, 0, none⟩) 1 1 awR from fun wx hb => HR.out.below (by rw [HZ.out]; exact hb))
  have hn1 : n = 1 := HR4.out.1.symm
  have hm1 : m = 1 := HR4.out.2.2.1.symm
  have C3 := Lib.hid (c_same A n c A2 m c2 awR (some ⟨p1, 0, none⟩) 1 1 (some ⟨p2, 0, none⟩) 1 1 awR w4 HR4.out (HRA.out w4 HB4.out) (by omega) (by omega) (by omega) (by omega))
  rw [aw_same] at C3
  have hs : (S.toList == [104, 105, 116, 32, 50, 32, 47, 49, 47, 48, 32, 55, 10, 119, 104, 121, 32, 47, 32, 51, 51, 10]) = true := by rw [← HS.out]; exact aw_seq
  clear hn1 hm1 hc4 C1 C2
  go_wp2_with (first
    | (go_at_call 30; have _t := C4; go_must (refine C4.out.mono ?_); rintro e w6 ⟨rfl, hb⟩; have HB6 := Lib.hid (HB5.out.trans (hb.mono (HC.out _ HB5.out).2.2)); clear hb _t; clear C4)
    | (go_at_call 30; go_must (refine C3.out.mono ?_); rintro e w5 ⟨rfl, hb⟩; have HB5 := Lib.hid (HB4.out.trans (hb.mono flt)); obtain ⟨g0, g1, glt⟩ := HC.out w5 HB5.out; have C4 := Lib.hid (c_same (some ⟨p1, 0, none⟩) 1 1 (some ⟨p2, 0, none⟩) 1 1 awR none 0 0 none 0 0 ([], []) w5 (HRA.out w5 HB5.out) (rep_nil _ _) (by omega) (by omega) (by omega) (by omega)); rw [aw_diff] at C4; clear hb; clear C3))
  go_ret
  exact ⟨rfl, HW.out.trans (HB6.out.mono HN.out.1)⟩
/-- What a block that was just made keeps. -/
theorem new_cells {w w' : World} {cs : Array Value} {t : TypeId} (h : w.alloc (.cells cs t) = w') : Below w.heap.size w w' ∧ w'.heap.size = w.heap.size + 1 ∧ ∀ wx, Below w'.heap.size w' wx → wx.heap[w.heap.size]? = some (.cells cs t (0, 0)) := by
  subst h
  exact ⟨al_bel _ _, by simp, fun wx hb => (hb.block _ (by simp)).trans (heap_alloc_new w _)⟩
theorem two_cells {w : World} {b : Nat} {x y : Value} {t : TypeId} (h : w.heap[b]? = some (.cells #[x, y] t (0, 0))) : w.cell? ⟨b, 0, none⟩ = some x ∧ w.cell? ⟨b, 1, none⟩ = some y :=
  ⟨cell_of_row w b 0 _ _ _ h, cell_of_row w b 1 _ _ _ h⟩
theorem same_self (r : Rp) : decide (r = r) = true := decide_eq_true rfl
end Go.Proofs.YtgjningfpkoooaaDoor.Ro
