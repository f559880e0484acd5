/- ReportReads. -/
import Derived.Test.YtgjningfpkoooaaDoorQs
namespace Go.Proofs.YtgjningfpkoooaaDoor.Ro
set_option linter.unusedVariables false
set_option linter.unusedSimpArgs false
open Go.RowKit Go.Proofs.YtgjningfpkoooaaDoor.W

/-- Only numbers in the blocks from L to below U have turned, into numbers. -/
structure Md (L U : Nat) (w w' : World) : Prop where
  os : w'.os = w.os
  tape : w'.tape = w.tape
  output : w'.output = w.output
  size : w'.heap.size = w.heap.size
  block : ∀ k, k < L ∨ U ≤ k → w'.heap[k]? = w.heap[k]?
  num : ∀ a x, w.cell? a = some (.int .i64 x) → ∃ y, w'.cell? a = some (.int .i64 y)
  sl : ∀ a A n c, w.cell? a = some (.slice A n c) → w'.cell? a = some (.slice A n c)
  fz : ∀ a, w'.frozen? a = w.frozen? a
theorem Md.refl (L U : Nat) (w : World) : Md L U w w := ⟨rfl, rfl, rfl, rfl, fun _ _ => rfl, fun _ x h => ⟨x, h⟩, fun _ _ _ _ h => h, fun _ => rfl⟩
theorem Md.set {L U : Nat} {w wx : World} (h : Md L U w wx) {p : Addr} {x y : Int} (hp : wx.cell? p = some (.int .i64 x)) (hL : L ≤ p.block) (hU : p.block < U) : Md L U w (wx.setCell p (.int .i64 y)) := by
  refine ⟨h.os, h.tape, h.output, by simpa [World.setCell] using h.size, fun k hk => ?_, fun a z ha => ?_, fun a A n c ha => ?_, fun a => by rw [World.frozen?_setCell]; exact h.fz a⟩
  · exact (Below.heap_setCell wx p _ k (by rintro rfl; omega)).trans (h.block k hk)
  · obtain ⟨z', hz⟩ := h.num a z ha
    by_cases e : p = a
    · subst e
      exact ⟨y, World.cell?_setCell_same wx p _ hp⟩
    · exact ⟨z', by rw [World.cell?_setCell_other wx p _ _ e]; exact hz⟩
  · have hz := h.sl a A n c ha
    by_cases e : p = a
    · subst e
      rw [hp] at hz
      cases hz
    · rw [World.cell?_setCell_other wx p _ _ e]
      exact hz
theorem Md.below {L U : Nat} {w w' : World} (h : Md L U w w') : Below L w w' := ⟨h.os, h.tape, h.output, Nat.le_of_eq h.size.symm, fun k hk => h.block k (.inl hk)⟩
theorem RepV.same {w w' : World} {B : Nat} {A : Option Addr} {n c : Nat} {A2 : Option Addr} {m c2 : Nat} {a : Rp} (h : RepV w B A n c A2 m c2 a) (hk : ∀ k, B ≤ k → w'.heap[k]? = w.heap[k]?) : RepV w' B A n c A2 m c2 a := by
  have own : ∀ {e : TypeId} {size k : Nat} {v : Value} {xs : List Value}, w.ownsRow B e size v k xs → w'.ownsRow B e size v k xs := fun h => by
    refine ⟨h.1, ?_⟩
    rcases h.2 with h2 | ⟨g, cap, cur, rfl, hb, hg, rest⟩
    · exact .inl h2
    · exact .inr ⟨g, cap, cur, rfl, hb, (hk g hb).trans hg, rest⟩
  obtain ⟨cs1, cs2, h2, h3, h4, h5, h6, h7⟩ := h
  exact ⟨cs1, cs2, h2, h3, own h4, ⟨h5.1, fun i x hx => by obtain ⟨v, n, q1, q2, q3⟩ := h5.2 i x hx; exact ⟨v, n, q1, own q2, q3⟩⟩, own h6, ⟨h7.1, fun i x hx => by obtain ⟨v, n, q1, q2, q3⟩ := h7.2 i x hx; exact ⟨v, n, q1, own q2, q3⟩⟩⟩
theorem own_fz {w : World} {base : Nat} {e : TypeId} {size : Nat} {A : Option Addr} {n c : Nat} {xs : List Value} (h : w.ownsRow base e size (.slice A n c) n xs) {b : Nat} (hA : A = some ⟨b, 0, none⟩) (j : Nat) : w.frozen? ⟨b, j, none⟩ = false := by
  rcases h.2 with ⟨hv, _⟩ | ⟨g, cap, cur, hv, hb, hg, _⟩
  · injection hv with hv _ _
    rw [hA] at hv
    cases hv
  · injection hv with hv _ _
    rw [hA] at hv
    injection hv with hv
    injection hv with hv
    subst hv
    exact frozen_of_row w b j _ _ hg
/-- What is known of the hit number i of a report of one's own. -/
theorem RepV.hit {w : World} {B : Nat} {A : Option Addr} {n c : Nat} {A2 : Option Addr} {m c2 : Nat} {a : Rp} (h : RepV w B A n c A2 m c2 a) {i : Nat} (hi : i < n) :
    ∃ g Ap np cp, A = some ⟨g, 0, none⟩ ∧ B ≤ g ∧ g < w.heap.size ∧ w.cell? ⟨g, i * 3 + 1, none⟩ = some (.slice Ap np cp) ∧ (∃ z, w.cell? ⟨g, i * 3 + 2, none⟩ = some (.int .i64 z)) ∧ w.frozen? ⟨g, i * 3 + 2, none⟩ = false ∧ np ≤ 1000000000000 ∧
      ∀ k, k < np → ∃ b, Ap = some ⟨b, 0, none⟩ ∧ B ≤ b ∧ b < w.heap.size ∧ (∃ y, w.cell? ⟨b, k, none⟩ = some (.int .i64 y)) ∧ w.frozen? ⟨b, k, none⟩ = false := by
  obtain ⟨cs1, cs2, h2, h3, h4, h5, h6, h7⟩ := h
  obtain ⟨x, hx⟩ : ∃ x, a.1[i]? = some x := ⟨_, List.getElem?_eq_getElem (by omega)⟩
  obtain ⟨v, np, q1, q2, q3⟩ := h5.2 i x hx
  obtain ⟨Ap, cp, rfl, hcp⟩ := slice_form q2
  have c1 := q1 1 _ rfl
  have c2 := q1 2 _ rfl
  obtain ⟨g, e1, e2, e3, e4⟩ := rv_own h4 _ _ c1
  obtain ⟨g', e1', _, _, e5⟩ := rv_own h4 _ _ c2
  rw [e1] at e1'
  injection e1' with e1'
  injection e1' with e1'
  subst e1'
  refine ⟨g, Ap, np, cp, e1, e3, e2, e4, ⟨_, e5⟩, own_fz h4 e1 _, q3, fun k hk => ?_⟩
  have hl : (is64 (hS.pt x)).length = np := by have := q2.1; omega
  obtain ⟨y, hy⟩ : ∃ y, (hS.pt x)[k]? = some y := ⟨_, List.getElem?_eq_getElem (by unfold is64 at hl; rw [List.length_map] at hl; omega)⟩
  obtain ⟨b, f1, f2, f3, f4⟩ := rv_own q2 k (.int .i64 y) (by unfold is64; rw [List.getElem?_map, hy]; rfl)
  exact ⟨b, f1, f3, f2, ⟨y, f4⟩, own_fz q2 f1 _⟩
set_option maxHeartbeats 16000000 in
set_option maxRecDepth 100000 in
theorem l_reads (s : ByteArray) (w : World) (hG : Gw w) (hs : s.size ≤ 140737488351232) (hu : s.size ≤ 1048576) :
    Calls Tryd.prog 9 #[.string s] w (TrueP w) := by
  obtain ⟨PV, hPV⟩ : ∃ v, parseR s.data.toList = v := ⟨_, rfl⟩
  obtain ⟨PR, hPR⟩ : ∃ v, PV.getD ([], []) = v := ⟨_, rfl⟩
  obtain ⟨PB, hPB⟩ : ∃ v, PV.isSome = v := ⟨_, rfl⟩
  have PX := Lib.hid (show ∀ (wa : World) e wb, ParseRIs wa s.data.toList e wb → ∃ A n c A2 m c2, e = .returned (.tuple #[.agg #[.slice A n c, .slice A2 m c2], .bool PB]) ∧ Below wa.heap.size wa wb ∧ RepV wb wa.heap.size A n c A2 m c2 PR from fun wa e wb h => by unfold ParseRIs at h; rw [hPV, hPR, hPB] at h; exact h)
  have HFT := Lib.hid (show PR.1.length ≤ 1048576 ∧ PR.2.length ≤ 1048576 from by
    cases hv : parseR s.data.toList with
    | none =>
      rw [hv] at hPV
      subst hPV
      subst hPR
      exact ⟨by simp, by simp⟩
    | some v =>
      rw [hv] at hPV
      subst hPV
      subst hPR
      obtain ⟨h1, h2⟩ := parse_inv hv
      have h3 := fit_of h1 (by rw [← h2, ← Lib.size_eq]; exact hu)
      exact ⟨h3.1, h3.2.1⟩)
  obtain ⟨L, hL⟩ : ∃ L, w.heap.size = L := ⟨_, rfl⟩
  have HL := Lib.hid hL
  have HG := Lib.hid (show ∀ wx, Below L w wx → Gw wx from fun wx hx => hG.below hx (by rw [← hL]; exact hG.sz))
  have C1 := Lib.hid (c_rparse s w (by omega) hG)
  have HS := Lib.hid (show s.size ≤ 1000000000 by omega)
  clear hPV hPR hPB hL hG hs hu
  go_enter Tryd.func9, Tryd.ntmps9
  go_upto_region 2 with (first
    | (go_at_call 28; go_must (refine C1.out.mono ?_); intro e w1 he; obtain ⟨Ah, nh, ch, Av, nv, cv, rfl, hb, hr⟩ := PX.out _ _ _ he; rw [HL.out] at hb hr; have HB1 := Lib.hid hb; have HV1 := Lib.hid hr; clear hb hr he))
  obtain ⟨w2, hw2⟩ : ∃ w2, w1.alloc (.cells #[.slice Ah nh ch, .slice Av nv cv] 36) = w2 := ⟨_, rfl⟩
  obtain ⟨q1, q2, q3⟩ := new_cells hw2
  obtain ⟨b3, hb3⟩ : ∃ b, w1.heap.size = b := ⟨_, rfl⟩
  rw [hb3] at q2 q3
  have hL1 : L ≤ b3 := by rw [← hb3, ← HL.out]; have := HB1.out.size; rw [HL.out] at this; rw [HL.out]; exact this
  have HB12 := Lib.hid q1
  have HB2 := Lib.hid (HB1.out.trans (q1.mono (by rw [hb3]; exact hL1)))
  have HC3 := Lib.hid q3
  obtain ⟨U, hU⟩ : ∃ U, w2.heap.size = U := ⟨_, rfl⟩
  rw [hU] at q2 HC3
  have HU := Lib.hid (show w2.heap.size = U ∧ U = b3 + 1 ∧ w1.heap.size = b3 ∧ L ≤ b3 from ⟨hU, q2, hb3, hL1⟩)
  have C2 := Lib.hid (r_rparse s w2 HS.out)
  clear q1 q2 q3 C1
  go_upto_region 3 with (first
    | (go_at_call 29; go_must (refine C2.out.mono ?_); intro e w3 he; obtain ⟨Aw, nw, cw, Ax, nx, cx, rfl, hb, hr⟩ := PX.out _ _ _ he; rw [HU.out.1] at hb hr; have HB23 := Lib.hid hb; have HV3 := Lib.hid hr; clear hb hr he))
  obtain ⟨w4, hw4⟩ : ∃ w4, w3.alloc (.cells #[.slice Aw nw cw, .slice Ax nx cx] 36) = w4 := ⟨_, rfl⟩
  obtain ⟨q1, q2, q3⟩ := new_cells hw4
  obtain ⟨b5, hb5⟩ : ∃ b, w3.heap.size = b := ⟨_, rfl⟩
  rw [hb5] at q2 q3
  have hu := HU.out
  have hz3 : U ≤ w3.heap.size := by have := HB23.out.size; omega
  have HB24 := Lib.hid (show Below U w2 w4 from HB23.out.trans (q1.mono hz3))
  have HB14 := Lib.hid (show Below b3 w1 w4 from (show Below b3 w1 w2 by rw [← hu.2.2.1]; exact HB12.out).trans (HB24.out.mono (by omega)))
  have HR4 := Lib.hid (show RepV w4 L Ah nh ch Av nv cv PR from HV1.out.below (by rw [hu.2.2.1]; exact HB14.out))
  have HW4 := Lib.hid (show RepV w4 U Aw nw cw Ax nx cx PR from HV3.out.below q1)
  have HC5 := Lib.hid q3
  have HZ5 := Lib.hid (show U ≤ b5 ∧ w4.heap.size = b5 + 1 from ⟨by omega, q2⟩)
  have hnn : nh ≤ 1048576 ∧ nv ≤ 1048576 ∧ nw ≤ 1048576 ∧ nx ≤ 1048576 := by
    obtain ⟨_, _, e1, e2, _⟩ := HV1.out
    obtain ⟨_, _, e3, e4, _⟩ := HV3.out
    have := HFT.out
    omega
  have C3 := Lib.hid (r_same Ah nh ch Av nv cv PR Aw nw cw Ax nx cx PR w4 (RepAt.base HR4.out.read (Nat.zero_le _)) (RepAt.base HW4.out.read (Nat.zero_le _)) (by omega) (by omega) (by omega) (by omega))
  rw [same_self] at C3
  obtain ⟨a0, a1⟩ := two_cells (HC3.out w4 (by exact HB24.out))
  obtain ⟨a2, a3⟩ := two_cells (q3 w4 (Below.refl _ _))
  have hpb : (PB != PB) = false := by cases PB <;> rfl
  clear q1 q2 q3 C2 hz3
  go_upto_region 5 with (first
    | (go_at_call 26; go_must (refine C3.out.mono ?_); rintro e w5 ⟨rfl, hb⟩; have HB45 := Lib.hid hb; clear hb))
  have HB15 := Lib.hid (show Below b3 w1 w5 from HB14.out.trans (HB45.out.mono (by have := HZ5.out; omega)))
  have HC35 := Lib.hid (two_cells (HC3.out w5 (HB24.out.trans (HB45.out.mono (by have := HZ5.out; omega)))))
  have HC55 := Lib.hid (HC5.out w5 HB45.out)
  have HW5 := Lib.hid (HW4.out.below HB45.out)
  have HB5 := Lib.hid (show Below L w w5 from HB2.out.trans ((HB24.out.trans (HB45.out.mono (by have := HZ5.out; omega))).mono (by omega)))
  have HH := Lib.hid (show ∀ i, i < nh → ∃ g Ap np cp, Ah = some ⟨g, 0, none⟩ ∧ L ≤ g ∧ g < U ∧ w5.cell? ⟨g, i * 3 + 1, none⟩ = some (.slice Ap np cp) ∧ (∃ z, w5.cell? ⟨g, i * 3 + 2, none⟩ = some (.int .i64 z)) ∧ w5.frozen? ⟨g, i * 3 + 2, none⟩ = false ∧ np ≤ 1000000000000 ∧
      ∀ k, k < np → ∃ b, Ap = some ⟨b, 0, none⟩ ∧ L ≤ b ∧ b < U ∧ (∃ y, w5.cell? ⟨b, k, none⟩ = some (.int .i64 y)) ∧ w5.frozen? ⟨b, k, none⟩ = false from fun i hi => by
    obtain ⟨g, Ap, np, cp, e1, e2, e3, e4, ⟨z, e5⟩, e6, e7, e8⟩ := HV1.out.hit hi
    have hg : g < b3 := by omega
    refine ⟨g, Ap, np, cp, e1, e2, by omega, (HB15.out.cell (p := ⟨g, _, none⟩) hg).trans e4, ⟨z, (HB15.out.cell (p := ⟨g, _, none⟩) hg).trans e5⟩, (HB15.out.frozen (p := ⟨g, _, none⟩) hg).trans e6, e7, fun k hk => ?_⟩
    obtain ⟨b, f1, f2, f3, ⟨y, f4⟩, f5⟩ := e8 k hk
    have hb : b < b3 := by omega
    exact ⟨b, f1, f2, by omega, ⟨y, (HB15.out.cell (p := ⟨b, _, none⟩) hb).trans f4⟩, (HB15.out.frozen (p := ⟨b, _, none⟩) hb).trans f5⟩)
  obtain ⟨d0, d1⟩ := HC35.out
  clear a0 a1 a2 a3 C3 hw4 hb5 hw2 hb3 hU hu
  go_wp2_with (fail)
  go_loopg [7] nh (fun g s7 wx => ∃ i : Nat, i + g = nh ∧ s7 = .int .i64 (i : Nat) ∧ Hid (Md L U w5 wx))
  case atStart => exact ⟨0, by omega, rfl, Lib.hid (Md.refl _ _ _)⟩
  case round =>
    obtain ⟨i, hig, rfl, hst⟩ := hrel
    have g0 := hst.out.sl _ _ _ _ d0
    cases gk with
    | zero =>
      obtain rfl : i = nh := by omega
      have hk : ¬ (i : Int) < (i : Int) := by omega
      have HBR := Lib.hid (show Below L w wr from HB5.out.trans hst.out.below)
      have HWR := Lib.hid (show RepV wr U Aw nw cw Ax nx cx PR from HW5.out.same (fun k hk => hst.out.block k (.inr hk)))
      have hzr : wr.heap.size = w5.heap.size := hst.out.size
      have hb5 : wr.heap[b5]? = some (.cells #[.slice Aw nw cw, .slice Ax nx cx] 36 (0, 0)) := (hst.out.block b5 (.inr HZ5.out.1)).trans HC55.out
      have HC5R := Lib.hid hb5
      have hlt5 : b5 < wr.heap.size := (Array.getElem?_eq_some_iff.1 hb5).1
      have HLL := Lib.hid (show L ≤ wr.heap.size from by have := HBR.out.size; rw [HL.out] at this; exact this)
      have C4 := Lib.hid (c_rparse s wr HS.out (HG.out wr HBR.out))
      clear hb5 hst
      go_upto_region 14 with (first
        | (go_at_call 28; go_must (refine C4.out.mono ?_); intro e w6 he; obtain ⟨Aq, nq, cq, Ar, nr, cr, rfl, hb, hr⟩ := PX.out _ _ _ he; have HB6 := Lib.hid hb; have HV6 := Lib.hid hr; clear hb hr he))
      obtain ⟨w7, hw7⟩ : ∃ w7, w6.alloc (.cells #[.slice Aq nq cq, .slice Ar nr cr] 36) = w7 := ⟨_, rfl⟩
      obtain ⟨q1, q2, q3⟩ := new_cells hw7
      have HB7 := Lib.hid (HB6.out.trans (q1.mono HB6.out.size))
      have HBL := Lib.hid (show Below L w w7 from HBR.out.trans (HB7.out.mono HLL.out))
      obtain ⟨h0, h1⟩ := two_cells ((HB7.out.block b5 hlt5).trans HC5R.out)
      obtain ⟨h2, h3⟩ := two_cells (q3 w7 (Below.refl _ _))
      have hnq : nq = nw ∧ nr = nx := by
        obtain ⟨_, _, e1, e2, _⟩ := HV6.out
        obtain ⟨_, _, e3, e4, _⟩ := HWR.out
        omega
      have C5 := Lib.hid (r_same Aq nq cq Ar nr cr PR Aw nw cw Ax nx cx PR w7 (RepAt.base (HV6.out.below q1).read (Nat.zero_le _)) (RepAt.base (HWR.out.below HB7.out).read (Nat.zero_le _)) (by omega) (by omega) (by omega) (by omega))
      rw [same_self] at C5
      clear q1 q2 q3 C4 hnq
      go_wp2_with (first
        | (go_at_call 26; go_must (refine C5.out.mono ?_); rintro e w8 ⟨rfl, hb⟩; have HB8 := Lib.hid (show Below L w w8 from HBL.out.trans (hb.mono (Nat.le_trans HLL.out HB7.out.size))); have C6 := Lib.hid (c_awaker w8 (HG.out w8 HB8.out)); clear hb)
        | (go_at_call 27; go_must (refine C6.out.mono ?_); rintro e w9 ⟨rfl, hb⟩; have HB9 := Lib.hid (show Below L w w9 from HB8.out.trans (hb.mono (by have := HB8.out.size; rw [HL.out] at this; exact this))); clear hb))
      go_ret
      exact ⟨rfl, by rw [HL.out]; exact HB9.out⟩
    | succ g =>
      have hk : (i : Int) < (nh : Int) := by omega
      have hk0 : (0 : Int) ≤ (i : Int) := by omega
      obtain ⟨gb, Ap, np, cp, rfl, e2, e3, e4, ⟨z, e5⟩, e6, e7, e8⟩ := HH.out i (by omega)
      have HP := Lib.hid e8
      have HMS := Lib.hid (show ∀ wx, Md L U w5 wx → wx.cell? ⟨b3, 0, none⟩ = some (.slice (some ⟨gb, 0, none⟩) nh ch) ∧ wx.cell? ⟨gb, i * 3 + 1, none⟩ = some (.slice Ap np cp) ∧ (∃ z, wx.cell? ⟨gb, i * 3 + 2, none⟩ = some (.int .i64 z)) ∧ wx.frozen? ⟨gb, i * 3 + 2, none⟩ = false from fun wx hx => ⟨hx.sl _ _ _ _ d0, hx.sl _ _ _ _ e4, hx.num _ _ e5, (hx.fz _).trans e6⟩)
      clear e4 e5 e6 e8
      have g1 := (HMS.out wr hst.out).2.1
      go_wp2_with (fail)
      go_loopg [8] np (fun gg s8 wx => ∃ k : Nat, k + gg = np ∧ s8 = .int .i64 (k : Nat) ∧ Hid (Md L U w5 wx))
      case atStart => exact ⟨0, by omega, rfl, hst⟩
      case round =>
        clear g0 g1 hst
        obtain ⟨k, hkg, rfl, hst⟩ := hrel
        obtain ⟨m0, m1, ⟨z2, m2⟩, m3⟩ := HMS.out wr hst.out
        cases gk with
        | zero =>
          obtain rfl : k = np := by omega
          have hk2 : ¬ (k : Int) < (k : Int) := by omega
          have HM2 := Lib.hid m2
          go_wp2_with (fail)
          go_roundg g
          all_goals first
            | omega
            | exact ⟨i + 1, by omega, by go_num, Lib.hid (hst.out.set HM2.out e2 e3)⟩
        | succ g2 =>
          have hk2 : (k : Int) < (np : Int) := by omega
          have hk20 : (0 : Int) ≤ (k : Int) := by omega
          obtain ⟨b, rfl, f1, f2, ⟨y, f3⟩, f4⟩ := HP.out k (by omega)
          obtain ⟨y2, n1⟩ := hst.out.num _ _ f3
          have n2 := (hst.out.fz _).trans f4
          have HN1 := Lib.hid n1
          clear f3 f4
          go_wp2_with (fail)
          go_roundg g2
          all_goals first
            | omega
            | exact ⟨k + 1, by omega, by go_num, Lib.hid (hst.out.set HN1.out f1 f2)⟩
end Go.Proofs.YtgjningfpkoooaaDoor.Ro
