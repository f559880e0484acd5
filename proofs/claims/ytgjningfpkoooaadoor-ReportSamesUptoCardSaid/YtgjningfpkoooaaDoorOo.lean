/- RouteBack: the walk. -/
import Derived.Test.YtgjningfpkoooaaDoorOn
namespace Go.Proofs.YtgjningfpkoooaaDoor.Ro
set_option linter.unusedVariables false
set_option linter.unusedSimpArgs false
open Go.RowKit Go.Proofs.YtgjningfpkoooaaDoor.W

/-- Natural numbers as Go's ints. -/
def zs (p : List Nat) : List Int := p.map fun n : Nat => (n : Int)
theorem ints_zs (p : List Nat) : ints p = is64 (zs p) := by unfold ints is64 zs; rw [List.map_map]; rfl
theorem zs_len (p : List Nat) : (zs p).length = p.length := by simp [zs]
theorem nats_zs (p : List Nat) : nats (zs p) = p := by unfold nats zs; rw [List.map_map]; simp [Function.comp_def]
theorem zs_nats {l : List Int} (h : okP l = true) : zs (nats l) = l := by
  have h1 := (okP_iff l).1 h
  unfold zs nats
  rw [List.map_map]
  have h2 : l.map (fun x => x) = l := List.map_id' l
  conv => rhs; rw [← h2]
  apply List.map_congr_left
  intro x hx
  have := h1 x hx
  show ((x.toNat : Nat) : Int) = x
  omega
theorem text_len {l : List Int} : (textP l).length ≤ 11 * l.length + 1 := by
  cases h : okP l with
  | false => unfold textP; rw [h]; simp
  | true =>
    have h1 := (okP_iff l).1 h
    rw [textP_pre h1]
    split
    · simp
    · have := preT_len l h1; omega
theorem parse_text {l : List Int} (h : okP l = true) : parseP (textP l) = some (nats l) := by
  rw [parseP_iff]
  refine ⟨by unfold textP; rw [if_pos h], fun n hn => ?_⟩
  unfold nats at hn
  obtain ⟨x, hx, rfl⟩ := List.mem_map.1 hn
  have := (okP_iff l).1 h x hx
  unfold top
  omega
theorem text_bad {l : List Int} (h : okP l = false) : textP l = [] := by unfold textP; rw [h]; rfl
theorem parse_emp : parseP [] = none := by decide +kernel
theorem ok_zs {s : List UInt8} {p : List Nat} (h : parseP s = some p) : okP (zs p) = true ∧ textP (zs p) = s := by
  obtain ⟨h1, h2⟩ := (parseP_iff s p).1 h
  have h3 : okP (zs p) = true := (okP_iff _).2 fun n hn => by
    unfold zs at hn
    obtain ⟨x, hx, rfl⟩ := List.mem_map.1 hn
    have := h2 x hx
    unfold top at this
    omega
  refine ⟨h3, ?_⟩
  unfold textP
  rw [if_pos h3, nats_zs, h1]
theorem size_of (l : List UInt8) : (⟨l.toArray⟩ : ByteArray).size = l.length := size_str l
theorem txt_ge : ∀ p : List Nat, p.length ≤ (txt p).length
  | [] => by simp
  | n :: p => by
    have h : ∀ q : List Nat, q.length ≤ (q.flatMap fun n => 47 :: Lib.decDigits n).length := by
      intro q
      induction q with
      | nil => simp
      | cons a q ih => rw [List.flatMap_cons, List.length_append, List.length_cons, List.length_cons]; omega
    exact h (n :: p)
def PSome (w : World) (p : List Nat) (e : Ending) (w' : World) : Prop :=
  ∃ A n c, e = .returned (.tuple #[.slice A n c, .bool true]) ∧ Below w.heap.size w w' ∧ (zs p).length = n ∧ w'.ownsRow w.heap.size 3 1 (.slice A n c) n (is64 (zs p))
def PNone (w : World) (e : Ending) (w' : World) : Prop :=
  ∃ A c, e = .returned (.tuple #[.slice A 0 c, .bool false]) ∧ Below w.heap.size w w' ∧ RV w' A (is64 [])
theorem p_some {w : World} {l : List UInt8} {p : List Nat} (h : parseP l = some p) {e : Ending} {w' : World} (hp : ParseIs w l e w') : PSome w p e w' := by
  obtain ⟨A, n, c, he, hb, hn, ho⟩ := hp
  rw [h] at he hn ho
  exact ⟨A, n, c, he, hb, by rw [zs_len]; exact hn, by rw [← ints_zs]; exact ho⟩
theorem p_none {w : World} {l : List UInt8} (h : parseP l = none) {e : Ending} {w' : World} (hp : ParseIs w l e w') : PNone w e w' := by
  obtain ⟨A, n, c, he, hb, hn, ho⟩ := hp
  rw [h] at he hn ho
  have h0 : n = 0 := hn.symm
  subst h0
  exact ⟨A, c, he, hb, fun i v hv => by simp [is64] at hv⟩
set_option maxHeartbeats 4000000 in
set_option maxRecDepth 100000 in
theorem c_back (A : Option Addr) (n c : Nat) (l : List Int) (s : ByteArray) (w : World) (hG : Gw w)
    (hl : l.length = n) (hc : n ≤ c) (hn : n ≤ 140737488351232) (hr : RV w A (is64 l)) (hs : s.size ≤ 140737488351232) (hu : n + s.size ≤ 1048576) :
    Calls Tryd.prog 4 #[.slice A n c, .string s] w (TrueP w) := by
  have HG := Lib.hid hG
  have HL := Lib.hid hl
  have HR := Lib.hid hr
  have hn2 : n ≤ 1048576 := by omega
  have hs2 : s.size ≤ 1048576 := by omega
  clear hG hl hr hc hn hs hu
  have C1 := Lib.hid (c_text A n c l w HL.out (by omega) HR.out HG.out)
  obtain ⟨X, hX⟩ : ∃ X : ByteArray, X = ⟨(textP l).toArray⟩ := ⟨_, rfl⟩
  have hXl : X.data.toList = textP l := by rw [hX]
  have hXs : X.size ≤ 1048576000 := by
    rw [hX, size_of]
    have := text_len (l := l)
    rw [HL.out] at this
    omega
  have HX := Lib.hid hX
  have HXL := Lib.hid hXl
  clear hX hXl
  have DONE := Lib.hid (show ∀ (wx w' : World), Below wx.heap.size wx w' → Below w.heap.size w wx → TrueP w (.returned (.bool true)) w' from fun wx w' h5 h1 => ⟨rfl, h1.trans (h5.mono h1.size)⟩)
  cases hOK : okP l with
  | true =>
    have hpt := parse_text hOK
    cases hps : parseP s.data.toList with
    | none =>
      have HPS := Lib.hid hps
      clear hps
      go_enter Tryd.func4, Tryd.ntmps4
      go_upto_region 2 with (first
        | (go_at_call 12; go_must (refine C1.out.mono ?_); rintro e w1 ⟨he, hb⟩; rw [← HX.out, hOK] at he; subst he; have HB1 := Lib.hid hb; clear hb))
      have C2 := Lib.hid (c_parse X w1 hXs (HG.out.below HB1.out HG.out.sz))
      rw [HXL.out] at C2
      go_upto_region 3 with (first
        | (go_at_call 14; go_must (refine C2.out.mono ?_); intro e w2 he; obtain ⟨A2, n2, c2, rfl, hb, hn2', hown⟩ := p_some hpt he; rw [zs_nats hOK, HL.out] at hn2'; subst hn2'; rw [zs_nats hOK] at hown; have HB2 := Lib.hid (HB1.out.trans (hb.mono HB1.out.size)); have HO2 := Lib.hid (RV.own hown); clear hb hown he))
      have CI := Lib.hid (c_ints A2 A n n c2 c l l w2 HL.out HL.out (by omega) (by omega) HO2.out (HR.out.below HB2.out))
      rw [show decide (l = l) = true from decide_eq_true rfl] at CI
      have C3 := Lib.hid (fun (wx : World) (he : wx.heap = w2.heap) => c_parse s wx (by omega) (gw_heap (HG.out.below HB2.out HG.out.sz) he))
      have HBW := Lib.hid (fun (wx : World) (he : wx.heap = w2.heap) (h1 : wx.os = w2.os) (h2 : wx.tape = w2.tape) (h3 : wx.output = w2.output) => bel_heap HB2.out he h1 h2 h3)
      clear C1 C2 hOK
      go_upto_region 5 with (first
        | (go_at_call 16; go_must (refine CI.out.mono ?_); rintro e w3 ⟨rfl, d3, rfl⟩))
      go_upto_region 6 with (first
        | (go_at_call 14; go_must (refine (C3.out _ (by rfl)).mono ?_); intro e w4 he; obtain ⟨A4, c4, rfl, hb, hown⟩ := p_none HPS.out he; have HB4 := Lib.hid ((HBW.out _ (by rfl) (by rfl) (by rfl) (by rfl)).trans (hb.mono HB2.out.size)); have HO4 := Lib.hid hown; clear hb hown he))
      have C4 := Lib.hid (c_text A4 0 c4 [] w4 rfl (by omega) HO4.out (HG.out.below HB4.out HG.out.sz))
      go_upto_region 7 with (first
        | (go_at_call 12; go_must (refine C4.out.mono ?_); rintro e w5 ⟨he, hb⟩; obtain ⟨Y, hY⟩ : ∃ Y : ByteArray, (⟨(textP []).toArray⟩ : ByteArray) = Y := ⟨_, rfl⟩; rw [hY] at he; obtain ⟨o5, ho5⟩ : ∃ o5, okP [] = o5 := ⟨_, rfl⟩; rw [ho5] at he; subst he; clear hY ho5; have HB5 := Lib.hid (HB4.out.trans (hb.mono HB4.out.size)); clear hb))
      go_wp2_with (first
        | (go_at_call 17; go_must (refine (c_awake _ (gw_heap (HG.out.below HB5.out HG.out.sz) (by rfl))).mono ?_); rintro e w6 ⟨rfl, hb6⟩))
      go_ret
      exact DONE.out _ _ hb6 (bel_heap HB5.out rfl rfl rfl rfl)
    | some p =>
      have HPS := Lib.hid hps
      have HOK := Lib.hid (ok_zs hps)
      have HPL := Lib.hid (show p.length ≤ 1000000000 by
        have h1 := (parseP_iff s.data.toList p).1 hps
        have h2 : p.length ≤ (txt p).length := txt_ge p
        have h3 : s.data.toList.length = s.size := by rw [Lib.size_eq]
        rw [← h1.1] at h2
        omega)
      clear hps
      go_enter Tryd.func4, Tryd.ntmps4
      go_upto_region 2 with (first
        | (go_at_call 12; go_must (refine C1.out.mono ?_); rintro e w1 ⟨he, hb⟩; rw [← HX.out, hOK] at he; subst he; have HB1 := Lib.hid hb; clear hb))
      have C2 := Lib.hid (c_parse X w1 hXs (HG.out.below HB1.out HG.out.sz))
      rw [HXL.out] at C2
      go_upto_region 3 with (first
        | (go_at_call 14; go_must (refine C2.out.mono ?_); intro e w2 he; obtain ⟨A2, n2, c2, rfl, hb, hn2', hown⟩ := p_some hpt he; rw [zs_nats hOK, HL.out] at hn2'; subst hn2'; rw [zs_nats hOK] at hown; have HB2 := Lib.hid (HB1.out.trans (hb.mono HB1.out.size)); have HO2 := Lib.hid (RV.own hown); clear hb hown he))
      have CI := Lib.hid (c_ints A2 A n n c2 c l l w2 HL.out HL.out (by omega) (by omega) HO2.out (HR.out.below HB2.out))
      rw [show decide (l = l) = true from decide_eq_true rfl] at CI
      have C3 := Lib.hid (fun (wx : World) (he : wx.heap = w2.heap) => c_parse s wx (by omega) (gw_heap (HG.out.below HB2.out HG.out.sz) he))
      have HBW := Lib.hid (fun (wx : World) (he : wx.heap = w2.heap) (h1 : wx.os = w2.os) (h2 : wx.tape = w2.tape) (h3 : wx.output = w2.output) => bel_heap HB2.out he h1 h2 h3)
      clear C1 C2 hOK
      go_upto_region 5 with (first
        | (go_at_call 16; go_must (refine CI.out.mono ?_); rintro e w3 ⟨rfl, d3, rfl⟩))
      go_upto_region 6 with (first
        | (go_at_call 14; go_must (refine (C3.out _ (by rfl)).mono ?_); intro e w4 he; obtain ⟨A4, n4, c4, rfl, hb, hn4, hown⟩ := p_some HPS.out he; have HB4 := Lib.hid ((HBW.out _ (by rfl) (by rfl) (by rfl) (by rfl)).trans (hb.mono HB2.out.size)); have HO4 := Lib.hid (RV.own hown); have HN4 := Lib.hid hn4; clear hb hn4 hown he))
      have C4 := Lib.hid (c_text A4 n4 c4 (zs p) w4 HN4.out (by have h1 := HPL.out; have h2 := HN4.out; rw [zs_len] at h2; omega) HO4.out (HG.out.below HB4.out HG.out.sz))
      go_upto_region 7 with (first
        | (go_at_call 12; go_must (refine C4.out.mono ?_); rintro e w5 ⟨he, hb⟩; rw [HOK.out.1, HOK.out.2, show (⟨s.data.toList.toArray⟩ : ByteArray) = s from (ba_of rfl).symm] at he; subst he; have HB5 := Lib.hid (HB4.out.trans (hb.mono HB4.out.size)); clear hb))
      go_wp2_with (first
        | (go_at_call 17; go_must (refine (c_awake _ (gw_heap (HG.out.below HB5.out HG.out.sz) (by rfl))).mono ?_); rintro e w6 ⟨rfl, hb6⟩))
      go_ret
      exact DONE.out _ _ hb6 (bel_heap HB5.out rfl rfl rfl rfl)
  | false =>
    cases hps : parseP s.data.toList with
    | none =>
      have HPS := Lib.hid hps
      clear hps
      go_enter Tryd.func4, Tryd.ntmps4
      go_upto_region 2 with (first
        | (go_at_call 12; go_must (refine C1.out.mono ?_); rintro e w1 ⟨he, hb⟩; rw [← HX.out, hOK] at he; subst he; have HB1 := Lib.hid hb; clear hb))
      have C2 := Lib.hid (c_parse X w1 hXs (HG.out.below HB1.out HG.out.sz))
      rw [HXL.out, text_bad hOK] at C2
      go_upto_region 3 with (first
        | (go_at_call 14; go_must (refine C2.out.mono ?_); intro e w2 he; obtain ⟨A2, c2, rfl, hb, hown⟩ := p_none parse_emp he; have HB2 := Lib.hid (HB1.out.trans (hb.mono HB1.out.size)); clear hb hown he))
      have hxe : X.toList.isEmpty = true := by rw [← decide_eq_emptyBytes]; exact decide_eq_true (by rw [HX.out, text_bad hOK]; rfl)
      have C3 := Lib.hid (fun (wx : World) (he : wx.heap = w2.heap) => c_parse s wx (by omega) (gw_heap (HG.out.below HB2.out HG.out.sz) he))
      have HBW := Lib.hid (fun (wx : World) (he : wx.heap = w2.heap) (h1 : wx.os = w2.os) (h2 : wx.tape = w2.tape) (h3 : wx.output = w2.output) => bel_heap HB2.out he h1 h2 h3)
      clear C1 C2 hOK
      go_upto_region 5 with (fail)
      go_upto_region 6 with (first
        | (go_at_call 14; go_must (refine (C3.out _ (by rfl)).mono ?_); intro e w4 he; obtain ⟨A4, c4, rfl, hb, hown⟩ := p_none HPS.out he; have HB4 := Lib.hid ((HBW.out _ (by rfl) (by rfl) (by rfl) (by rfl)).trans (hb.mono HB2.out.size)); have HO4 := Lib.hid hown; clear hb hown he))
      have C4 := Lib.hid (c_text A4 0 c4 [] w4 rfl (by omega) HO4.out (HG.out.below HB4.out HG.out.sz))
      go_upto_region 7 with (first
        | (go_at_call 12; go_must (refine C4.out.mono ?_); rintro e w5 ⟨he, hb⟩; obtain ⟨Y, hY⟩ : ∃ Y : ByteArray, (⟨(textP []).toArray⟩ : ByteArray) = Y := ⟨_, rfl⟩; rw [hY] at he; obtain ⟨o5, ho5⟩ : ∃ o5, okP [] = o5 := ⟨_, rfl⟩; rw [ho5] at he; subst he; clear hY ho5; have HB5 := Lib.hid (HB4.out.trans (hb.mono HB4.out.size)); clear hb))
      go_wp2_with (first
        | (go_at_call 17; go_must (refine (c_awake _ (gw_heap (HG.out.below HB5.out HG.out.sz) (by rfl))).mono ?_); rintro e w6 ⟨rfl, hb6⟩))
      go_ret
      exact DONE.out _ _ hb6 (bel_heap HB5.out rfl rfl rfl rfl)
    | some p =>
      have HPS := Lib.hid hps
      have HOK := Lib.hid (ok_zs hps)
      have HPL := Lib.hid (show p.length ≤ 1000000000 by
        have h1 := (parseP_iff s.data.toList p).1 hps
        have h2 : p.length ≤ (txt p).length := txt_ge p
        have h3 : s.data.toList.length = s.size := by rw [Lib.size_eq]
        rw [← h1.1] at h2
        omega)
      clear hps
      go_enter Tryd.func4, Tryd.ntmps4
      go_upto_region 2 with (first
        | (go_at_call 12; go_must (refine C1.out.mono ?_); rintro e w1 ⟨he, hb⟩; rw [← HX.out, hOK] at he; subst he; have HB1 := Lib.hid hb; clear hb))
      have C2 := Lib.hid (c_parse X w1 hXs (HG.out.below HB1.out HG.out.sz))
      rw [HXL.out, text_bad hOK] at C2
      go_upto_region 3 with (first
        | (go_at_call 14; go_must (refine C2.out.mono ?_); intro e w2 he; obtain ⟨A2, c2, rfl, hb, hown⟩ := p_none parse_emp he; have HB2 := Lib.hid (HB1.out.trans (hb.mono HB1.out.size)); clear hb hown he))
      have hxe : X.toList.isEmpty = true := by rw [← decide_eq_emptyBytes]; exact decide_eq_true (by rw [HX.out, text_bad hOK]; rfl)
      have C3 := Lib.hid (fun (wx : World) (he : wx.heap = w2.heap) => c_parse s wx (by omega) (gw_heap (HG.out.below HB2.out HG.out.sz) he))
      have HBW := Lib.hid (fun (wx : World) (he : wx.heap = w2.heap) (h1 : wx.os = w2.os) (h2 : wx.tape = w2.tape) (h3 : wx.output = w2.output) => bel_heap HB2.out he h1 h2 h3)
      clear C1 C2 hOK
      go_upto_region 5 with (fail)
      go_upto_region 6 with (first
        | (go_at_call 14; go_must (refine (C3.out _ (by rfl)).mono ?_); intro e w4 he; obtain ⟨A4, n4, c4, rfl, hb, hn4, hown⟩ := p_some HPS.out he; have HB4 := Lib.hid ((HBW.out _ (by rfl) (by rfl) (by rfl) (by rfl)).trans (hb.mono HB2.out.size)); have HO4 := Lib.hid (RV.own hown); have HN4 := Lib.hid hn4; clear hb hn4 hown he))
      have C4 := Lib.hid (c_text A4 n4 c4 (zs p) w4 HN4.out (by have h1 := HPL.out; have h2 := HN4.out; rw [zs_len] at h2; omega) HO4.out (HG.out.below HB4.out HG.out.sz))
      go_upto_region 7 with (first
        | (go_at_call 12; go_must (refine C4.out.mono ?_); rintro e w5 ⟨he, hb⟩; rw [HOK.out.1, HOK.out.2, show (⟨s.data.toList.toArray⟩ : ByteArray) = s from (ba_of rfl).symm] at he; subst he; have HB5 := Lib.hid (HB4.out.trans (hb.mono HB4.out.size)); clear hb))
      go_wp2_with (first
        | (go_at_call 17; go_must (refine (c_awake _ (gw_heap (HG.out.below HB5.out HG.out.sz) (by rfl))).mono ?_); rintro e w6 ⟨rfl, hb6⟩))
      go_ret
      exact DONE.out _ _ hb6 (bel_heap HB5.out rfl rfl rfl rfl)
end Go.Proofs.YtgjningfpkoooaaDoor.Ro
