/- The reference's writer: body. -/
import Derived.Test.YtdpnlmofkkdioaaDoorVh
namespace Go.Proofs.YtdpnlmofkkdioaaDoor.Hf
set_option linter.unusedVariables false
set_option linter.unusedSimpArgs false
open Go.RowKit Go.Proofs.YtdpnlmofkkdioaaDoor.W

/-- Rows of structs of three cells. -/
def R3 (w : World) (t : TypeId) (A : Option Addr) (l : List (Value × Value × Value)) : Prop :=
  ∀ j a b c, l[j]? = some (a, b, c) → ∃ g xs, A = some ⟨g, 0, none⟩ ∧ w.heap[g]? = some (.cells xs t (0, 0)) ∧ xs[j * 3]? = some a ∧ xs[j * 3 + 1]? = some b ∧ xs[j * 3 + 2]? = some c
theorem R3.fw {B : Nat} {w w' : World} {t : TypeId} {A : Option Addr} {l : List (Value × Value × Value)} (h : R3 w t A l) (ht : t ≠ 5 ∧ t ≠ 72) (hf : Fw B w w') : R3 w' t A l := fun j a b c hj => by
  obtain ⟨g, xs, h1, h2, h3⟩ := h j a b c hj
  exact ⟨g, xs, h1, hf.block g _ h2 (.inr ⟨_, _, rfl, ht.1, ht.2⟩), h3⟩
theorem R3.kp {w w' : World} {t : TypeId} {A : Option Addr} {l : List (Value × Value × Value)} (h : R3 w t A l) (hf : Kp [] w w') : R3 w' t A l := fun j a b c hj => by
  obtain ⟨g, xs, h1, h2, h3⟩ := h j a b c hj
  exact ⟨g, xs, h1, (hf.block g (Array.getElem?_eq_some_iff.1 h2).1 (by simp)).trans h2, h3⟩
theorem flat3_get {l : List (Value × Value × Value)} {a b c : Value} : ∀ {j : Nat}, l[j]? = some (a, b, c) → (l.flatMap fun t => [t.1, t.2.1, t.2.2])[j * 3]? = some a ∧ (l.flatMap fun t => [t.1, t.2.1, t.2.2])[j * 3 + 1]? = some b ∧ (l.flatMap fun t => [t.1, t.2.1, t.2.2])[j * 3 + 2]? = some c := by
  induction l with
  | nil => intro j h; simp at h
  | cons x l ih =>
    intro j h
    cases j with
    | zero => simp at h; subst h; simp
    | succ j =>
      have := ih (j := j) (by simpa using h)
      rw [List.flatMap_cons, show (j + 1) * 3 = j * 3 + 3 by omega, show j * 3 + 3 + 1 = (j * 3 + 1) + 3 by omega, show j * 3 + 3 + 2 = (j * 3 + 2) + 3 by omega]
      exact this
theorem R3.own {w : World} {base n c : Nat} {t : TypeId} {A : Option Addr} {l : List (Value × Value × Value)} (h : w.ownsRow base t 3 (.slice A n c) n (l.flatMap fun t => [t.1, t.2.1, t.2.2])) : R3 w t A l := fun j x y z hj => by
  obtain ⟨h5, h6, h7⟩ := flat3_get hj
  rcases h.2 with ⟨h0, h1⟩ | ⟨g, cap, cur, hs, hb, hg, hn, hm, hsz, ht⟩
  · have hl := h.1
    rw [h1] at hl
    have := (List.getElem?_eq_some_iff.1 h5).1
    omega
  · injection hs with hA _ _
    subst hA
    refine ⟨g, cur, rfl, hg, ?_, ?_, ?_⟩
    all_goals first | rw [← ht] at h5 h6 h7
    all_goals rw [List.getElem?_take] at h5 h6 h7
    · split at h5
      · simpa using h5
      · cases h5
    · split at h6
      · simpa using h6
      · cases h6
    · split at h7
      · simpa using h7
      · cases h7
def tk3 (l : List Tok) : List (Value × Value × Value) := l.map fun t => (.int .u8 t.x, .int .i64 (t.len : Nat), .int .i64 (t.dist : Nat))
theorem tkC_3 (l : List Tok) : tkC l = (tk3 l).flatMap fun t => [t.1, t.2.1, t.2.2] := by unfold tkC tk3; rw [List.flatMap_map]
def TokOk (t : Tok) : Prop := (t.len = 0 ∧ 0 ≤ t.x ∧ t.x < 256) ∨ (3 ≤ t.len ∧ t.len ≤ 258 ∧ 1 ≤ t.dist ∧ t.dist ≤ 200)
theorem Toks.ok {b : List Int} (hb : Bytes b) {i j : Nat} {l : List Tok} (h : Toks b i l j) : ∀ t ∈ l, TokOk t := by
  induction h with
  | nil i => intro t ht; cases ht
  | lit hx _ ih =>
    intro t ht
    rcases List.mem_cons.1 ht with rfl | h2
    · have := hb _ (List.mem_of_getElem? hx); exact .inl ⟨rfl, this.1, this.2⟩
    · exact ih t h2
  | cpy h1 h2 h3 h4 h5 h6 h7 _ ih =>
    intro t ht
    rcases List.mem_cons.1 ht with rfl | h9
    · exact .inr ⟨h1, h2, h3, h4⟩
    · exact ih t h9
theorem mL_le : ∀ s : _root_.Fin 29, mL.getD s.val 0 ≤ 5 := by decide
theorem mB_le : ∀ s : _root_.Fin 30, mB.getD s.val 0 ≤ 13 := by decide
theorem encToks_snoc {a d : List Nat} {l : List Tok} {i : Nat} {t : Tok} (h : l[i]? = some t) : encToks a d (l.take (i + 1)) = encToks a d (l.take i) ++ encTok a d t := by
  obtain ⟨h1, h2⟩ := List.getElem?_eq_some_iff.1 h
  rw [List.take_succ_eq_append_getElem h1, h2]
  unfold encToks
  rw [List.flatMap_append]
  simp
set_option maxHeartbeats 16000000 in
set_option maxRecDepth 100000 in
theorem w_body (w : World) (B wb p q : Nat) (a d : List Nat) (At : Option Addr) (n ct : Nat) (l : List Tok) (bs : List Bool) (h : Wz w B wb bs) (hp : Tr w p a) (hq : Tr w q d) (hl : l.length = n) (hr : R3 w 104 At (tk3 l)) (hok : ∀ t ∈ l, TokOk t)
    (ha : 286 ≤ a.length ∧ a.length ≤ 1000) (hd : 30 ≤ d.length ∧ d.length ≤ 1000) (ha15 : ∀ x ∈ a, x ≤ 15) (hd15 : ∀ x ∈ d, x ≤ 15) (hn : n ≤ 5000) (hbs : bs.length ≤ 800000000000) :
    Calls Tryd.prog 39 #[.pointer (some ⟨wb, 0, none⟩), .slice At n ct, .pointer (some ⟨p, 0, none⟩), .pointer (some ⟨q, 0, none⟩)] w (WP w B wb (bs ++ (encToks a d l ++ code a 256))) := by
  have H := Lib.hid h
  have HP := Lib.hid hp
  have HQ := Lib.hid hq
  have HR := Lib.hid hr
  have HLL := Lib.hid hl
  have HOK := Lib.hid hok
  have HLE := Lib.hid (show (286 ≤ a.length ∧ a.length ≤ 1000) ∧ (30 ≤ d.length ∧ d.length ≤ 1000) ∧ (∀ x ∈ a, x ≤ 15) ∧ (∀ x ∈ d, x ≤ 15) ∧ bs.length ≤ 800000000000 from ⟨ha, hd, ha15, hd15, hbs⟩)
  clear h hp hq hr hl hok ha hd ha15 hd15 hbs
  go_enter Tryd.func39, Tryd.ntmps39
  go_wp2_with (fail)
  go_loopg [8] n (fun g s8 wx => ∃ i, i + g = n ∧ s8 = .int .i64 (i : Nat) ∧ Hid (Wz wx B wb (bs ++ encToks a d (l.take i)) ∧ Fw B w wx ∧ (bs ++ encToks a d (l.take i)).length ≤ 800000000000 + 64 * i))
  case atStart => exact ⟨0, by omega, rfl, Lib.hid ⟨by rw [List.take_zero]; show Wz w B wb (bs ++ []); rw [List.append_nil]; exact H.out, Fw.refl _ _, by rw [List.take_zero]; show (bs ++ []).length ≤ _; rw [List.append_nil]; have := HLE.out.2.2.2.2; omega⟩⟩
  case round =>
    obtain ⟨i, hig, rfl, hst⟩ := hrel
    cases gk with
    | zero =>
      obtain rfl : i = n := by omega
      have hk : ¬ (i : Int) < (i : Int) := by omega
      have C1 := Lib.hid (w_symbol wr B wb p a _ 256 hst.out.1 (HP.out.fw hst.out.2.1) HLE.out.2.2.1 (by have := HLE.out.1; omega) (by have := hst.out.2.2; omega) (by have := HLE.out.1; omega))
      go_wp2_with (first
        | (go_at_call 57; go_must (refine C1.out.mono ?_); rintro e w2 ⟨rfl, h1, h2⟩; have HW2 := Lib.hid h1; have HF2 := Lib.hid h2; clear h1 h2))
      refine bodyPost_end (results_none rfl _ _ _) rfl ?_
      refine ⟨rfl, ?_, hst.out.2.1.trans HF2.out⟩
      have h9 := HW2.out
      rw [← HLL.out, List.take_length, List.append_assoc] at h9
      exact h9
    | succ g =>
      have hk : (i : Int) < (n : Int) := by omega
      have hk0 : (0 : Int) ≤ (i : Int) := by omega
      obtain ⟨t, ht⟩ : ∃ t, l[i]? = some t := ⟨_, List.getElem?_eq_getElem (by rw [HLL.out]; omega)⟩
      obtain ⟨x, len, dist⟩ := t
      obtain ⟨gb, xs, rfl, hg, x0, x1, x2⟩ := HR.out i (.int .u8 x) (.int .i64 (len : Nat)) (.int .i64 (dist : Nat)) (by unfold tk3; rw [List.getElem?_map, ht]; rfl)
      have HT := Lib.hid ht
      have HTO := Lib.hid (HOK.out _ (List.mem_of_getElem? ht))
      have HCE := Lib.hid (show ∀ wx, Fw B w wx → wx.cell? ⟨gb, i * 3, none⟩ = some (.int .u8 x) ∧ wx.cell? ⟨gb, i * 3 + 1, none⟩ = some (.int .i64 (len : Nat)) ∧ wx.cell? ⟨gb, i * 3 + 2, none⟩ = some (.int .i64 (dist : Nat)) from fun wx hf => by
        have h1 := hf.block gb _ hg (.inr ⟨_, _, rfl, by decide, by decide⟩)
        exact ⟨(cell_of_row wx gb _ _ _ _ h1).trans x0, (cell_of_row wx gb _ _ _ _ h1).trans x1, (cell_of_row wx gb _ _ _ _ h1).trans x2⟩)
      obtain ⟨c0, c1, c2⟩ := HCE.out _ hst.out.2.1
      clear ht hg x0 x1 x2
      have HSN := Lib.hid (encToks_snoc (a := a) (d := d) HT.out)
      rcases HTO.out with ⟨hlen, hx0, hx1⟩ | ⟨h3, h258, hd1, hd200⟩
      · dsimp only at hlen hx0 hx1
        subst hlen
        obtain ⟨y, rfl⟩ : ∃ y : Nat, x = (y : Int) := ⟨x.toNat, by omega⟩
        have C1 := Lib.hid (w_symbol wr B wb p a _ y hst.out.1 (HP.out.fw hst.out.2.1) HLE.out.2.2.1 (by have := HLE.out.1; omega) (by have := hst.out.2.2; omega) (by have := HLE.out.1; omega))
        have HLC := Lib.hid (code_len15 HLE.out.2.2.1 (i := y) (by have := HLE.out.1; omega))
        go_wp2_with (first
          | (go_at_call 57; go_must (refine C1.out.mono ?_); rintro e w2 ⟨rfl, h1, h2⟩; have HW2 := Lib.hid h1; have HF2 := Lib.hid h2; clear h1 h2))
        go_roundg g
        case measure => omega
        case rel =>
          have e : bs ++ encToks a d (l.take (i + 1)) = bs ++ encToks a d (l.take i) ++ code a y := by
            rw [HSN.out, List.append_assoc]; rfl
          refine ⟨i + 1, by omega, by go_num, Lib.hid ⟨by rw [e]; exact HW2.out, hst.out.2.1.trans HF2.out, ?_⟩⟩
          rw [e, List.length_append]
          have := hst.out.2.2
          have := HLC.out
          omega
      · dsimp only at h3 h258 hd1 hd200
        have hl0 : ¬ (len : Int) = 0 := by omega
        have q1 := lsy_ok h3 h258
        have q2 := dsy_ok hd1 hd200
        have m1 := mL_le ⟨lsy len, by omega⟩
        have m2 := mB_le ⟨dsy dist, by omega⟩
        dsimp only at m1 m2
        obtain ⟨s1, hs1⟩ : ∃ s, 257 + lsy len = s := ⟨_, rfl⟩
        obtain ⟨v1, hv1⟩ : ∃ s, len - lL.getD (lsy len) 0 = s := ⟨_, rfl⟩
        obtain ⟨n1, hn1⟩ : ∃ s, mL.getD (lsy len) 0 = s := ⟨_, rfl⟩
        obtain ⟨s2, hs2⟩ : ∃ s, dsy dist = s := ⟨_, rfl⟩
        obtain ⟨v2, hv2⟩ : ∃ s, dist - lB.getD (dsy dist) 0 = s := ⟨_, rfl⟩
        obtain ⟨n2, hn2⟩ : ∃ s, mB.getD (dsy dist) 0 = s := ⟨_, rfl⟩
        have C1 := Lib.hid (w_lsym wr len h3 h258)
        rw [hs1, hv1, hn1] at C1
        have C4 := Lib.hid (fun wx => w_dsym wx dist hd1 hd200)
        rw [hv2, hn2, hs2] at C4
        have HQ1 := Lib.hid (show s1 ≤ 285 ∧ v1 ≤ 258 ∧ n1 ≤ 5 ∧ s2 ≤ 15 ∧ v2 ≤ 200 ∧ n2 ≤ 13 by omega)
        have HLC := Lib.hid (code_len15 HLE.out.2.2.1 (i := s1) (by have := HLE.out.1; have := HQ1.out; omega))
        have HLD := Lib.hid (code_len15 HLE.out.2.2.2.1 (i := s2) (by have := HLE.out.2.1; have := HQ1.out; omega))
        have HEN := Lib.hid (show encTok a d ⟨x, len, dist⟩ = code a s1 ++ (bitsOf n1 v1 ++ (code d s2 ++ bitsOf n2 v2)) by
          unfold encTok; dsimp only; rw [if_neg (by omega), hs1, hv1, hn1, hv2, hn2, hs2])
        clear q1 q2 m1 m2 hs1 hv1 hn1 hs2 hv2 hn2 h3 h258 hd1 hd200
        obtain ⟨bs0, hbs0⟩ : ∃ x, bs ++ encToks a d (l.take i) = x := ⟨_, rfl⟩
        have HW0 := Lib.hid (show Wz wr B wb bs0 ∧ bs0.length ≤ 800000000000 + 64 * i by rw [← hbs0]; exact ⟨hst.out.1, hst.out.2.2⟩)
        have HF0 := Lib.hid hst.out.2.1
        have HB0 := Lib.hid hbs0
        clear hst hbs0
        have C2 := Lib.hid (w_symbol wr B wb p a bs0 s1 HW0.out.1 (HP.out.fw HF0.out) HLE.out.2.2.1 (by have := HLE.out.1; have := HQ1.out; omega) (by have := HW0.out.2; omega) (by have := HLE.out.1; omega))
        go_upto_region 6 with (first
          | (go_at_call 58; go_must (refine C1.out.mono ?_); rintro e w2 ⟨rfl, rfl⟩))
        go_upto_region 7 with (first
          | (go_at_call 57; go_must (refine C2.out.mono ?_); rintro e w2 ⟨rfl, h1, h2⟩; have HW2 := Lib.hid h1; have HF2 := Lib.hid (HF0.out.trans h2); clear h1 h2))
        have HL2 := Lib.hid (show (bs0 ++ code a s1).length ≤ 800000000000 + 64 * i + 15 by rw [List.length_append]; have := HW0.out.2; have := HLC.out; omega)
        have C3 := Lib.hid (w_number w2 B wb _ v1 n1 HW2.out (by have := HQ1.out; omega) (by have := HQ1.out; omega) (by have := HL2.out; omega))
        go_upto_region 8 with (first
          | (go_at_call 38; go_must (refine C3.out.mono ?_); rintro e w3 ⟨rfl, h1, h2⟩; have HW3 := Lib.hid h1; have HF3 := Lib.hid (HF2.out.trans h2); clear h1 h2))
        have HL3 := Lib.hid (show (bs0 ++ code a s1 ++ bitsOf n1 v1).length ≤ 800000000000 + 64 * i + 20 by rw [List.length_append, bitsOf_length]; have := HL2.out; have := HQ1.out; omega)
        obtain ⟨c03, c13, c23⟩ := HCE.out _ HF3.out
        have C4b := Lib.hid (C4.out w3)
        go_upto_region 9 with (first
          | (go_at_call 59; go_must (refine C4b.out.mono ?_); rintro e w4 ⟨rfl, rfl⟩))
        have C5 := Lib.hid (w_symbol w3 B wb q d _ s2 HW3.out (HQ.out.fw HF3.out) HLE.out.2.2.2.1 (by have := HLE.out.2.1; have := HQ1.out; omega) (by have := HL3.out; omega) (by have := HLE.out.2.1; omega))
        go_upto_region 10 with (first
          | (go_at_call 57; go_must (refine C5.out.mono ?_); rintro e w5 ⟨rfl, h1, h2⟩; have HW5 := Lib.hid h1; have HF5 := Lib.hid (HF3.out.trans h2); clear h1 h2))
        have HL5 := Lib.hid (show (bs0 ++ code a s1 ++ bitsOf n1 v1 ++ code d s2).length ≤ 800000000000 + 64 * i + 35 by rw [List.length_append]; have := HL3.out; have := HLD.out; omega)
        have C6 := Lib.hid (w_number w5 B wb _ v2 n2 HW5.out (by have := HQ1.out; omega) (by have := HQ1.out; omega) (by have := HL5.out; omega))
        go_wp2_with (first
          | (go_at_call 38; go_must (refine C6.out.mono ?_); rintro e w6 ⟨rfl, h1, h2⟩; have HW6 := Lib.hid h1; have HF6 := Lib.hid (HF5.out.trans h2); clear h1 h2))
        go_roundg g
        case measure => omega
        case rel =>
          have e : bs ++ encToks a d (l.take (i + 1)) = bs0 ++ code a s1 ++ bitsOf n1 v1 ++ code d s2 ++ bitsOf n2 v2 := by
            rw [HSN.out, HEN.out, ← HB0.out]; simp only [List.append_assoc]
          refine ⟨i + 1, by omega, by go_num, Lib.hid ⟨by rw [e]; exact HW6.out, HF6.out, ?_⟩⟩
          rw [e, List.length_append, bitsOf_length]
          have := HL5.out
          have := HQ1.out
          omega
end Go.Proofs.YtdpnlmofkkdioaaDoor.Hf
