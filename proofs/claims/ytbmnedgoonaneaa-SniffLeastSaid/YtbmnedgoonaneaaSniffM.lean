/- The laws of layer 18, walked: SniffStays (where the arguments are small), SniffKnown. -/
import Derived.Test.YtbmnedgoonaneaaSniffL
namespace Go.Proofs.Ytbmnedgoonaneaa.Sn
open Go.RowKit Go.Proofs.Ytbmnedgoonaneaa.W

theorem sniff_pair {l : List Int} (hb : Bytes l) (e : Bool) : (sniff l e false marks).2 = true → (sniff l e false marks).1 = kind l := by
  rw [sniff_ref hb]
  unfold refS
  split
  · simp
  · split <;> simp
theorem kind_ne (l : List Int) : kind l ≠ 0 := by
  unfold kind
  split
  · decide
  · split
    · decide
    · split <;> decide
theorem sniff_true {l : List Int} (hb : Bytes l) : sniff l true false marks = (kind l, true) := by rw [sniff_ref hb]; rfl
theorem sniff_long {l : List Int} (hb : Bytes l) (h : 262 ≤ l.length) : (sniff l false false marks).2 = true := by
  rw [sniff_ref hb, all_true]
  intro x hx
  simp only [filesL, List.mem_cons, List.not_mem_nil, or_false] at hx
  have h1 : padTo l [31, 139, 8] = l := padTo_id (by simp; omega)
  have h2 : padTo l [80, 75, 3, 4] = l := padTo_id (by simp; omega)
  rw [h1, h2, fill_id (by omega), ust_id h] at hx
  rcases hx with rfl | rfl | rfl | rfl <;> rfl
theorem sniff_zero (l : List Int) : ∀ ms op, (sniff l false op ms).2 = false → (sniff l false op ms).1 = 0
  | [], op => by cases op <;> simp [sniff]
  | (k, a, t) :: ms, op => by
    unfold sniff
    split
    · exact sniff_zero l ms true
    · split
      · exact sniff_zero l ms op
      · split <;> simp
theorem sniff_stays (l m : List Int) (h : (sniff l false false marks).2 = true) : sniff (l ++ m) false false marks = sniff l false false marks := by
  unfold marks at h ⊢
  simp only [sniff] at h ⊢
  rcases cmp_cases l [31, 139, 8] 0 with hg | hg | hg
  · simp [hg, sniff_open] at h
  · have hg2 := cmp_ext1 l m _ 0 hg
    rcases cmp_cases l [80, 75, 3, 4] 0 with hz | hz | hz
    · simp [hg, hz] at h
    · have hz2 := cmp_ext1 l m _ 0 hz
      rcases cmp_cases l [117, 115, 116, 97, 114] 257 with ht | ht | ht
      · simp [hg, hz, ht] at h
      · have ht2 := cmp_ext1 l m _ 257 ht
        simp [hg, hz, ht, hg2, hz2, ht2]
      · have ht2 := cmp_ext2 l m _ 257 ht
        simp [hg, hz, ht, hg2, hz2, ht2]
    · have hz2 := cmp_ext2 l m _ 0 hz
      simp [hg, hz, hg2, hz2]
  · have hg2 := cmp_ext2 l m _ 0 hg
    simp [hg, hg2]

set_option maxHeartbeats 1000000 in
set_option maxRecDepth 100000 in
theorem stays (A : Option Addr) (n c : Nat) (l : List Int) (A1 : Option Addr) (n1 c1 : Nat) (m : List Int) (w : World) (hl : l.length = n) (_hnc : n ≤ c) (_hn : n ≤ 140737488351232) (hb : Bytes l) (hr : RB w A l)
    (hl1 : m.length = n1) (_hnc1 : n1 ≤ c1) (_hn1 : n1 ≤ 140737488351232) (hb1 : Bytes m) (hr1 : RB w A1 m) (hup : n + n1 ≤ 1048576) :
    Calls Try.prog 4 #[.slice A n c, .slice A1 n1 c1] w fun e w' => e = .returned (.bool true) ∧ Below w.heap.size w w' := by
  have hbm : Bytes (l ++ m) := bytes_append hb hb1
  obtain ⟨K, B, hK⟩ : ∃ K B, sniff l false false marks = (K, B) := ⟨_, _, rfl⟩
  obtain ⟨K2, B2, hK2⟩ : ∃ K B, sniff (l ++ m) false false marks = (K, B) := ⟨_, _, rfl⟩
  have hK3 : sniff (l ++ m) true false marks = (kind (l ++ m), true) := sniff_true hbm
  obtain ⟨K3, hk3⟩ : ∃ K3, kind (l ++ m) = K3 := ⟨_, rfl⟩
  have hz3 : K3 ≠ 0 := by rw [← hk3]; exact kind_ne _
  have h2 : B2 = true → K2 = K3 := by
    intro h
    have := sniff_pair hbm false
    rw [hK2, hk3] at this
    exact this h
  have h1 : B = true → B2 = true ∧ K2 = K := by
    intro h
    have := sniff_stays l m (by rw [hK]; exact h)
    rw [hK, hK2] at this
    injection this with e1 e2
    exact ⟨e2.trans h, e1⟩
  have h0 : B = false → K = 0 ∧ n < 262 := by
    intro h
    have := sniff_zero l marks false (by rw [hK]; exact h)
    rw [hK] at this
    refine ⟨this, ?_⟩
    rcases Nat.lt_or_ge n 262 with hlt | hge
    · exact hlt
    · have := sniff_long hb (by rw [hl]; exact hge)
      rw [hK] at this
      rw [show B = true from this] at h
      cases h
  rw [hk3] at hK3
  clear hk3
  have HC := Lib.hid hr
  have HL := Lib.hid hl
  have HC1 := Lib.hid hr1
  have HK := Lib.hid hK
  have HK2 := Lib.hid hK2
  have HK3 := Lib.hid hK3
  have HL8 := Lib.hid ((u8s_length l).trans hl)
  have HM8 := Lib.hid ((u8s_length m).trans hl1)
  have HLM : Hid ((l ++ m).length = n + n1) := (by show _ = _; rw [List.length_append, hl, hl1])
  clear hr hl hr1 hl1 hK hK2 hK3
  have m1 : 0 + n ≤ maxLen := by unfold maxLen; omega
  have m2 : (0 + n) * 1 ≤ 140737488355328 := by omega
  have m3 : n + n1 ≤ maxLen := by unfold maxLen; omega
  have m4 : (n + n1) * 1 ≤ 140737488355328 := by omega
  have hn2 : n ≤ 140737488355328 := by omega
  have hn3 : n + n1 ≤ 140737488355328 := by omega
  have z3 : (K3 == 0) = false := eqF hz3
  have hB : (B = true ∧ B2 = true ∧ K2 = K3 ∧ K = K3) ∨ (B = false ∧ K = 0 ∧ n < 262 ∧ B2 = true ∧ K2 = K3) ∨ (B = false ∧ K = 0 ∧ n < 262 ∧ B2 = false) := by
    cases B
    · cases B2
      · exact .inr (.inr ⟨rfl, (h0 rfl).1, (h0 rfl).2, rfl⟩)
      · exact .inr (.inl ⟨rfl, (h0 rfl).1, (h0 rfl).2, rfl, h2 rfl⟩)
    · exact .inl ⟨rfl, (h1 rfl).1, h2 (h1 rfl).1, (h1 rfl).2.symm.trans (h2 (h1 rfl).1)⟩
  clear h0 h1 h2 hz3
  have tk1 : True := trivial
  have tk2 : True := trivial
  have tk3 : True := trivial
  rcases hB with ⟨rfl, rfl, rfl, rfl⟩ | ⟨rfl, rfl, h262, rfl, rfl⟩ | ⟨rfl, rfl, h262, rfl⟩
  all_goals
    (try have hi262 : ¬ (262 : Int) ≤ (n : Int) := by omega)
    go_enter Try.func4, Try.ntmps4
    go_wp2_with (first
      | (go_at_call 7; have _t := tk1; go_must (refine (sniff_r HK.out HL.out hn2 HC.out).mono ?_); rintro e w1 ⟨rfl, hb1⟩; have HCn := HC.out.below hb1; have HC1n := HC1.out.below hb1; clear tk1 _t)
      | (at_builtin; have _t := tk2; go_must (refine wpList_ap el8 rfl (.tmp 17) _ (by rfl) (by rfl) (own_lit (n := 0) #[] rfl (Nat.le_refl w1.heap.size) (Nat.zero_le _)) (by rfl) HL8.out (RV.alloc HCn _) (u8s_one l) m1 m2 (by simp) ?_); intro A2 c2 w2 own2 grow2 at2 le2; go_must (simp only [Nat.zero_add, List.nil_append] at own2 le2 ⊢; have g2 := grow_new' grow2; have HC1m := HC1n.below (grownBy_below g2)); clear tk2 _t)
      | (at_builtin; go_must (refine wpList_ap el8 rfl (.tmp 19) _ (by rfl) (by rfl) own2 (by rfl) HM8.out HC1m (u8s_one m) m3 m4 g2.size ?_); intro A3 c3 w3 own3 grow3 at3 le3; go_must (rw [← u8s_append] at own3; have g3 := grow_row g2 grow3 (fun k hk => (own2.lt k hk).1)))
      | (go_at_call 7; have _t := tk3; go_must (refine (sniff_r HK2.out HLM.out hn3 (RV.own own3)).mono ?_); rintro e w4 ⟨rfl, hb4⟩; have own4 := own3.kept (below_grownBy hb4 none) own_em; clear tk3 _t)
      | (go_at_call 7; go_must (refine (sniff_r HK3.out HLM.out hn3 (RV.own own4)).mono ?_); rintro e w5 ⟨rfl, hb5⟩)
      | (go_at_call 9; go_must (refine (awake _).mono ?_); rintro e w6 ⟨rfl, hb6⟩))
    go_ret
    exact ⟨rfl, (((hb1.trans ((grownBy_below g3).mono hb1.size)).trans (hb4.mono (Nat.le_trans hb1.size g3.size))).trans (hb5.mono (Nat.le_trans (Nat.le_trans hb1.size g3.size) hb4.size))).trans (hb6.mono (Nat.le_trans (Nat.le_trans (Nat.le_trans hb1.size g3.size) hb4.size) hb5.size))⟩

theorem sniff_111 {l : List Int} (hg : cmp l 0 [31, 139, 8] = 1) (hz : cmp l 0 [80, 75, 3, 4] = 1) (ht : cmp l 257 [117, 115, 116, 97, 114] = 1) (e : Bool) : sniff l e false marks = (1, true) := by
  unfold marks
  simp [sniff, hg, hz, ht]
theorem sniff_112 {l : List Int} (hg : cmp l 0 [31, 139, 8] = 1) (hz : cmp l 0 [80, 75, 3, 4] = 1) (ht : cmp l 257 [117, 115, 116, 97, 114] = 2) (e : Bool) : sniff l e false marks = (8, true) := by
  unfold marks
  simp [sniff, hg, hz, ht]
theorem zeros_plain : sniff (List.replicate 258 0) false false marks = (1, true) ∧ sniff (List.replicate 257 0 ++ [117, 115, 116, 97, 114]) false false marks = (8, true) := by
  constructor
  · have h1 : (List.replicate 258 (0 : Int)) = 0 :: List.replicate 257 0 := rfl
    have hg : cmp (List.replicate 258 0) 0 [31, 139, 8] = 1 := by rw [h1]; rfl
    have hz : cmp (List.replicate 258 0) 0 [80, 75, 3, 4] = 1 := by rw [h1]; rfl
    have ht : cmp (List.replicate 258 0) 257 [117, 115, 116, 97, 114] = 1 := by
      rw [cmp, List.getElem?_replicate]
      rfl
    exact sniff_111 hg hz ht false
  · have h1 : (List.replicate 257 (0 : Int)) = 0 :: List.replicate 256 0 := rfl
    have hg : cmp (List.replicate 257 0 ++ [117, 115, 116, 97, 114]) 0 [31, 139, 8] = 1 := by rw [h1]; rfl
    have hz : cmp (List.replicate 257 0 ++ [117, 115, 116, 97, 114]) 0 [80, 75, 3, 4] = 1 := by rw [h1]; rfl
    have ht : cmp (List.replicate 257 0 ++ [117, 115, 116, 97, 114]) 257 [117, 115, 116, 97, 114] = 2 := by
      rw [cmp_two, List.drop_append_of_le_length (by rw [List.length_replicate]; omega), List.drop_eq_nil_of_le (by rw [List.length_replicate]; omega)]
      rfl
    exact sniff_112 hg hz ht false

set_option maxHeartbeats 1000000 in
set_option maxRecDepth 100000 in
theorem known (w : World) : Calls Try.prog 6 #[] w fun e w' => e = .returned (.bool true) ∧ Below w.heap.size w w' := by
  have c1 := fun (w : World) => sniff_r (c := 2) (w := w.alloc (.cells #[.int .u8 31, .int .u8 139] 5)) (show sniff [31, 139] true false marks = (1, true) by decide) rfl (by decide) (RV.new _ _)
  have c2 := fun (w : World) => sniff_r (A := none) (n := 0) (c := 0) (w := w) (show sniff [] true false marks = (1, true) by decide) rfl (by decide) (RV.nil _ _)
  have c3 := fun (w : World) => sniff_r (c := 4) (w := w.alloc (.cells #[.int .u8 80, .int .u8 75, .int .u8 3, .int .u8 4] 5)) (show sniff [80, 75, 3, 4] false false marks = (9, true) by decide) rfl (by decide) (RV.new _ _)
  have C1 := Lib.hid c1
  have C2 := Lib.hid c2
  have C3 := Lib.hid c3
  have C4 := Lib.hid zeros_plain
  have hm1 : ∀ w : World, (Instr.makeSlice 22 (.int .i64 258) (.int .i64 258)).run Try.prog w = .ok (.slice (some ⟨w.heap.size, 0, none⟩) 258 258) (w.alloc (.cells (madeCells #[.int .u8 0] 258) 5)) := fun w => run_mk el8 .i64 .i64 (Nat.le_refl 258) (by omega) (by omega) w
  have hm2 : ∀ w : World, (Instr.makeSlice 22 (.int .i64 257) (.int .i64 257)).run Try.prog w = .ok (.slice (some ⟨w.heap.size, 0, none⟩) 257 257) (w.alloc (.cells (madeCells #[.int .u8 0] 257) 5)) := fun w => run_mk el8 .i64 .i64 (Nat.le_refl 257) (by omega) (by omega) w
  clear c1 c2 c3
  have tk1 : True := trivial
  have tk2 : True := trivial
  have tk3 : True := trivial
  have tk4 : True := trivial
  go_enter Try.func6, Try.ntmps6
  go_wp2_with (first
    | (go_at_call 7; have _t := tk1; go_must (refine (C1.out _).mono ?_); rintro e w1 ⟨rfl, hb1⟩; clear tk1 _t)
    | (go_at_call 7; have _t := tk2; go_must (refine (C2.out _).mono ?_); rintro e w2 ⟨rfl, hb2⟩; clear tk2 _t)
    | (go_at_call 7; have _t := tk3; go_must (refine (C3.out _).mono ?_); rintro e w3 ⟨rfl, hb3⟩; clear tk3 _t)
    | (go_at_call 7; have _t := tk4; go_must (refine (sniff_r C4.out.1 (by rw [List.length_replicate]) (by omega) ?_).mono ?_; · have h := made_own (w := w3) (base := w3.heap.size) (e := 5) (z := .int .u8 0) (n := 258) rfl (Nat.le_refl _) (by unfold maxLen; omega); have h2 := RV.own h; rw [RB, u8s, List.map_replicate]; exact h2); rintro e w4 ⟨rfl, hb4⟩; clear tk4 _t)
    | (at_builtin; go_must (refine wpList_aps el8 Try.underlying9 rfl (.tmp 31) _ (by rfl) (l := List.replicate 257 0) (by rfl) (by have h := made_own (w := w4) (base := w4.heap.size) (e := 5) (z := .int .u8 0) (n := 257) rfl (Nat.le_refl _) (by unfold maxLen; omega); rw [u8s, List.map_replicate]; exact h) ⟨#[117, 115, 116, 97, 114]⟩ (by rfl) (by unfold maxLen; show 257 + 5 ≤ _; omega) (by show 257 + 5 ≤ _; omega) (by simp) ?_); intro A5 c5 w5 own5 grow5 at5 le5; have g5 := grow_new' grow5)
    | (go_at_call 7; go_must (refine (sniff_r C4.out.2 (by rw [List.length_append, List.length_replicate]; rfl) (by omega) (RV.own own5)).mono ?_); rintro e w6 ⟨rfl, hb6⟩)
    | (go_at_call 9; go_must (refine (awake _).mono ?_); rintro e w7 ⟨rfl, hb7⟩))
  go_ret
  refine ⟨rfl, ?_⟩
  have g1 := ((Below.refl w.heap.size w).alloc (Nat.le_refl _) (.cells #[.int .u8 31, .int .u8 139] 5)).trans (hb1.mono (by simp))
  have g2 := g1.trans (hb2.mono g1.size)
  have g3 := (g2.alloc g2.size _).trans (hb3.mono (by have := g2.size; simp; omega))
  have g4 := (g3.alloc g3.size _).trans (hb4.mono (by have := g3.size; simp; omega))
  have g6 := g4.trans ((grownBy_below g5).mono g4.size)
  have g7 := g6.trans (hb6.mono g6.size)
  exact g7.trans (hb7.mono g7.size)
end Go.Proofs.Ytbmnedgoonaneaa.Sn
