/- The laws of layer 18, walked: each answers true and writes nothing that was there. -/
import Derived.Test.YtbmnedgoonaneaaSniffP
namespace Go.Proofs.Ytbmnedgoonaneaa.Sn
open Go.RowKit Go.Proofs.Ytbmnedgoonaneaa.W

theorem sniff_r {A : Option Addr} {n c : Nat} {l : List Int} {e : Bool} {w : World} {K : Int} {B : Bool} (hs : sniff l e false marks = (K, B)) (hl : l.length = n) (hn : n ≤ 140737488355328) (hc : RB w A l) :
    Calls Try.prog 7 #[.slice A n c, .bool e] w fun e' w' => e' = .returned (.tuple #[.int .i64 K, .bool B]) ∧ Below w.heap.size w w' := by
  have h := sniff_any A n c l e w hl hn hc
  rw [hs] at h
  exact h
theorem refS_r {A : Option Addr} {n c : Nat} {l : List Int} {e : Bool} {w : World} {K : Int} {B : Bool} (hs : refS l e = (K, B)) (hl : l.length = n) (hnc : n ≤ c) (hn : n ≤ 140737488351232) (hc : RB w A l) :
    Calls Try.prog 8 #[.slice A n c, .bool e] w fun e' w' => e' = .returned (.tuple #[.int .i64 K, .bool B]) ∧ Below w.heap.size w w' := by
  have h := refS_any A n c l e w hl hnc hn hc
  rw [hs] at h
  exact h

set_option maxHeartbeats 1000000 in
set_option maxRecDepth 100000 in
theorem awake (w : World) : Calls Try.prog 9 #[] w fun e w' => e = .returned (.bool true) ∧ Below w.heap.size w w' := by
  have c1 := fun (w : World) => sniff_r (c := 3) (w := w.alloc (.cells #[.int .u8 31, .int .u8 139, .int .u8 8] 5)) (show sniff [31, 139, 8] false false marks = (7, true) by decide) rfl (by decide) (RV.new _ _)
  have c2 := fun (w : World) => sniff_r (c := 1) (w := w.alloc (.cells #[.int .u8 31] 5)) (show sniff [31] false false marks = (0, false) by decide) rfl (by decide) (RV.new _ _)
  have C1 := Lib.hid c1
  have C2 := Lib.hid c2
  clear c1 c2
  have tk1 : True := trivial
  have tk2 : True := trivial
  go_enter Try.func9, Try.ntmps9
  go_wp2_with (first
    | (go_at_call 7; have _t := tk1; go_must (refine (C1.out _).mono ?_); rintro e w1 ⟨rfl, hb1⟩; clear tk1 _t)
    | (go_at_call 7; have _t := tk2; go_must (refine (C2.out _).mono ?_); rintro e w2 ⟨rfl, hb2⟩; clear tk2 _t))
  go_ret
  refine ⟨rfl, ?_⟩
  have g1 := ((Below.refl w.heap.size w).alloc (Nat.le_refl _) (.cells #[.int .u8 31, .int .u8 139, .int .u8 8] 5)).trans (hb1.mono (by simp))
  exact (g1.alloc g1.size _).trans (hb2.mono (by have := g1.size; simp; omega))

set_option maxHeartbeats 1000000 in
set_option maxRecDepth 100000 in
theorem tells (A : Option Addr) (n c : Nat) (l : List Int) (b : Bool) (w : World) (hl : l.length = n) (hnc : n ≤ c) (hn : n ≤ 140737488351232) (hb : Bytes l) (hr : RB w A l) :
    Calls Try.prog 3 #[.slice A n c, .bool b] w fun e w' => e = .returned (.bool true) ∧ Below w.heap.size w w' := by
  obtain ⟨K, B, hK⟩ : ∃ K B, sniff l b false marks = (K, B) := ⟨_, _, rfl⟩
  have hK2 : refS l b = (K, B) := by rw [← sniff_ref hb]; exact hK
  have HC := Lib.hid hr
  have HL := Lib.hid hl
  have HK := Lib.hid hK
  have HK2 := Lib.hid hK2
  have HL8 := Lib.hid ((u8s_length l).trans hl)
  clear hr hl hK hK2
  have m1 : 0 + n ≤ maxLen := by unfold maxLen; omega
  have m2 : (0 + n) * 1 ≤ 140737488355328 := by omega
  have hn2 : n ≤ 140737488355328 := by omega
  have tk1 : True := trivial
  go_enter Try.func3, Try.ntmps3
  go_wp2_with (first
    | (at_builtin; have _t := tk1; go_must (refine wpList_ap el8 rfl (.tmp 10) _ (by rfl) (by rfl) (own_lit (n := 0) #[] rfl (Nat.le_refl w.heap.size) (Nat.zero_le _)) (by rfl) HL8.out (RV.alloc HC.out _) (u8s_one l) m1 m2 (by simp) ?_); intro A1 c1 w1 own1 grow1 at1 le1; go_must (simp only [Nat.zero_add, List.nil_append] at own1 le1 ⊢; have g1 := grow_new' grow1); clear tk1 _t)
    | (go_at_call 7; go_must (refine (sniff_r HK.out HL.out hn2 (RV.own own1)).mono ?_); rintro e w2 ⟨rfl, hb2⟩)
    | (go_at_call 8; have g2 := g1.trans (below_grownBy hb2 none); go_must (refine (refS_r HK2.out HL.out hnc hn (HC.out.below (grownBy_below g2))).mono ?_); rintro e w3 ⟨rfl, hb3⟩; have g3 := g2.trans (below_grownBy hb3 none); have hs1 := run_string (P := Try.prog) (w := w3) _ _ _ Try.underlying22 Try.underlying5 Try.underlying9 (c := c1) ((RV.below (RV.own own1) hb2).below hb3) HL.out; have hs2 := run_string (P := Try.prog) (w := w3) _ _ _ Try.underlying22 Try.underlying5 Try.underlying9 (c := c) (HC.out.below (grownBy_below g3)) HL.out)
    | (go_at_call 9; go_must (refine (awake _).mono ?_); rintro e w4 ⟨rfl, hb4⟩))
  go_ret
  exact ⟨rfl, (grownBy_below g3).trans (hb4.mono g3.size)⟩
end Go.Proofs.Ytbmnedgoonaneaa.Sn
