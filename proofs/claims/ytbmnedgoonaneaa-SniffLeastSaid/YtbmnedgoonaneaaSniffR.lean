/- What the reference's Sniff computes, that its text computes it, and that sniff.Sniff computes the same. -/
import Derived.Test.YtbmnedgoonaneaaSniffA
import Derived.Test.YtbmnedgoonaneaaSniffK
import Derived.Test.YtbmnedgoonaneaaSniffF
namespace Go.Proofs.Ytbmnedgoonaneaa.Sn
open Go.RowKit Go.Proofs.Ytbmnedgoonaneaa.W

def refS (l : List Int) (e : Bool) : Int × Bool := if e then (kind l, true) else if (filesL l).all (fun x => kind x == kind l) then (kind l, true) else (0, false)

theorem filesL_len (l : List Int) : (filesL l).length = 4 := rfl
theorem padTo_le (l m : List Int) : (padTo l m).length ≤ l.length + m.length := by simp [padTo]
theorem filesL_le {l x : List Int} (h : x ∈ filesL l) : x.length ≤ l.length + 300 := by
  simp only [filesL, List.mem_cons, List.not_mem_nil, or_false] at h
  rcases h with rfl | rfl | rfl | rfl
  · omega
  · have := padTo_le l [31, 139, 8]; simp at this; omega
  · have := padTo_le l [80, 75, 3, 4]; simp at this; omega
  · have h1 : (fill l).length ≤ l.length + 257 := by simp [fill]
    have h2 : (ust (fill l)).length ≤ (fill l).length + 5 := by simp [ust]
    omega

set_option maxHeartbeats 1000000 in
set_option maxRecDepth 100000 in
theorem refS_any (A : Option Addr) (n c : Nat) (l : List Int) (e : Bool) (w : World) (hl : l.length = n) (hnc : n ≤ c) (hn : n ≤ 140737488351232) (hc : RB w A l) :
    Calls Try.prog 8 #[.slice A n c, .bool e] w fun e' w' => e' = .returned (.tuple #[.int .i64 (refS l e).1, .bool (refS l e).2]) ∧ Below w.heap.size w w' := by
  have HC := Lib.hid hc
  have HL := Lib.hid hl
  have hn0 : (0 : Int) ≤ (n : Int) := by omega
  clear hc hl
  have cK := kind_any A n c l w HL.out hnc (by omega) HC.out
  have CK := Lib.hid cK
  clear cK
  cases e with
  | true =>
    have hr : refS l true = (kind l, true) := rfl
    have HR := Lib.hid hr
    clear hr
    go_enter Try.func8, Try.ntmps8
    go_wp2_with (go_at_call 10; refine CK.out.mono ?_; rintro e w' ⟨rfl, rfl⟩)
    go_ret2
    rw [HR.out]
    exact ⟨rfl, Below.refl _ _⟩
  | false =>
    have cF := files_any A n c l w HL.out hnc (by omega) HC.out
    have CF := Lib.hid cF
    clear cF
    go_enter Try.func8, Try.ntmps8
    go_wp2_with (first
      | (go_at_call 10; refine CK.out.mono ?_; rintro e w' ⟨rfl, rfl⟩)
      | (go_at_call 11; refine CF.out.mono ?_; rintro e w2 ⟨A2, c2, vs, rfl, hvs, hrows, hbel⟩))
    go_loopg [8] 4 (fun g s8 wx => ∃ i : Nat, i + g = 4 ∧ s8 = .int .i64 i ∧ Hid ((filesL l).all (fun x => kind x == kind l) = ((filesL l).drop i).all (fun x => kind x == kind l)) ∧ w2 = wx)
    case atStart => exact ⟨0, rfl, rfl, rfl, rfl⟩
    case round =>
      obtain ⟨i, hig, rfl, HI, rfl⟩ := hrel
      cases gk with
      | zero =>
        have h4 : ¬ (i : Int) < 4 := by omega
        have hr : refS l false = (kind l, true) := by
          have h := HI.out
          rw [List.drop_eq_nil_of_le (by rw [filesL_len]; omega)] at h
          unfold refS
          rw [h]
          rfl
        have HR := Lib.hid hr
        clear hr HI
        go_wp2
        go_ret2
        rw [HR.out]
        exact ⟨rfl, hbel⟩
      | succ g =>
        have h4 : (i : Int) < 4 := by omega
        have hi0 : (0 : Int) ≤ (i : Int) := by omega
        have hil : i < (filesL l).length := by rw [filesL_len]; omega
        obtain ⟨Ai, ci, hvi, hci, hxi⟩ := hrows.2 i _ (List.getElem?_eq_getElem hil)
        obtain ⟨b2, off2, rfl, hb2, hcell⟩ := hvs i _ hvi
        have hmem : (filesL l)[i] ∈ filesL l := List.getElem_mem hil
        have hle := filesL_le hmem
        rw [HL.out] at hle
        have hd : (filesL l).drop i = (filesL l)[i] :: (filesL l).drop (i + 1) := List.drop_eq_getElem_cons hil
        obtain ⟨x, hx⟩ : ∃ x, (filesL l)[i] = x := ⟨_, rfl⟩
        rw [hx] at hd hle hcell hci hxi
        have HD := Lib.hid hd
        clear hd hx hmem hil hvi
        have cX := kind_any Ai x.length ci x w2 rfl hci (by omega) hxi.reads
        have CX := Lib.hid cX
        clear cX hxi
        by_cases hk : kind x = kind l
        · have hk1 : (kind x != kind l) = false := neF hk
          have hk2 : (kind x == kind l) = true := eqT hk
          have HK := Lib.hid hk2
          clear hk hk2
          go_wp2_with (go_at_call 10; refine CX.out.mono ?_; rintro e w' ⟨rfl, rfl⟩)
          go_roundg g
          case measure => omega
          case rel => exact ⟨i + 1, by omega, by go_num, (by show _ = _; rw [HI.out, HD.out, List.all_cons, HK.out, Bool.true_and]), rfl⟩
        · have hk1 : (kind x != kind l) = true := neT hk
          have hr : refS l false = (0, false) := by
            have h := HI.out
            rw [HD.out, List.all_cons, eqF hk, Bool.false_and] at h
            unfold refS
            rw [h]
            rfl
          have HR := Lib.hid hr
          clear hk hr
          go_wp2_with (go_at_call 10; refine CX.out.mono ?_; rintro e w' ⟨rfl, rfl⟩)
          go_ret2
          rw [HR.out]
          exact ⟨rfl, hbel⟩
end Go.Proofs.Ytbmnedgoonaneaa.Sn
