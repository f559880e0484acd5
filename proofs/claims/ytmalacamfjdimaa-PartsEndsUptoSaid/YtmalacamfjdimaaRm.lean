/- The law PartsWhole. -/
import Derived.Test.YtmalacamfjdimaaRi
import Derived.Test.YtmalacamfjdimaaRl
import Derived.Test.YtmalacamfjdimaaPm
namespace Go.Proofs.Ytmalacamfjdimaa.Pt
open Go.RowKit Go.Proofs.Ytmalacamfjdimaa.W

def LawPost (w : World) (e : Ending) (w' : World) : Prop := e = .returned (.bool true) ∧ Below w.heap.size w w'
def NoPost (w : World) (e : Ending) (w' : World) : Prop := e = .returned (.tuple #[.slice none 0 0, .int .i64 0, .int .i64 2]) ∧ Below w.heap.size w w'
theorem below_kp {w w' : World} (h : Kp [] w w') : Below w.heap.size w w' := h.below (Nat.le_refl _) (by simp)

theorem bl_then {a b c : World} (h : Below a.heap.size a b) (k : Below b.heap.size b c) : Below a.heap.size a c := h.trans (k.mono h.size)
theorem bl_alloc (a : World) (o : Obj) : Below a.heap.size a (a.alloc o) := (Below.refl _ _).alloc (Nat.le_refl _) o
theorem bl_drewN (a : World) (d : Nat) : Below a.heap.size a (a.drewN d) := below_kp ((Kp.refl [] a).drewN d)
theorem fold_len (l : List Ev) : (l.foldl addEv []).length ≤ l.length := by
  have h : Sz 0 ([] : List (List Int)) := ⟨Nat.le_refl _, fun r hr => by cases hr⟩
  have := (h.fold (l := l)).1
  omega
theorem whole_len {W : ByteArray} {l : List Int} (h0 : 0 < W.size) (h1 : W.size ≤ 72) (hl : Bytes l) : (whole W l).2.length ≤ 100 * (l.length + 1) := by
  rw [whole_parts]
  refine Nat.le_trans (fold_len _) ?_
  rw [List.length_map]
  exact T_len h0 h1 hl _ (Nat.le_refl _)

set_option maxHeartbeats 1000000 in
set_option maxRecDepth 100000 in
theorem c_whole_no (v : Value) (b : ByteArray) (w : World) (hs : b.size ≤ 9223372036854775807) (hv : validB b.data.toList = false) :
    Calls Try.prog 10 #[v, .string b] w (NoPost w) := by
  have HV := Lib.hid hv
  clear hv
  go_enter Try.func10, Try.ntmps10
  go_wp2_with (go_at_call 12; go_must (refine (c_new_no b _ hs HV.out).mono ?_); rintro e w1 ⟨rfl, rfl⟩)
  go_ret3
  exact ⟨rfl, Below.refl _ _⟩

set_option maxHeartbeats 2000000 in
set_option maxRecDepth 100000 in
theorem parts_whole (A : Option Addr) (n c : Nat) (l : List Int) (s : ByteArray) (w : World) (hl : l.length = n) (hnc : n ≤ c) (hn9 : n ≤ 140737488351232) (hby : Bytes l) (hr : RB w A l) (hs : s.size ≤ 140737488351232) (hn : n ≤ 1048576) :
    Calls Try.prog 3 #[.slice A n c, .string s] w (LawPost w) := by
  have HC := Lib.hid hr
  have HL := Lib.hid hl
  have HB := Lib.hid hby
  clear hr hl hby
  have hso : s.size ≤ 9223372036854775807 := by omega
  cases hv : validB s.data.toList
  · have cV := c_valid s
    have rV := r_valid s
    rw [hv] at cV rV
    have HV := Lib.hid hv
    have CV := Lib.hid cV
    have RV' := Lib.hid rV
    clear hv cV rV
    go_enter Try.func3, Try.ntmps3
    go_wp2_with (first
      | (at_builtin; go_must (refine wpList_ap el8 rfl _ _ rfl rfl (own_lit (base := w.heap.size) #[] rfl (Nat.le_refl _) (by unfold maxLen; omega)) rfl (by rw [u8s_length]; exact HL.out) (HC.out.alloc _) (u8s_one l) (by unfold maxLen; omega) (by omega) (by simp) ?_); intro A5 c5 w1 hown1 hgrow1 hat1 hle1)
      | (go_at_call 10; go_must (refine (c_whole_no _ s _ hso HV.out).mono ?_); rintro e w2 ⟨rfl, hb2⟩)
      | (go_at_call 11; go_must (refine (RV'.out _ hso).mono ?_); rintro e w3 ⟨rfl, rfl⟩)
      | (go_at_call 12; go_must (refine (c_new_no s _ hso HV.out).mono ?_); rintro e w4 ⟨rfl, rfl⟩)
      | (go_at_call 13; go_must (refine (CV.out _ hso).mono ?_); rintro e w4 ⟨rfl, rfl⟩)
      | (go_at_call 14; go_must (refine (c_awake _).mono ?_); rintro e w5 ⟨rfl, hb5⟩))
    go_ret
    have hb1 : Below w.heap.size w w1 := grownBy_below (grow_new' hgrow1)
    have hb12 := hb1.trans (hb2.mono hb1.size)
    exact ⟨rfl, hb12.trans (hb5.mono hb12.size)⟩
  · have cV := c_valid s
    have rV := r_valid s
    rw [hv] at cV rV
    have HV := Lib.hid hv
    have CV := Lib.hid cV
    have RV' := Lib.hid rV
    clear hv cV rV
    go_enter Try.func3, Try.ntmps3
    have hws := want_size HV.out
    have hTl : (T (⟨#[45, 45]⟩ ++ s) l (l.length + 1)).length ≤ 100 * (n + 1) := by
      have h1 := T_len hws.1 hws.2 HB.out _ (Nat.le_refl _)
      have h2 := HL.out
      omega
    have hWl : (whole (⟨#[45, 45]⟩ ++ s) l).2.length ≤ 100 * (n + 1) := by
      have h1 := whole_len hws.1 hws.2 HB.out
      have h2 := HL.out
      omega
    have HTL := Lib.hid hTl
    have HWL := Lib.hid hWl
    have HTB := Lib.hid (T_by hws.1 hws.2 HB.out _ (Nat.le_refl _))
    clear hTl hWl hws
    go_wp2_with (first
      | (at_builtin; go_must (refine wpList_ap el8 rfl _ _ rfl rfl (own_lit (base := w.heap.size) #[] rfl (Nat.le_refl _) (by unfold maxLen; omega)) rfl (by rw [u8s_length]; exact HL.out) (HC.out.alloc _) (u8s_one l) (by unfold maxLen; omega) (by omega) (by simp) ?_); intro A5 c5 w1 hown1 hgrow1 hat1 hle1; have HB1 := Lib.hid (grownBy_below (grow_new' hgrow1)); have HR5 := Lib.hid (show RB w1 A5 l from RV.own (by simpa using hown1)); clear hown1 hgrow1 hat1 hle1)
      | (go_at_call 10; go_must (refine (c_whole A5 n c5 l s _ HL.out (by omega) HB.out HR5.out HV.out).mono ?_); rintro e w2 ⟨Aw, cw, vsw, rfl, Pw, hb2⟩; have HPW := Lib.hid Pw; have HB2 := Lib.hid hb2; clear Pw hb2)
      | (go_at_call 11; go_must (refine (RV'.out _ hso).mono ?_); rintro e w3 ⟨rfl, rfl⟩)
      | (go_at_call 15; go_must (refine (c_of A n c l s _ HL.out hnc hn HB.out (HC.out.below (bl_then HB1.out HB2.out)) HV.out).mono ?_); rintro e w3 ⟨Ao, co, opno, rfl, Oo, hb3⟩; have HOO := Lib.hid Oo; have HB3 := Lib.hid hb3; clear Oo hb3)
      | (go_at_call 13; go_must (refine (CV.out _ hso).mono ?_); rintro e w4 ⟨rfl, rfl⟩)
      | (go_at_call 17; go_must (refine (c_parts _ Ao _ co _ _ rfl (Nat.le_trans HTL.out (by omega)) (HOO.out.alloc _) HTB.out).mono ?_); rintro e w5 ⟨Ap, mp, cp, vsp, rfl, Pp, hb5⟩; have k1 := (hb5.cell (p := ⟨w3.heap.size, 1, none⟩) (by simp)).trans (cell_of_row _ _ 1 _ _ _ (heap_alloc_new w3 _)); simp only [List.getElem?_toArray, List.getElem?_cons_succ, List.getElem?_cons_zero] at k1; have HPP := Lib.hid Pp; have HB5 := Lib.hid hb5; clear Pp hb5)
      | (go_at_call 16; go_must (have cR := c_rows Aw Ap _ mp cw cp (whole (⟨#[45, 45]⟩ ++ s) l).2 _ w5 rfl HPP.out.len (Nat.le_trans HWL.out (by omega)) (by rw [← HPP.out.len, ← whole_parts]; exact Nat.le_trans HWL.out (by omega)) ((RR.of_prt HPW.out).below (bl_then HB3.out (bl_then (bl_alloc _ _) HB5.out))) (RR.of_prt HPP.out) (fun h => absurd whole_parts h)); go_must (rw [decT whole_parts] at cR); go_must (refine cR.mono ?_); rintro e w6 ⟨rfl, d6, rfl⟩; clear cR)
      | (go_at_call 18; go_must (have cS := c_same A5 A n n c5 c l l (w5.drewN d6) HL.out HL.out (by omega) (by omega) (HR5.out.below (bl_then HB2.out (bl_then HB3.out (bl_then (bl_alloc _ _) (bl_then HB5.out (bl_drewN _ _)))))) (HC.out.below (bl_then HB1.out (bl_then HB2.out (bl_then HB3.out (bl_then (bl_alloc _ _) (bl_then HB5.out (bl_drewN _ _)))))))); go_must (rw [decT rfl] at cS); go_must (refine cS.mono ?_); rintro e w7 ⟨rfl, d7, rfl⟩; clear cS)
      | (go_at_call 14; go_must (refine (c_awake _).mono ?_); rintro e w8 ⟨rfl, hb8⟩))
    go_ret
    exact ⟨rfl, bl_then HB1.out (bl_then HB2.out (bl_then HB3.out (bl_then (bl_alloc _ _) (bl_then HB5.out (bl_then (bl_drewN _ _) hb8)))))⟩
end Go.Proofs.Ytmalacamfjdimaa.Pt
