/- The reference's Write. -/
import Derived.Test.YtmalacamfjdimaaWg
namespace Go.Proofs.Ytmalacamfjdimaa.Pt
open Go.RowKit Go.Proofs.Ytmalacamfjdimaa.W

theorem step_aps {P : Program} {w : World} {t u e : TypeId} (E : El P t e (.int .u8 0) 1) (hu : P.underlying u = some .string) {ops : Array Oper} {o : Oper} {a : Act} {K : Act → World → Prop} {Q : Exit → Act → World → Prop} {X : Prop} (hgd : o.guard = none) (sl x : Operand)
    (ho : o.op = .call { callee := .builtin .append, args := #[sl, x], argTypes := #[t, u] })
    {base : Nat} {v : Value} {n : Nat} {l : List Int} (hs : a.eval sl = v) (hown : w.ownsRow base e 1 v n (u8s l)) (s : ByteArray) (hx : a.eval x = .string s)
    (h63 : n + s.size ≤ maxLen) (hb : n + s.size ≤ 140737488355328) (hbase : base ≤ w.heap.size)
    (h : ∀ A' c' w', w'.ownsRow base e 1 (.slice A' (n + s.size) c') (n + s.size) (u8s (l ++ strL s)) → w.grownBy w' v.ownBlock →
      ((Value.slice A' (n + s.size) c').ownBlock = v.ownBlock ∨ (Value.slice A' (n + s.size) c').ownBlock = some w.heap.size) → n + s.size ≤ c' → K (a.put o.dst (.slice A' (n + s.size) c')) w') :
    if Region.wanted o (yielded ops a.tmps) = true then Oper.wp P o a w K Q else X := by
  have hw : Region.wanted o (yielded ops a.tmps) = true := by simp [Region.wanted, hgd]
  rw [if_pos hw]
  obtain ⟨A', c', w', hr, h2, h3, h4, h5⟩ := run_aps E hu o.type hown s h63 hb hbase
  unfold Oper.wp execOp
  simp only [ho, resolve, invoke, builtin, Sem.run_bind, Sem.run_pure, Result.andThen_ok, List.map_toArray, List.map_cons, List.map_nil, hs, hx, hr]
  exact h A' c' w' h2 h3 h4 h5

set_option maxHeartbeats 2000000 in
set_option maxRecDepth 100000 in
theorem r_write (A : Option Addr) (n c : Nat) (ls : List (List Int)) (b : ByteArray) (w : World) (hl : ls.length = n) (hn : n ≤ 1048576) (hr : RR w A ls) (hby : ∀ r ∈ ls, Bytes r) (hrl : ∀ r ∈ ls, r.length ≤ 1048576) (hv : validB b.data.toList = true) :
    Calls Try.prog 26 #[.slice A n c, .string b] w (WrPost w (wres (strL (⟨#[45, 45]⟩ ++ b)) ls)) := by
  have cV := r_valid b
  rw [hv] at cV
  have CV := Lib.hid cV
  have HL := Lib.hid hl
  have HR := Lib.hid hr
  have HBY := Lib.hid hby
  have HRL := Lib.hid hrl
  have hws := want_size hv
  have hbs : b.size ≤ 70 := by
    have h1 : ((⟨#[45, 45]⟩ : ByteArray) ++ b).size = 2 + b.size := by rw [ByteArray.size_append]; rfl
    omega
  have hWl : (strL (⟨#[45, 45]⟩ ++ b)).length ≤ 72 := by rw [strL_length]; exact hws.2
  have HWL := Lib.hid hWl
  have hn0 : (0 : Int) ≤ (n : Int) := by omega
  have HST := Lib.hid (show strL (⟨#[45, 45]⟩ ++ b ++ ⟨#[13, 10]⟩) = strL (⟨#[45, 45]⟩ ++ b) ++ [13, 10] by rw [strL_append]; rfl)
  have HS2 := Lib.hid (show strL (⟨#[45, 45]⟩ ++ b ++ ⟨#[45, 45, 13, 10]⟩) = strL (⟨#[45, 45]⟩ ++ b) ++ [45, 45, 13, 10] by rw [strL_append]; rfl)
  have HZ1 := Lib.hid (show (⟨#[45, 45]⟩ ++ b ++ ⟨#[13, 10]⟩ : ByteArray).size ≤ 74 by rw [ByteArray.size_append]; have : (⟨#[13, 10]⟩ : ByteArray).size = 2 := rfl; omega)
  have HZ2 := Lib.hid (show (⟨#[45, 45]⟩ ++ b ++ ⟨#[45, 45, 13, 10]⟩ : ByteArray).size ≤ 76 by rw [ByteArray.size_append]; have : (⟨#[45, 45, 13, 10]⟩ : ByteArray).size = 4 := rfl; omega)
  clear hl hr hby hrl cV hv hws hWl
  go_enter Try.func26, Try.ntmps26
  go_wp2_with (go_at_call 11; go_must (refine (CV.out _ (by omega)).mono ?_); rintro e w4 ⟨rfl, rfl⟩)
  go_loopg [6, 7] n (fun g s6 s14 wx => ∃ (k m c6 : Nat) (A6 : Option Addr), k + g = n ∧ s14 = .int .i64 k ∧ s6 = .slice A6 m c6 ∧ wx.ownsRow w.heap.size 5 1 (.slice A6 m c6) m (u8s (wbody (strL (⟨#[45, 45]⟩ ++ b)) (ls.take k))) ∧ Below w.heap.size w wx ∧ Hid ((ls.take k).any (hasW (strL (⟨#[45, 45]⟩ ++ b))) = false))
  case atStart => exact ⟨0, 0, 0, none, by omega, rfl, rfl, World.ownsRow_nil _ _ _ _, Below.refl _ _, Lib.hid rfl⟩
  case round =>
    obtain ⟨k, m, c6, A6, hkg, rfl, rfl, own, hB, hno⟩ := hrel
    obtain ⟨wq, rfl⟩ : ∃ wq : World, wq = wr := ⟨_, rfl⟩
    have hmb : m ≤ 1048576 * (1048576 + 76) := by
      have h1 := wbody_len HWL.out (ls.take k) 1048576 (fun r hr => HRL.out r (List.mem_of_mem_take hr))
      rw [u8_size own] at h1
      refine Nat.le_trans h1 (Nat.mul_le_mul_right _ ?_)
      rw [List.length_take]; omega
    have hBs := hB.size
    cases gk with
    | zero =>
      obtain rfl : k = n := by omega
      have hk : ¬ (k : Int) < (k : Int) := by omega
      have HT := Lib.hid (show ls.take k = ls from List.take_of_length_le (by rw [HL.out]; exact Nat.le_refl _))
      go_wp2_with (at_builtin; go_must (refine wpList_aps el8 Try.underlying9 rfl _ _ rfl rfl own _ rfl (by have := HZ2.out; unfold maxLen; omega) (by have := HZ2.out; omega) hBs ?_); intro A7 c7 w7 hown7 hgrow7 hat7 hle7; have hx : ∃ m1, m + (⟨#[45, 45]⟩ ++ b ++ ⟨#[45, 45, 13, 10]⟩ : ByteArray).size = m1 := ⟨_, rfl⟩; obtain ⟨m1, hm1⟩ := hx; go_must (rw [hm1] at hown7 ⊢); clear hm1)
      go_ret2
      have hno2 := hno.out
      rw [HT.out] at hno2 hown7
      rw [HS2.out] at hown7
      unfold wres
      rw [hno2]
      exact ⟨⟨A7, _, c7, rfl, hown7⟩, hB.trans (own_below hgrow7 own hBs)⟩
    | succ g =>
      have hk : (k : Int) < (n : Int) := by omega
      obtain ⟨l, hlk⟩ : ∃ l, ls[k]? = some l := ⟨_, List.getElem?_eq_getElem (by rw [HL.out]; omega)⟩
      obtain ⟨bl, off, Al, cl, rfl, hblt, hcell0, hlc, hrb, hnil⟩ := RR.get HR.out hlk
      have hcell : wq.cell? ⟨bl, off + k, none⟩ = some (.slice Al l.length cl) := by rw [hB.cell (show (⟨bl, off + k, none⟩ : Addr).block < w.heap.size from hblt)]; exact hcell0
      have hll := HRL.out l (List.mem_of_getElem? hlk)
      have HRB := Lib.hid (show RB wq Al l from RV.below hrb (by exact hB))
      have hcd := c_has Al l.length cl l b wq rfl hlc hll (HBY.out l (List.mem_of_getElem? hlk)) HRB.out (by omega)
      have HR0 := Lib.hid hrb
      have HOW := Lib.hid own
      cases hh : hasW (strL (⟨#[45, 45]⟩ ++ b)) l
      · rw [hh] at hcd
        have HF := Lib.hid (show wbody (strL (⟨#[45, 45]⟩ ++ b)) (ls.take (k + 1)) = wbody (strL (⟨#[45, 45]⟩ ++ b)) (ls.take k) ++ (strL (⟨#[45, 45]⟩ ++ b) ++ [13, 10]) ++ l ++ [13, 10] by rw [take_snoc' hlk, wbody_snoc]; simp [wsep])
        have HNO := Lib.hid (show (ls.take (k + 1)).any (hasW (strL (⟨#[45, 45]⟩ ++ b))) = false by rw [take_snoc' hlk, List.any_append, hno.out]; simp [hh])
        have HCD := Lib.hid hcd
        have i0 : (0 : Int) ≤ (k : Int) := by omega
        clear hcd hh hlk hcell0 hrb hnil own
        go_upto_region 9 with (go_at_call 38; go_must (refine HCD.out.mono ?_); rintro e w1 ⟨rfl, q1, rfl⟩)
        go_cut [6] (fun t6 wz => ∃ A3 m2 c3, t6 = .slice A3 m2 c3 ∧ m2 ≤ m + 74 + 1048576 ∧ wz.ownsRow w.heap.size 5 1 (.slice A3 m2 c3) m2 (u8s (wbody (strL (⟨#[45, 45]⟩ ++ b)) (ls.take k) ++ (strL (⟨#[45, 45]⟩ ++ b) ++ [13, 10]) ++ l)) ∧ Below w.heap.size w wz)
        case first =>
          have HO1 : Hid ((wq.drewN (q1 + 1)).ownsRow w.heap.size 5 1 (.slice A6 m c6) m (u8s (wbody (strL (⟨#[45, 45]⟩ ++ b)) (ls.take k)))) := HOW
          have hz1 : ¬ 9223372036854775807 < 2 + b.size := by omega
          have hz2 : ¬ 9223372036854775807 < 2 + b.size + 2 := by omega
          have hsq : w.heap.size ≤ (wq.drewN (q1 + 1)).heap.size := hBs
          have hblq : bl < wq.heap.size := Nat.lt_of_lt_of_le hblt hBs
          go_region_law (first
            | (refine step_aps el8 Try.underlying9 rfl (.tmp 23) (.tmp 26) rfl (by rfl) HO1.out _ (by rfl) (by have := HZ1.out; unfold maxLen; omega) (by have := HZ1.out; omega) hsq ?_; intro A2 c2 w2 hown2 hgrow2 hat2 hle2; have hx : ∃ m1, m + (⟨#[45, 45]⟩ ++ b ++ ⟨#[13, 10]⟩ : ByteArray).size = m1 := ⟨_, rfl⟩; obtain ⟨m1, hm1⟩ := hx; rw [hm1] at hown2 ⊢; have hm1b : m1 ≤ m + 74 := (by have := HZ1.out; omega); rw [HST.out] at hown2; have HO2 := Lib.hid hown2; have HB2 := Lib.hid (own_below hgrow2 HO1.out hsq); have hs2 := Nat.le_trans hsq HB2.out.size; have HR2 := Lib.hid (show RB w2 Al l from RV.below HR0.out (hB.trans (((bl_drewN wq (q1 + 1)).mono hBs).trans HB2.out))); have hcell2 : w2.cell? ⟨bl, off + k, none⟩ = some (.slice Al l.length cl) := (HB2.out.cell (p := ⟨bl, off + k, none⟩) hblt).trans hcell; clear hown2 hgrow2 hat2 hle2 hm1)
            | (refine step_ap el8 rfl (.tmp 27) (.tmp 31) rfl (by rfl) HO2.out (by rfl) (u8s_length l) HR2.out (u8s_one l) (by unfold maxLen; omega) (by omega) hs2 ?_; intro A3 c3 w3 hown3 hgrow3 hat3 hle3; have hx : ∃ m2, m1 + l.length = m2 := ⟨_, rfl⟩; obtain ⟨m2, hm2⟩ := hx; rw [hm2] at hown3 ⊢; have hm2b : m2 ≤ m + 74 + 1048576 := (by omega); rw [← u8s_append] at hown3; have HO3 := Lib.hid hown3; have HB3 := Lib.hid (HB2.out.trans (own_below hgrow3 HO2.out hs2)); clear hown3 hgrow3 hat3 hle3 hm2))
          all_goals go_wp2
          all_goals go_meet
          all_goals exact ⟨A3, m2, c3, rfl, hm2b, HO3.out, hB.trans ((bl_drewN wq (q1 + 1)).mono hBs |>.trans HB3.out)⟩
        case rest =>
          obtain ⟨A3, m2, c3, rfl, hm2b, own3, hB3⟩ := hcut
          have hB3s := hB3.size
          obtain ⟨w3, rfl⟩ : ∃ w3 : World, w3 = wc := ⟨_, rfl⟩
          go_wp2_with (at_builtin; go_must (refine wpList_ap el8 rfl (.tmp 33) (.tmp 34) rfl rfl (own3.alloc _) rfl rfl (RV.new _ _) (by intro u hu; simp at hu; rcases hu with rfl | rfl <;> rfl) (by unfold maxLen; simp; omega) (by simp; omega) (by simp; omega) ?_); intro A4 c4 w4 hown4 hgrow4 hat4 hle4)
          go_roundg g
          case measure => omega
          case rel => exact ⟨k + 1, m2 + 2, c4, A4, by omega, by go_num, rfl, by rw [HF.out, u8s_append]; exact hown4, hB3.trans (((bl_alloc w3 _).mono hB3s).trans (own_below hgrow4 (own3.alloc _) (by simp; omega))), HNO⟩
      · rw [hh] at hcd
        have HCD := Lib.hid hcd
        have HH := Lib.hid (show ls.any (hasW (strL (⟨#[45, 45]⟩ ++ b))) = true from List.any_eq_true.2 ⟨l, List.mem_of_getElem? hlk, hh⟩)
        clear hcd hh hlk hcell0 hrb hnil own
        go_wp2_with (go_at_call 38; go_must (refine HCD.out.mono ?_); rintro e w1 ⟨rfl, q1, rfl⟩)
        go_ret2
        unfold wres
        rw [HH.out]
        exact ⟨⟨none, 0, 0, rfl, World.ownsRow_nil _ _ _ _⟩, hB.trans ((bl_drewN _ _).mono hBs)⟩
end Go.Proofs.Ytmalacamfjdimaa.Pt
