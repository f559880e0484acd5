/- The program's Write. -/
import Derived.Test.YtmalacamfjdimaaWf
namespace Go.Proofs.Ytmalacamfjdimaa.Pt
open Go.RowKit Go.Proofs.Ytmalacamfjdimaa.W

def wsep (W p : List Int) : List Int := W ++ [13, 10] ++ p ++ [13, 10]
def wbody (W : List Int) (ls : List (List Int)) : List Int := ls.flatMap (wsep W)
def wall (W : List Int) (ls : List (List Int)) : List Int := wbody W ls ++ (W ++ [45, 45, 13, 10])
theorem strL_append (a b : ByteArray) : strL (a ++ b) = strL a ++ strL b := by
  unfold strL
  rw [ByteArray.data_append, Array.toList_append, List.map_append]
theorem wbody_snoc (W : List Int) (ls : List (List Int)) (l : List Int) : wbody W (ls ++ [l]) = wbody W ls ++ wsep W l := by simp [wbody]
theorem wbody_len {W : List Int} (hW : W.length ≤ 72) : ∀ (ls : List (List Int)) (M : Nat), (∀ r ∈ ls, r.length ≤ M) → (wbody W ls).length ≤ ls.length * (M + 76) := by
  intro ls
  induction ls with
  | nil => intro M _; simp [wbody]
  | cons l ls ih =>
    intro M h
    have h1 := ih M (fun r hr => h r (List.mem_cons_of_mem _ hr))
    have h2 := h l (by simp)
    have e : wbody W (l :: ls) = wsep W l ++ wbody W ls := by simp [wbody]
    rw [e, List.length_append, List.length_cons, Nat.succ_mul]
    have : (wsep W l).length = W.length + 2 + l.length + 2 := by simp [wsep]; omega
    omega
theorem own_below {a b : World} {B : Nat} {e : TypeId} {size n : Nat} {v : Value} {xs : List Value} (g : a.grownBy b v.ownBlock) (ho : a.ownsRow B e size v n xs) (hB : B ≤ a.heap.size) : Below B a b :=
  ⟨g.os, g.tape, g.output, g.size, fun k hk => g.block k (by omega) (fun e => by have := (ho.lt k e.symm).1; omega)⟩
/-- What Write hands back: the bytes, or none. -/
def WrPost (w : World) (r : Option (List Int)) (e : Ending) (w' : World) : Prop :=
  (∃ A n c, e = .returned (.tuple #[.slice A n c, .bool r.isSome]) ∧ w'.ownsRow w.heap.size 5 1 (.slice A n c) n (u8s (r.getD []))) ∧ Below w.heap.size w w'
def wres (W : List Int) (ls : List (List Int)) : Option (List Int) := if ls.any (hasW W) then none else some (wall W ls)
theorem u8_size {w : World} {B n : Nat} {v : Value} {l : List Int} (h : w.ownsRow B 5 1 v n (u8s l)) : l.length = n := by have := h.1; rw [u8s_length] at this; omega

set_option maxHeartbeats 2000000 in
set_option maxRecDepth 100000 in
theorem c_write (A : Option Addr) (n c : Nat) (ls : List (List Int)) (b : ByteArray) (w : World) (hl : ls.length = n) (hn : n ≤ 1048576) (hr : RR w A ls) (hby : ∀ r ∈ ls, Bytes r) (hrl : ∀ r ∈ ls, r.length ≤ 1048576) (hv : validB b.data.toList = true) :
    Calls Try.prog 25 #[.slice A n c, .string b] w (WrPost w (wres (strL (⟨#[45, 45]⟩ ++ b)) ls)) := by
  have cV := c_valid b
  rw [hv] at cV
  have CV := Lib.hid cV
  have HL := Lib.hid hl
  have HR := Lib.hid hr
  have HBY := Lib.hid hby
  have HRL := Lib.hid hrl
  have hws := want_size hv
  have hbs : b.size ≤ 70 := by
    have h1 : ((⟨#[45, 45]⟩ : ByteArray) ++ b).size = 2 + b.size := by rw [ByteArray.size_append]; rfl
    omega
  have hWl : (strL (⟨#[45, 45]⟩ ++ b)).length ≤ 72 := by rw [strL_length]; exact hws.2
  have HWL := Lib.hid hWl
  have HWS := Lib.hid hws.2
  have hn0 : (0 : Int) ≤ (n : Int) := by omega
  have HST := Lib.hid (show strL (⟨#[45, 45]⟩ ++ b ++ ⟨#[13, 10]⟩) = strL (⟨#[45, 45]⟩ ++ b) ++ [13, 10] by rw [strL_append]; rfl)
  have HS2 := Lib.hid (show strL (⟨#[45, 45]⟩ ++ b ++ ⟨#[45, 45, 13, 10]⟩) = strL (⟨#[45, 45]⟩ ++ b) ++ [45, 45, 13, 10] by rw [strL_append]; rfl)
  have HZ1 := Lib.hid (show (⟨#[45, 45]⟩ ++ b ++ ⟨#[13, 10]⟩ : ByteArray).size ≤ 74 by rw [ByteArray.size_append]; have : (⟨#[13, 10]⟩ : ByteArray).size = 2 := rfl; omega)
  have HZ2 := Lib.hid (show (⟨#[45, 45]⟩ ++ b ++ ⟨#[45, 45, 13, 10]⟩ : ByteArray).size ≤ 76 by rw [ByteArray.size_append]; have : (⟨#[45, 45, 13, 10]⟩ : ByteArray).size = 4 := rfl; omega)
  clear hl hr hby hrl cV hv hws hWl
  go_enter Try.func25, Try.ntmps25
  go_wp2_with (go_at_call 13; go_must (refine (CV.out _ (by omega)).mono ?_); rintro e w4 ⟨rfl, rfl⟩)
  go_loopg [6, 14] n (fun g s6 s14 wx => ∃ (k m c6 : Nat) (A6 : Option Addr), k + g = n ∧ s14 = .int .i64 k ∧ s6 = .slice A6 m c6 ∧ wx.ownsRow w.heap.size 5 1 (.slice A6 m c6) m (u8s (wbody (strL (⟨#[45, 45]⟩ ++ b)) (ls.take k))) ∧ Below w.heap.size w wx ∧ Hid ((ls.take k).any (hasW (strL (⟨#[45, 45]⟩ ++ b))) = false))
  case atStart => exact ⟨0, 0, 0, none, by omega, rfl, rfl, World.ownsRow_nil _ _ _ _, Below.refl _ _, Lib.hid rfl⟩
  case round =>
    obtain ⟨k, m, c6, A6, hkg, rfl, rfl, own, hB, hno⟩ := hrel
    obtain ⟨wq, rfl⟩ : ∃ wq : World, wq = wr := ⟨_, rfl⟩
    have hmb : m ≤ 1048576 * (1048576 + 76) := by
      have h1 := wbody_len HWL.out (ls.take k) 1048576 (fun r hr => HRL.out r (List.mem_of_mem_take hr))
      rw [u8_size own] at h1
      refine Nat.le_trans h1 (Nat.mul_le_mul_right _ ?_)
      rw [List.length_take]; omega
    have hBs := hB.size
    cases gk with
    | zero =>
      obtain rfl : k = n := by omega
      have hk : ¬ (k : Int) < (k : Int) := by omega
      have HT := Lib.hid (show ls.take k = ls from List.take_of_length_le (by rw [HL.out]; exact Nat.le_refl _))
      go_wp2_with (at_builtin; go_must (refine wpList_aps el8 Try.underlying9 rfl _ _ rfl rfl own _ rfl (by have := HZ2.out; unfold maxLen; omega) (by have := HZ2.out; omega) hBs ?_); intro A7 c7 w7 hown7 hgrow7 hat7 hle7; have hx : ∃ m1, m + (⟨#[45, 45]⟩ ++ b ++ ⟨#[45, 45, 13, 10]⟩ : ByteArray).size = m1 := ⟨_, rfl⟩; obtain ⟨m1, hm1⟩ := hx; go_must (rw [hm1] at hown7 ⊢); clear hm1)
      go_ret2
      have hno2 := hno.out
      rw [HT.out] at hno2 hown7
      rw [HS2.out] at hown7
      unfold wres
      rw [hno2]
      exact ⟨⟨A7, _, c7, rfl, hown7⟩, hB.trans (own_below hgrow7 own hBs)⟩
    | succ g =>
      have hk : (k : Int) < (n : Int) := by omega
      obtain ⟨l, hlk⟩ : ∃ l, ls[k]? = some l := ⟨_, List.getElem?_eq_getElem (by rw [HL.out]; omega)⟩
      obtain ⟨bl, off, Al, cl, rfl, hblt, hcell0, hlc, hrb, hnil⟩ := RR.get HR.out hlk
      have hcell : wq.cell? ⟨bl, off + k, none⟩ = some (.slice Al l.length cl) := by rw [hB.cell (show (⟨bl, off + k, none⟩ : Addr).block < w.heap.size from hblt)]; exact hcell0
      have hll := HRL.out l (List.mem_of_getElem? hlk)
      have HRB := Lib.hid (show RB wq Al l from RV.below hrb (by exact hB))
      have hcd := c_dlm Al l.length cl l (⟨#[45, 45]⟩ ++ b) wq rfl hlc hll (HBY.out l (List.mem_of_getElem? hlk)) HRB.out hnil HWS.out
      have HR0 := Lib.hid hrb
      have HOW := Lib.hid own
      cases hh : hasW (strL (⟨#[45, 45]⟩ ++ b)) l
      · rw [hh] at hcd
        have HF := Lib.hid (show wbody (strL (⟨#[45, 45]⟩ ++ b)) (ls.take (k + 1)) = wbody (strL (⟨#[45, 45]⟩ ++ b)) (ls.take k) ++ (strL (⟨#[45, 45]⟩ ++ b) ++ [13, 10]) ++ l ++ [13, 10] by rw [take_snoc' hlk, wbody_snoc]; simp [wsep])
        have HNO := Lib.hid (show (ls.take (k + 1)).any (hasW (strL (⟨#[45, 45]⟩ ++ b))) = false by rw [take_snoc' hlk, List.any_append, hno.out]; simp [hh])
        have HCD := Lib.hid hcd
        have tk1 : True := trivial
        have tk2 : True := trivial
        have tk3 : True := trivial
        clear hcd hh hlk hcell0 hrb hnil own
        go_wp2_with (first
          | (go_at_call 37; go_must (refine HCD.out.mono ?_); rintro e w1 ⟨rfl, hb1⟩; have HO1 := Lib.hid (own_same HOW.out (fun k hk => hb1.block k (HOW.out.lt k hk).2)); have HB1 := Lib.hid (hB.trans (hb1.mono hBs)); have hs1 := HB1.out.size; have HR1 := Lib.hid (show RB w1 Al l from RV.below HRB.out hb1); clear hb1)
          | (at_builtin; have _t := tk1; go_must (refine wpList_aps el8 Try.underlying9 rfl (.tmp 22) (.tmp 25) rfl rfl HO1.out _ rfl (by have := HZ1.out; unfold maxLen; omega) (by have := HZ1.out; omega) hs1 ?_); intro A2 c2 w2 hown2 hgrow2 hat2 hle2; have hx : ∃ m1, m + (⟨#[45, 45]⟩ ++ b ++ ⟨#[13, 10]⟩ : ByteArray).size = m1 := ⟨_, rfl⟩; obtain ⟨m1, hm1⟩ := hx; go_must (rw [hm1] at hown2 ⊢); have hm1b : m1 ≤ m + 74 := (by have := HZ1.out; omega); go_must (rw [HST.out] at hown2); have HO2 := Lib.hid hown2; have HB2 := Lib.hid (HB1.out.trans (own_below hgrow2 HO1.out hs1)); have hs2 := HB2.out.size; have HR2 := Lib.hid (show RB w2 Al l from RV.below HR0.out HB2.out); clear tk1 _t hown2 hgrow2 hat2 hle2 hm1)
          | (at_builtin; have _t := tk2; go_must (refine wpList_ap el8 rfl (.tmp 27) (.tmp 28) rfl rfl HO2.out rfl (u8s_length l) HR2.out (u8s_one l) (by unfold maxLen; omega) (by omega) hs2 ?_); intro A3 c3 w3 hown3 hgrow3 hat3 hle3; have hx : ∃ m2, m1 + l.length = m2 := ⟨_, rfl⟩; obtain ⟨m2, hm2⟩ := hx; go_must (rw [hm2] at hown3 ⊢); have hm2b : m2 ≤ m1 + 1048576 := (by omega); go_must (rw [← u8s_append] at hown3); have HO3 := Lib.hid hown3; have HB3 := Lib.hid (HB2.out.trans (own_below hgrow3 HO2.out hs2)); have hs3 := HB3.out.size; clear tk2 _t hown3 hgrow3 hat3 hle3 hm2)
          | (at_builtin; have _t := tk3; go_must (refine wpList_aps el8 Try.underlying9 rfl (.tmp 30) (.const (.string ⟨#[13, 10]⟩)) rfl rfl HO3.out _ rfl (by unfold maxLen; have : (⟨#[13, 10]⟩ : ByteArray).size = 2 := rfl; omega) (by have : (⟨#[13, 10]⟩ : ByteArray).size = 2 := rfl; omega) hs3 ?_); intro A4 c4 w4 hown4 hgrow4 hat4 hle4; have hx : ∃ m3, m2 + (⟨#[13, 10]⟩ : ByteArray).size = m3 := ⟨_, rfl⟩; obtain ⟨m3, hm3⟩ := hx; go_must (rw [hm3] at hown4 ⊢); have HO4 := Lib.hid hown4; have HB4 := Lib.hid (HB3.out.trans (own_below hgrow4 HO3.out hs3)); clear tk3 _t hown4 hgrow4 hat4 hle4 hm3))
        go_roundg g
        case measure => omega
        case rel => exact ⟨k + 1, m3, c4, A4, by omega, by go_num, rfl, by rw [HF.out]; exact HO4.out, HB4.out, HNO⟩
      · rw [hh] at hcd
        have HCD := Lib.hid hcd
        have HH := Lib.hid (show ls.any (hasW (strL (⟨#[45, 45]⟩ ++ b))) = true from List.any_eq_true.2 ⟨l, List.mem_of_getElem? hlk, hh⟩)
        clear hcd hh hlk hcell0 hrb hnil own
        go_wp2_with (go_at_call 37; go_must (refine HCD.out.mono ?_); rintro e w1 ⟨rfl, hb1⟩)
        go_ret2
        unfold wres
        rw [HH.out]
        exact ⟨⟨none, 0, 0, rfl, World.ownsRow_nil _ _ _ _⟩, hB.trans (hb1.mono hBs)⟩
end Go.Proofs.Ytmalacamfjdimaa.Pt
