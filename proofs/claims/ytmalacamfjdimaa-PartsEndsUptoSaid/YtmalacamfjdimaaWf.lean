/- winkleref06.Copy: rows copied. -/
import Derived.Test.YtmalacamfjdimaaWd
import Derived.Test.YtmalacamfjdimaaWe
namespace Go.Proofs.Ytmalacamfjdimaa.Pt
open Go.RowKit Go.Proofs.Ytmalacamfjdimaa.W

/-- 'parts = append(parts, v)': a row of the call's own is put behind. -/
theorem row_pushed {w w' : World} {S : List Nat} {A : Option Addr} {n c : Nat} {vs : List Value} {ls : List (List Int)} (h : Prt w S A n c vs ls) {v : Value} {l : List Int} (hv : w.ownsRow 0 5 1 v l.length (u8s l)) (hvS : ∀ k, v.ownBlock = some k → k ∉ S) (hap : ∀ (i : Nat) (u : Value) (k : Nat), vs[i]? = some u → u.ownBlock = some k → v.ownBlock ≠ some k)
    {A' : Option Addr} {c' : Nat} {o : Obj} (own : w'.ownsRow 0 22 1 (.slice A' (n + 1) c') (n + 1) (vs ++ [v])) (grow : (w.alloc o).grownBy w' (Value.slice A n c).ownBlock)
    (hat : (Value.slice A' (n + 1) c').ownBlock = (Value.slice A n c).ownBlock ∨ (Value.slice A' (n + 1) c').ownBlock = some (w.alloc o).heap.size) (hS : ∀ k ∈ S, k < w.heap.size) : Prt w' S A' (n + 1) c' (vs ++ [v]) (ls ++ [l]) := by
  have hvl := h.vlen
  have key : ∀ {u : Value} {m : Nat} {xs : List Value}, w.ownsRow 0 5 1 u m xs → w'.ownsRow 0 5 1 u m xs := fun ho => own_same ho fun k hb => by
    have hlt := (ho.lt k hb).2
    exact (grow.block k (by simp; omega) (fun e => own_type h.own ho ty_ne e.symm hb)).trans (Below.heap_alloc w o k hlt)
  have split : ∀ {i : Nat} {u : Value}, (vs ++ [v])[i]? = some u → (vs[i]? = some u ∧ i < n) ∨ (i = n ∧ u = v) := fun {i u} hu => by
    rw [List.getElem?_append, hvl] at hu
    by_cases hi : i < n
    · rw [if_pos hi] at hu; exact .inl ⟨hu, hi⟩
    · rw [if_neg hi] at hu
      have h0 : i - n = 0 := by
        rcases Nat.eq_zero_or_pos (i - n) with h0 | h0
        · exact h0
        · rw [List.getElem?_eq_none (by simp; omega)] at hu; cases hu
      rw [h0] at hu
      simp at hu
      exact .inr ⟨by omega, hu.symm⟩
  refine ⟨own, by rw [List.length_append, h.len]; rfl, ?_, ?_, ?_⟩
  · intro k hk
    rcases hat with e | e
    · rw [e] at hk; exact h.avoid k hk
    · rw [e] at hk
      injection hk with hk
      intro hm
      have := hS k hm
      simp at hk
      omega
  · intro i x hx
    rw [List.getElem?_append] at hx
    rw [List.getElem?_append, hvl]
    rw [h.len] at hx
    by_cases hi : i < n
    · rw [if_pos hi] at hx ⊢
      obtain ⟨u, hu, ho, ha⟩ := h.row i x hx
      exact ⟨u, hu, key ho, ha⟩
    · rw [if_neg hi] at hx ⊢
      have h0 : i - n = 0 := by
        rcases Nat.eq_zero_or_pos (i - n) with h0 | h0
        · exact h0
        · rw [List.getElem?_eq_none (by simp; omega)] at hx; cases hx
      rw [h0] at hx ⊢
      simp at hx
      subst hx
      exact ⟨_, rfl, key hv, hvS⟩
  · intro i j a u k hij ha hu hk
    rcases split ha with ⟨ha1, hi⟩ | ⟨hi, hv1⟩
    · rcases split hu with ⟨hu1, hj⟩ | ⟨hj, hv2⟩
      · exact h.apart i j a u k hij ha1 hu1 hk
      · rw [hv2]; exact hap i a k ha1 hk
    · rcases split hu with ⟨hu1, hj⟩ | ⟨hj, hv2⟩
      · rw [hv1] at hk; exact fun e => hap j u k hu1 e hk
      · omega
theorem fresh_ap {w w1 : World} {S : List Nat} {A : Option Addr} {n c : Nat} {vs : List Value} {ls : List (List Int)} (h : Prt w S A n c vs ls) {v : Value} (hge : ∀ k, v.ownBlock = some k → w.heap.size ≤ k) : ∀ (i : Nat) (u : Value) (k : Nat), vs[i]? = some u → u.ownBlock = some k → v.ownBlock ≠ some k := fun i u k hu hk hv => by
  have hi := (List.getElem?_eq_some_iff.1 hu).1
  obtain ⟨l, hl⟩ : ∃ l, ls[i]? = some l := ⟨_, List.getElem?_eq_getElem (by rw [h.len, ← h.vlen]; exact hi)⟩
  obtain ⟨u', hu', ho, _⟩ := h.row i l hl
  rw [hu] at hu'
  injection hu' with hu'
  subst hu'
  have := (ho.lt k hk).2
  have := hge k hv
  omega

set_option maxHeartbeats 2000000 in
set_option maxRecDepth 100000 in
theorem c_copy (A : Option Addr) (n c : Nat) (ls : List (List Int)) (w : World) (hl : ls.length = n) (hn : n ≤ 1048576) (hr : RR w A ls) (hrl : ∀ r ∈ ls, r.length ≤ 1048576) :
    Calls Try.prog 24 #[.slice A n c] w (PartsPost w ls) := by
  have HL := Lib.hid hl
  have HR := Lib.hid hr
  have HRL := Lib.hid hrl
  have hn0 : (0 : Int) ≤ (n : Int) := by omega
  clear hl hr hrl
  go_enter Try.func24, Try.ntmps24
  go_wp2
  go_loopg [3, 4] n (fun g s3 s4 wx => ∃ (k m c' : Nat) (A' : Option Addr) (vs : List Value), k + g = n ∧ s4 = .int .i64 k ∧ s3 = .slice A' m c' ∧ Prt wx (List.range w.heap.size) A' m c' vs (ls.take k) ∧ Below w.heap.size w wx)
  case atStart => exact ⟨0, 0, 0, none, [], by omega, rfl, rfl, Prt.nil _ _, Below.refl _ _⟩
  case round =>
    obtain ⟨k, m2, c2, A2, vs2, hkg, rfl, rfl, P, hB⟩ := hrel
    obtain ⟨wq, rfl⟩ : ∃ wq : World, wq = wr := ⟨_, rfl⟩
    cases gk with
    | zero =>
      obtain rfl : k = n := by omega
      have hk : ¬ (k : Int) < (k : Int) := by omega
      have HT := Lib.hid (show ls.take k = ls from List.take_of_length_le (by rw [HL.out]; exact Nat.le_refl _))
      go_wp2
      go_ret
      rw [HT.out] at P
      exact ⟨_, _, _, _, rfl, Prt.narrow P (by simp), hB⟩
    | succ g =>
      have hk : (k : Int) < (n : Int) := by omega
      obtain ⟨l, hlk⟩ : ∃ l, ls[k]? = some l := ⟨_, List.getElem?_eq_getElem (by rw [HL.out]; omega)⟩
      obtain ⟨bl, off, Al, cl, rfl, hblt, hcell0, hlc, hrb, _⟩ := RR.get HR.out hlk
      have hcell : wq.cell? ⟨bl, off + k, none⟩ = some (.slice Al l.length cl) := by rw [hB.cell (show (⟨bl, off + k, none⟩ : Addr).block < w.heap.size from hblt)]; exact hcell0
      have hblq : bl < wq.heap.size := Nat.lt_of_lt_of_le hblt hB.size
      have hcellO : ∀ o, (wq.alloc o).cell? ⟨bl, off + k, none⟩ = some (.slice Al l.length cl) := fun o => by rw [(bl_alloc wq o).cell (show (⟨bl, off + k, none⟩ : Addr).block < wq.heap.size from hblq)]; exact hcell
      have hll := HRL.out l (List.mem_of_getElem? hlk)
      have HF := Lib.hid (show ls.take (k + 1) = ls.take k ++ [l] from take_snoc' hlk)
      have hmk : m2 ≤ 1048576 := by have := P.len; rw [List.length_take] at this; omega
      have HRB := Lib.hid (show RB wq Al l from RV.below hrb (by exact hB))
      have tk1 : True := trivial
      have tk2 : True := trivial
      clear hlk hcell0 hrb
      go_wp2_with (first
        | (at_builtin; have _t := tk1; go_must (refine wpList_ap el8 rfl (.tmp 12) (.tmp 16) rfl rfl (own_lit (base := wq.heap.size) #[] rfl (Nat.le_refl _) (by unfold maxLen; omega)) rfl (u8s_length l) (HRB.out.alloc _) (u8s_one l) (by unfold maxLen; omega) (by omega) (by simp) ?_); intro A3 c3 w3 hown3 hgrow3 hat3 hle3; have HB3 := Lib.hid (grownBy_below (grow_new' hgrow3)); have HO3 := Lib.hid hown3; have HP3 := Lib.hid (P.kept (Kp.of_below (S := []) HB3.out) (by simp)); clear tk1 _t hgrow3 hat3 hown3)
        | (at_builtin; have _t := tk2; go_must (refine wpList_ap el88 rfl (.tmp 11) (.tmp 18) rfl rfl (HP3.out.own.alloc _) rfl rfl (RV.new _ _) (by intro u hu; simp at hu; subst hu; rfl) (by unfold maxLen; omega) (by omega) (Nat.zero_le _) ?_); intro A4 c4 w4 hown4 hgrow4 hat4 hle4; clear tk2 _t))
      go_roundg g
      case measure => omega
      case rel =>
        have hs := hB.size
        have ho3 : w3.ownsRow wq.heap.size 5 1 (.slice A3 l.length c3) l.length (u8s l) := by simpa using HO3.out
        have hge : ∀ k, (Value.slice A3 l.length c3).ownBlock = some k → wq.heap.size ≤ k := fun k hk => (ho3.lt k hk).1
        refine ⟨k + 1, m2 + 1, c4, A4, _, by omega, by go_num, rfl, by rw [HF.out]; exact row_pushed HP3.out (own_base ho3 (Nat.zero_le _)) (fun k hk => by have := hge k hk; simp; omega) (fresh_ap (w1 := wq) P hge) (by simpa using hown4) hgrow4 hat4 (fun k hk => by simp at hk; have := HB3.out.size; omega), ?_⟩
        refine (hB.trans (HB3.out.mono hs)).trans (Kp.below (((Kp.refl (Value.slice A2 m2 c2).ownBlock.toList w3).alloc _).grown hgrow4 (fun k hk => .inl (by have hk' : (Value.slice A2 m2 c2).ownBlock = some k := hk; simpa using hk'))) (Nat.le_trans hs HB3.out.size) (fun t ht => by
            have ht' : (Value.slice A2 m2 c2).ownBlock = some t := by simpa using ht
            have := P.avoid t ht'
            simpa using this))
end Go.Proofs.Ytmalacamfjdimaa.Pt
