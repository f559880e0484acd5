/- The program's delimited: is one of a part's lines a delimiter? -/
import Derived.Test.YtmalacamfjdimaaWa
import Derived.Test.YtmalacamfjdimaaRk
import Derived.Test.YtmalacamfjdimaaRf
namespace Go.Proofs.Ytmalacamfjdimaa.Pt
open Go.RowKit Go.Proofs.Ytmalacamfjdimaa.W

theorem nl_cons (a : Int) (r : List Int) : nl (a :: r) = if a = 10 then 0 else nl r + 1 := by
  unfold nl
  rw [List.takeWhile_cons]
  by_cases ha : a = 10
  · subst ha; simp
  · rw [if_pos (by simpa using ha), if_neg ha]; simp
theorem idx10 (l : List Int) (hl : Bytes l) : Lib.indexByte (Lib.bytesOf l) 10 = if nl l < l.length then (nl l : Int) else -1 := by
  induction l with
  | nil => rfl
  | cons a r ih =>
    have ih := ih (fun x hx => hl x (List.mem_cons_of_mem _ hx))
    have ha := hl a (by simp)
    rw [nl_cons]
    show (if UInt8.ofNat a.toNat == 10 then (0 : Int) else if Lib.indexByte (Lib.bytesOf r) 10 == -1 then -1 else Lib.indexByte (Lib.bytesOf r) 10 + 1) = _
    by_cases h : a = 10
    · subst h
      rw [if_pos rfl, if_pos (by rfl)]
      simp
    · have hne : (UInt8.ofNat a.toNat == 10) = false := by
        rw [beq_eq_false_iff_ne]
        intro e
        exact h ((byte_one (x := 10) (v := a) (by omega) ha).1 e)
      rw [hne, if_neg (by simp), if_neg h]
      by_cases hlt : nl r < r.length
      · rw [if_pos hlt] at ih
        have h1 : (((nl r : Nat) : Int) == -1) = false := by rw [beq_eq_false_iff_ne]; omega
        have h2 : nl r + 1 < (a :: r).length := by simp; exact hlt
        rw [ih, h1, if_neg (by simp), if_pos h2]
        simp
      · rw [if_neg hlt] at ih
        have h2 : ¬ nl r + 1 < (a :: r).length := by simp; omega
        rw [ih, if_pos (by decide), if_neg h2]
theorem add_pl (b o i : Nat) : (⟨b, o, none⟩ : Addr).add i = ⟨b, o + i, none⟩ := by unfold Addr.add; split <;> simp_all
theorem RB.getD {w : World} {A : Option Addr} {l : List Int} (h : RB w A l) {i : Nat} (hi : i < l.length) : ∃ b off, A = some ⟨b, off, none⟩ ∧ w.cell? ⟨b, off + i, none⟩ = some (.int .u8 (l.getD i 0)) := by
  obtain ⟨b, off, hA, _, hc⟩ := RB.get h (List.getElem?_eq_getElem hi)
  exact ⟨b, off, hA, by rw [hc]; simp [List.getD, List.getElem?_eq_getElem hi]⟩
theorem RB.in_ {w : World} {A : Option Addr} {l : List Int} {n : Nat} (h : RB w A l) (hl : l.length = n) : Lib.BytesIn w A n l := by
  subst hl
  intro h0
  obtain ⟨b, off, rfl, _⟩ := RB.getD h h0
  refine ⟨b, off, rfl, fun i hi => ?_⟩
  obtain ⟨b', off', hA, hc⟩ := RB.getD h hi
  injection hA with hA
  injection hA with h1 h2
  subst h1 h2
  exact hc

def CutPost (w : World) (A : Option Addr) (n c : Nat) (l : List Int) (e : Ending) (w' : World) : Prop :=
  (∃ q, w' = w.drewN q) ∧ ((nl l < n ∧ ∃ A' c', e = .returned (.tuple #[.slice A (nl l) c, .slice A' (n - (nl l + 1)) c', .bool true]) ∧ (∀ wz, RB wz A l → RB wz A' (l.drop (nl l + 1))) ∧ n - (nl l + 1) ≤ c' ∧ (A' = none → c' = 0)) ∨
    (¬ nl l < n ∧ e = .returned (.tuple #[.slice A n c, .slice none 0 0, .bool false])))
theorem c_cut (A : Option Addr) (n c b2 : Nat) (l : List Int) (w : World) (hl : l.length = n) (hnc : n ≤ c) (hn : n ≤ 140737488355328) (hby : Bytes l) (hr : RB w A l) (hnil : A = none → c = 0) (h2 : w.cell? ⟨b2, 0, none⟩ = some (.int .u8 10)) :
    Calls Try.prog 47 #[.slice A n c, .slice (some ⟨b2, 0, none⟩) 1 1] w (CutPost w A n c l) := by
  have hle := nl_le l
  have hidx : Calls Try.prog 54 #[.slice A n c, .slice (some ⟨b2, 0, none⟩) 1 1] w fun e w' => e = .returned (.int .i64 (if nl l < n then (nl l : Int) else -1)) ∧ ∃ q, w' = w.drewN q := by
    cases A with
    | none =>
      have h0 : l = [] := by
        cases l with
        | nil => rfl
        | cons x r => obtain ⟨_, _, h, _⟩ := RB.getD hr (i := 0) (by simp); cases h
      subst h0
      simp at hl
      subst hl
      obtain rfl := hnil rfl
      exact (Try.bytes_Index_one_nil b2 0 1 10 w h2).mono fun e w' ⟨he, hw⟩ => ⟨he, 0, hw⟩
    | some a =>
      refine (Try.bytes_Index_one_at a n c b2 0 1 l 10 w hl (fun i hi => ?_) h2).mono fun e w' ⟨he, hw⟩ => ⟨?_, 0, hw⟩
      · obtain ⟨b, off, hA, hc⟩ := RB.getD hr (i := i) (by omega)
        injection hA with hA
        subst hA
        rw [add_pl]; exact hc
      · rw [he, show ((10 : Int).toNat.toUInt8) = 10 from rfl, idx10 l hby, hl]
  have hC := Try.bytes_Cut_of A (some ⟨b2, 0, none⟩) n c 1 1 (if nl l < n then (nl l : Int) else -1) w hnc (by split <;> omega) (by split <;> omega) (by omega) hidx
  refine hC.mono ?_
  rintro e w' ⟨he, hw⟩
  refine ⟨hw, ?_⟩
  by_cases hlt : nl l < n
  · left
    refine ⟨hlt, ?_⟩
    rw [if_pos hlt] at he
    unfold Lib.cutV Lib.fromV at he
    rw [if_pos (by omega)] at he
    obtain ⟨b, off, rfl, _⟩ := RB.getD hr (i := 0) (by omega)
    refine ⟨_, _, he, ?_, by omega, ?_⟩
    · intro wz hr
      rw [Int.toNat_natCast]
      by_cases hc : c = nl l + 1
      · rw [if_pos hc]
        have : l.drop (nl l + 1) = [] := List.drop_eq_nil_of_le (by omega)
        rw [this]
        exact RV.nil _ _
      · rw [if_neg hc]
        have h3 := RV.drop hr (nl l + 1)
        rw [Option.map_some, add_pl]
        unfold RB
        simpa [u8s, List.map_drop] using h3
    · intro h
      exfalso
      split at h <;> simp at h
  · right
    refine ⟨hlt, ?_⟩
    rw [if_neg hlt] at he
    unfold Lib.cutV at he
    rw [if_neg (by omega)] at he
    exact he
theorem strip_take (l : List Int) : strip l = l.take (strip l).length := by
  unfold strip
  split
  · rw [List.dropLast_eq_take]; simp
  · simp
theorem c_trimS (A : Option Addr) (n c b2 : Nat) (l : List Int) (w : World) (hl : l.length = n) (hnc : n ≤ c) (hn : n ≤ 140737488355328) (hby : Bytes l) (hr : RB w A l) (h2 : w.cell? ⟨b2, 0, none⟩ = some (.int .u8 13)) :
    Calls Try.prog 48 #[.slice A n c, .slice (some ⟨b2, 0, none⟩) 1 1] w fun e w' => e = .returned (.slice A (strip l).length c) ∧ w = w' := by
  refine (Try.bytes_TrimSuffix_all A (some ⟨b2, 0, none⟩) n c 1 1 l [13] w hl rfl hnc (by omega) (RB.in_ hr hl) (fun _ => ⟨b2, 0, rfl, fun i hi => by cases i with | zero => exact h2 | succ i => omega⟩)).mono ?_
  rintro e w' ⟨rfl, rfl⟩
  refine ⟨?_, rfl⟩
  subst hl
  have key : Lib.hasSuffix (Lib.bytesOf l) (Lib.bytesOf [13]) = decide (l.getLast? = some 13) := by
    rw [Bool.eq_iff_iff]
    unfold Lib.hasSuffix
    rw [List.isSuffixOf_iff_suffix]
    constructor
    · intro ⟨t, ht⟩
      rcases List.eq_nil_or_concat l with h0 | ⟨r, x, rfl⟩
      · subst h0; simp [Lib.bytesOf] at ht
      · have hx := hby x (by simp)
        simp only [Lib.bytesOf, List.concat_eq_append, List.map_append, List.map_cons, List.map_nil] at ht
        have := (List.append_inj' ht rfl).2
        injection this with h1
        have := (byte_one (x := x) (v := 13) hx (by omega)).1 h1
        subst this
        simp
    · intro h
      have h := of_decide_eq_true h
      rcases List.eq_nil_or_concat l with h0 | ⟨r, x, rfl⟩
      · subst h0; simp at h
      · simp at h
        subst h
        exact ⟨Lib.bytesOf r, by simp [Lib.bytesOf]⟩
  unfold Lib.trimSuffixV
  by_cases h13 : l.getLast? = some 13
  · have hs : strip l = l.dropLast := by unfold strip; rw [if_pos h13]
    have hlen : 0 < l.length := by
      cases l with
      | nil => simp at h13
      | cons x r => simp
    obtain ⟨b, off, rfl, _⟩ := RB.getD hr hlen
    show Ending.returned (Lib.bytesTrimSuffix b off l.length c l [13]) = _
    unfold Lib.bytesTrimSuffix
    rw [key, if_pos (decT h13), hs]
    simp [Lib.sliceTo]
  · have hs : strip l = l := by unfold strip; rw [if_neg h13]
    rw [hs]
    split
    · unfold Lib.bytesTrimSuffix
      rename_i h
      rw [key, if_neg (by simpa using h13)]
    · rfl
end Go.Proofs.Ytmalacamfjdimaa.Pt
