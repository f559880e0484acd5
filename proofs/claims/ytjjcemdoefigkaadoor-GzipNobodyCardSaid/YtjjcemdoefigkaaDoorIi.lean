/- Tables of codes: the walk of begins. -/
import Derived.Test.YtjjcemdoefigkaaDoorIh
namespace Go.Proofs.YtjjcemdoefigkaaDoor.Hf
set_option linter.unusedVariables false
set_option linter.unusedSimpArgs false
open Go.RowKit Go.Proofs.YtjjcemdoefigkaaDoor.W

/-- The numbers of a table at block t. -/
structure Nums (w : World) (t : Nat) (lens : List Nat) : Prop where
  fst : ∀ k, k ≤ 15 → w.cell? ⟨t, 2 + k, none⟩ = some (.int .i64 (fst_ lens k : Nat))
  cnt : ∀ k, k ≤ 15 → w.cell? ⟨t, 19 + k, none⟩ = some (.int .i64 (cnt lens k : Nat))
  lt : t < w.heap.size
def bg (lens : List Nat) (c n k : Nat) : Prop := 0 < cnt lens k ∧ c * 2 ^ (k - n) < fst_ lens k + cnt lens k ∧ fst_ lens k < c * 2 ^ (k - n) + 2 ^ (k - n)
def BegPost (w : World) (lens : List Nat) (c n : Nat) (e : Ending) (w' : World) : Prop := (∃ b : Bool, e = .returned (.bool b) ∧ (b = true ↔ begs lens c n)) ∧ w.heap = w'.heap ∧ Kp [] w w'
set_option maxHeartbeats 1000000 in
set_option maxRecDepth 100000 in
theorem c_begins (t : Nat) (lens : List Nat) (c n : Nat) (w : World) (ht : Tab lens) (hN : Nums w t lens) (hn : n ≤ 15) (hc : c < 2 ^ n) :
    Calls Tryd.prog 64 #[.pointer (some ⟨t, 0, none⟩), .int .u32 c, .int .i64 n] w (BegPost w lens c n) := by
  have HT := Lib.hid ht
  have HN := Lib.hid hN
  have hlt := hN.lt
  have hc15 : c < 32768 := Nat.lt_of_lt_of_le hc (Nat.pow_le_pow_right (by omega) hn)
  have HC := Lib.hid hc
  clear ht hN hc
  go_enter Tryd.func64, Tryd.ntmps64
  go_wp2
  go_loopg [7] (15 - n) (fun g s7 wx => ∃ k : Nat, k + g = 16 ∧ n < k ∧ s7 = .int .i64 k ∧ (∀ j, n < j → j < k → ¬ bg lens c n j) ∧ w.heap = wx.heap ∧ Kp [] w wx)
  case atStart => exact ⟨n + 1, by omega, by omega, by go_num, fun j h1 h2 => by omega, rfl, Kp.refl _ _⟩
  case round =>
    obtain ⟨k, hkg, hnk, rfl, hno, hh, hkp⟩ := hrel
    cases gk with
    | zero =>
      have hk : ¬ (k : Int) ≤ 15 := by omega
      go_wp2
      go_ret
      exact ⟨⟨false, rfl, fun h => (by cases h), fun ⟨j, h1, h2, h3⟩ => absurd h3 (hno j h1 (by omega))⟩, hh, hkp⟩
    | succ g =>
      have hk : (k : Int) ≤ 15 := by omega
      have h1 := HN.out.fst k (by omega)
      have h2 := HN.out.cnt k (by omega)
      have hbk := hkp.block t hlt (by simp)
      have h1 := (World.cell?_of_block (a := ⟨t, 2 + k, none⟩) hbk).trans h1
      have h2 := (World.cell?_of_block (a := ⟨t, 19 + k, none⟩) hbk).trans h2
      go_upto_region 5 with (fail)
      have hfl := fst_le HT.out.kr k (by omega)
      obtain ⟨P, hP⟩ : ∃ P : Nat, 2 ^ (k - n) = P := ⟨_, rfl⟩
      have hcp : c * P < 32768 := by
        have h3 : c * P < 2 ^ n * P := Nat.mul_lt_mul_of_pos_right HC.out (by rw [← hP]; exact Nat.two_pow_pos _)
        rw [← hP, ← Nat.pow_add, show n + (k - n) = k by omega] at h3
        have h4 : 2 ^ k ≤ 2 ^ 15 := Nat.pow_le_pow_right (by omega) (by omega)
        rw [hP] at h3
        omega
      have hP15 : P ≤ 32768 := by
        rw [← hP]
        exact Nat.pow_le_pow_right (n := 2) (by omega) (show _ ≤ 15 by omega)
      have hfl15 : fst_ lens k + cnt lens k ≤ 32768 := Nat.le_trans hfl (Nat.pow_le_pow_right (n := 2) (by omega) (show _ ≤ 15 by omega))
      have HB := Lib.hid (show bg lens c n k ↔ 0 < cnt lens k ∧ c * P < fst_ lens k + cnt lens k ∧ fst_ lens k < c * P + P by unfold bg; rw [hP])
      have e0 : ((2 : Int) ^ (k - n)) = (P : Int) := by rw [← hP]; push_cast; rfl
      clear hP hfl
      obtain ⟨L, hL⟩ : ∃ L : Nat, c * P = L := ⟨_, rfl⟩
      have e1 : wrap64 ((c : Int) * (P : Int)) = (L : Int) := by rw [← hL, ← Int.natCast_mul]; exact IntWalk.wrap64_in _ (by omega)
      obtain ⟨F, hF⟩ : ∃ F, fst_ lens k = F := ⟨_, rfl⟩
      obtain ⟨C, hC⟩ : ∃ C, cnt lens k = C := ⟨_, rfl⟩
      rw [hL] at hcp
      rw [hF] at h1 hfl15
      rw [hC] at h2 hfl15
      rw [e0, e1]
      have HB2 := Lib.hid (show bg lens c n k ↔ 0 < C ∧ L < F + C ∧ F < L + P by rw [HB.out, hL, hF, hC])
      clear HB hL hF hC e1
      obtain ⟨T1, hT1⟩ : ∃ T1, F + C = T1 := ⟨_, rfl⟩
      obtain ⟨T2, hT2⟩ : ∃ T2, L + P = T2 := ⟨_, rfl⟩
      obtain ⟨eT1, eT2, eP⟩ : IntKind.i64.wrap ((F : Int) + (C : Int)) = (T1 : Int) ∧ IntKind.i64.wrap ((L : Int) + (P : Int)) = (T2 : Int) ∧ wrap64 ((2 : Int) ^ (k - n)) = (P : Int) := by
        refine ⟨?_, ?_, ?_⟩
        · rw [← hT1, Int.natCast_add]; exact IntWalk.i64_in _ (by omega)
        · rw [← hT2, Int.natCast_add]; exact IntWalk.i64_in _ (by omega)
        · rw [e0]; exact IntWalk.wrap64_in _ (by omega)
      rw [hT1, hT2] at HB2
      clear e0
      by_cases b1 : 0 < C
      · have d1 : decide ((0 : Int) < (C : Int)) = true := W.decT (Int.ofNat_lt.2 (by assumption))
        have d1' : decide (0 < C) = true := W.decT b1
        by_cases b2 : L < T1
        · have d2 : decide ((L : Int) < (T1 : Int)) = true := W.decT (Int.ofNat_lt.2 (by assumption))
          have d2' : decide (L < T1) = true := W.decT b2
          by_cases b3 : F < T2
          · have d3 : decide ((F : Int) < (T2 : Int)) = true := W.decT (Int.ofNat_lt.2 (by assumption))
            have d3' : decide (F < T2) = true := W.decT b3
            go_quiet (fail)
            go_wp2
            go_ret
            exact ⟨⟨true, rfl, fun _ => ⟨k, hnk, by omega, HB2.out.2 ⟨b1, b2, b3⟩⟩, fun _ => rfl⟩, hh, hkp.drewN nq⟩
          · have d3 : decide ((F : Int) < (T2 : Int)) = false := W.decF (fun h => (by assumption : ¬ _) (Int.ofNat_lt.1 h))
            have d3' : decide (F < T2) = false := W.decF b3
            go_quiet (fail)
            clear eT1 eT2 eP
            go_wp2
            go_roundg g
            case measure => omega
            case rel => exact ⟨k + 1, by omega, by omega, by go_num, fun j h3 h4 => (by rcases Nat.lt_or_ge j k with h5 | h5; exact hno j h3 h5; rw [show j = k by omega]; exact fun h6 => b3 (HB2.out.1 h6).2.2), hh, hkp.drewN nq⟩
        · have d2 : decide ((L : Int) < (T1 : Int)) = false := W.decF (fun h => (by assumption : ¬ _) (Int.ofNat_lt.1 h))
          have d2' : decide (L < T1) = false := W.decF b2
          go_quiet (fail)
          clear eT1 eT2 eP
          go_wp2
          go_roundg g
          case measure => omega
          case rel => exact ⟨k + 1, by omega, by omega, by go_num, fun j h3 h4 => (by rcases Nat.lt_or_ge j k with h5 | h5; exact hno j h3 h5; rw [show j = k by omega]; exact fun h6 => b2 (HB2.out.1 h6).2.1), hh, hkp.drewN nq⟩
      · have d1 : decide ((0 : Int) < (C : Int)) = false := W.decF (fun h => (by assumption : ¬ _) (Int.ofNat_lt.1 h))
        have d1' : decide (0 < C) = false := W.decF b1
        go_quiet (fail)
        clear eT1 eT2 eP
        go_wp2
        go_roundg g
        case measure => omega
        case rel => exact ⟨k + 1, by omega, by omega, by go_num, fun j h3 h4 => (by rcases Nat.lt_or_ge j k with h5 | h5; exact hno j h3 h5; rw [show j = k by omega]; exact fun h6 => b1 (HB2.out.1 h6).1), hh, hkp.drewN nq⟩
end Go.Proofs.YtjjcemdoefigkaaDoor.Hf
