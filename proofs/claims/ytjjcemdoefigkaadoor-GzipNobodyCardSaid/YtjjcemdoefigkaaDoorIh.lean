/- Tables of codes: the walks of Kraft and begins. -/
import Derived.Test.YtjjcemdoefigkaaDoorIg
import Derived.Deep.LoopGhost
namespace Go.Proofs.YtjjcemdoefigkaaDoor.Hf
set_option linter.unusedVariables false
set_option linter.unusedSimpArgs false
open Go.RowKit Go.Proofs.YtjjcemdoefigkaaDoor.W

def ints (ls : List Nat) : List Value := ls.map fun n : Nat => Value.int .i64 (n : Int)
theorem ints_at {w : World} {A : Option Addr} {ls : List Nat} (h : RV w A (ints ls)) {i n : Nat} (hn : ls[i]? = some n) : ∃ b off, A = some ⟨b, off, none⟩ ∧ b < w.heap.size ∧ w.cell? ⟨b, off + i, none⟩ = some (.int .i64 (n : Int)) :=
  h i _ (by simp [ints, hn])
theorem kraft_snoc {ls : List Nat} {k n : Nat} (h : ls[k]? = some n) : kraft (ls.take (k + 1)) = kraft (ls.take k) + if 0 < n then 2 ^ (15 - n) else 0 := by
  obtain ⟨h1, h2⟩ := List.getElem?_eq_some_iff.1 h
  rw [List.take_succ_eq_append_getElem h1, h2]
  simp [kraft]
theorem kraft_le (ls : List Nat) : kraft ls ≤ ls.length * 16384 := by
  induction ls with
  | nil => simp [kraft]
  | cons n ls ih =>
    have e : kraft (n :: ls) = (if 0 < n then 2 ^ (15 - n) else 0) + kraft ls := by simp [kraft]
    rw [e, List.length_cons, Nat.add_mul]
    have : (if 0 < n then 2 ^ (15 - n) else 0) ≤ 16384 := by
      split
      · exact Nat.le_trans (Nat.pow_le_pow_right (by omega) (show 15 - n ≤ 14 by omega)) (by decide)
      · omega
    omega
def KraftPost (w : World) (ls : List Nat) (e : Ending) (w' : World) : Prop := e = .returned (.tuple #[.int .i64 (kraft ls), .bool true]) ∧ w = w'
set_option maxHeartbeats 1000000 in
set_option maxRecDepth 100000 in
theorem c_kraft (A : Option Addr) (L c : Nat) (ls : List Nat) (w : World) (hL : ls.length = L) (hl : L ≤ 320) (hle : ∀ n ∈ ls, n ≤ 15) (hr : RV w A (ints ls)) :
    Calls Tryd.prog 61 #[.slice A L c] w (KraftPost w ls) := by
  have HLE := Lib.hid hle
  have HR := Lib.hid hr
  have HL := Lib.hid hL
  have hl2 : (L : Int) ≤ 320 := by omega
  clear hle hr hL
  go_enter Tryd.func61, Tryd.ntmps61
  go_wp2
  go_loopg [4, 9] L (fun g s4 s9 wx => ∃ k : Nat, k + g = L ∧ s9 = .int .i64 k ∧ s4 = .int .i64 (kraft (ls.take k)) ∧ w = wx)
  case atStart => exact ⟨0, by omega, rfl, rfl, rfl⟩
  case round =>
    obtain ⟨k, hkg, rfl, rfl, rfl⟩ := hrel
    cases gk with
    | zero =>
      obtain rfl : k = L := by omega
      have hk : ¬ (k : Int) < (k : Int) := by omega
      have HT := Lib.hid (show ls.take k = ls from List.take_of_length_le (by rw [HL.out]; exact Nat.le_refl _))
      go_wp2
      go_ret2
      exact ⟨by rw [HT.out]; rfl, rfl⟩
    | succ g =>
      have hk : (k : Int) < (L : Int) := by omega
      obtain ⟨n, hn⟩ : ∃ n, ls[k]? = some n := ⟨_, List.getElem?_eq_getElem (by rw [HL.out]; omega)⟩
      have hn15 := HLE.out n (List.mem_of_getElem? hn)
      obtain ⟨b, off, rfl, hb, hc⟩ := ints_at HR.out hn
      have HS := Lib.hid (kraft_snoc hn)
      have hkb := kraft_le (ls.take k)
      have hkl : kraft (ls.take k) ≤ 5242880 := by
        rw [List.length_take] at hkb
        have : min k ls.length * 16384 ≤ 320 * 16384 := Nat.mul_le_mul_right _ (by rw [HL.out]; omega)
        omega
      clear hn hkb
      obtain ⟨K, hK⟩ : ∃ K, kraft (ls.take k) = K := ⟨_, rfl⟩
      rw [hK] at hkl ⊢
      have HK := Lib.hid hK
      clear hK
      by_cases h0 : 0 < n
      · have h0i : (0 : Int) < (n : Int) := by omega
        go_wp2
        have hp : 2 ^ (15 - n) ≤ 2 ^ 15 := Nat.pow_le_pow_right (by omega) (by omega)
        obtain ⟨P, hP⟩ : ∃ P : Nat, 2 ^ (15 - n) = P := ⟨_, rfl⟩
        have e0 : ((2 : Int) ^ (15 - n)) = (P : Int) := by rw [← hP]; push_cast; rfl
        rw [hP] at hp
        have eK : wrap64 ((K : Int) + (P : Int)) = ((K + P : Nat) : Int) := by rw [IntWalk.wrap64_in _ (by omega)]; omega
        have eP : wrap64 (P : Int) = (P : Int) := IntWalk.wrap64_in _ (by omega)
        rw [e0, eP, eK]
        have HP := Lib.hid hP
        clear e0 eP eK hP
        go_roundg g
        case measure => omega
        case rel => exact ⟨k + 1, by omega, by go_num, by rw [HS.out, HK.out, if_pos h0, HP.out], rfl⟩
      · obtain rfl : n = 0 := by omega
        go_wp2
        go_roundg g
        case measure => omega
        case rel => exact ⟨k + 1, by omega, by go_num, by rw [HS.out, HK.out, if_neg h0]; rfl, rfl⟩
end Go.Proofs.YtjjcemdoefigkaaDoor.Hf
