/- The program's sum: crc.Step. -/
import Derived.Test.YtjjcemdoefigkaaDoorGp
import Derived.Laws.BitsAllLaws
namespace Go.Proofs.YtjjcemdoefigkaaDoor.Hf
set_option linter.unusedVariables false
set_option linter.unusedSimpArgs false
open Go.RowKit Go.Proofs.YtjjcemdoefigkaaDoor.W

/-- The table of the sums. -/
def Gq (w : World) : Prop := ∀ i v, quarterL[i]? = some v → w.cell? ⟨0, i, none⟩ = some (.int .u32 (v : Nat))
theorem quarter_get (k : Nat) (h : k < 16) : quarterL[k]? = some (quarterL.getD k 0) := by
  rw [List.getD_eq_getElem?_getD, List.getElem?_eq_getElem (show k < quarterL.length from h)]
  rfl
theorem quarter_lt (k : Nat) (h : k < 16) : quarterL.getD k 0 < 4294967296 := by
  have hall : ∀ k : _root_.Fin 16, quarterL.getD k.val 0 < 4294967296 := by decide +kernel
  exact hall ⟨k, h⟩
theorem crc_two (s b : Nat) : crc1 s b = 4294967295 ^^^ ((((((4294967295 ^^^ s) ^^^ b) / 16) ^^^ quarterL.getD (((4294967295 ^^^ s) ^^^ b) % 16) 0) / 16) ^^^ quarterL.getD (((((4294967295 ^^^ s) ^^^ b) / 16) ^^^ quarterL.getD (((4294967295 ^^^ s) ^^^ b) % 16) 0) % 16) 0) := by
  unfold crc1
  rw [mvN_add 4 4, four, four]
set_option maxHeartbeats 2000000 in
set_option maxRecDepth 100000 in
theorem c_crc (s : Nat) (b : Int) (w : World) (hs : s < 4294967296) (hb : Bt b) (hG : Gq w) :
    Calls Tryd.prog 15 #[.int .u32 s, .int .u8 b] w fun e w' => e = .returned (.int .u32 ((crc1 s b.toNat : Nat) : Int)) ∧ w = w' := by
  obtain ⟨c, rfl⟩ : ∃ c : Nat, b = c := ⟨b.toNat, by have := hb.1; omega⟩
  have hc : c < 256 := by have := hb.2; omega
  rw [Int.toNat_natCast, crc_two]
  have hx0 : ((4294967295 ^^^ s) ^^^ c) < 4294967296 := Nat.xor_lt_two_pow (n := 32) (Nat.xor_lt_two_pow (n := 32) (by omega) hs) (by omega)
  have ha0 : (4294967295 ^^^ s) < 4294967296 := Nat.xor_lt_two_pow (n := 32) (by omega) hs
  have e1 : bits .xor .u32 4294967295 (s : Int) = ((4294967295 ^^^ s : Nat) : Int) := u32_xor_nat 4294967295 s (by omega) hs
  have e2 := u32_xor_nat (4294967295 ^^^ s) c ha0 (by omega)
  generalize (4294967295 ^^^ s) = a0 at *
  generalize (a0 ^^^ c) = x0 at *
  have k1 : x0 % 16 < 16 := Nat.mod_lt _ (by omega)
  have q1 := hG _ _ (quarter_get (x0 % 16) k1)
  have l1 := quarter_lt (x0 % 16) k1
  have e3 : bits .xor .u32 ((x0 : Int) / 16) (quarterL.getD (x0 % 16) 0 : Nat) = ((x0 / 16 ^^^ quarterL.getD (x0 % 16) 0 : Nat) : Int) := by rw [show (x0 : Int) / 16 = ((x0 / 16 : Nat) : Int) by omega]; exact u32_xor_nat (x0 / 16) (quarterL.getD (x0 % 16) 0) (by omega) l1
  have hx1 : (x0 / 16) ^^^ quarterL.getD (x0 % 16) 0 < 4294967296 := Nat.xor_lt_two_pow (n := 32) (by omega) l1
  generalize quarterL.getD (x0 % 16) 0 = v1 at *
  generalize (x0 / 16) ^^^ v1 = x1 at *
  have k2 : x1 % 16 < 16 := Nat.mod_lt _ (by omega)
  have q2 := hG _ _ (quarter_get (x1 % 16) k2)
  have l2 := quarter_lt (x1 % 16) k2
  have e4 : bits .xor .u32 ((x1 : Int) / 16) (quarterL.getD (x1 % 16) 0 : Nat) = ((x1 / 16 ^^^ quarterL.getD (x1 % 16) 0 : Nat) : Int) := by rw [show (x1 : Int) / 16 = ((x1 / 16 : Nat) : Int) by omega]; exact u32_xor_nat (x1 / 16) (quarterL.getD (x1 % 16) 0) (by omega) l2
  have hx2 : (x1 / 16) ^^^ quarterL.getD (x1 % 16) 0 < 4294967296 := Nat.xor_lt_two_pow (n := 32) (by omega) l2
  generalize quarterL.getD (x1 % 16) 0 = v2 at *
  generalize (x1 / 16) ^^^ v2 = x2 at *
  have e5 : bits .xor .u32 4294967295 (x2 : Int) = ((4294967295 ^^^ x2 : Nat) : Int) := u32_xor_nat 4294967295 x2 (by omega) hx2
  have m1 : bits .and .u32 (x0 : Int) 15 = ((x0 % 16 : Nat) : Int) := by rw [← nat_mask4]; exact u32_and_nat x0 15 hx0 (by omega)
  have m2 : bits .and .u32 (x1 : Int) 15 = ((x1 % 16 : Nat) : Int) := by rw [← nat_mask4]; exact u32_and_nat x1 15 hx1 (by omega)
  have m3 : (0 : Int) ≤ (x0 % 16 : Nat) ∧ ((x0 % 16 : Nat) : Int) < 16 := by omega
  have m4 : (0 : Int) ≤ (x1 % 16 : Nat) ∧ ((x1 % 16 : Nat) : Int) < 16 := by omega
  have e9 : IntKind.u32.max = 4294967295 := rfl
  have E1 := Lib.hid e1
  have E2 := Lib.hid e2
  have E3 := Lib.hid e3
  have E4 := Lib.hid e4
  have E5 := Lib.hid e5
  clear hG hb e1 e2 e3 e4 e5
  go_enter Tryd.func15, Tryd.ntmps15
  go_upto_region 2 with (fail)
  simp only [show IntKind.u32.signed = false from rfl, Bool.false_eq_true, if_false, show IntKind.u32.max = 4294967295 from rfl, E1.out, E2.out]
  go_upto_region 3 with (fail)
  rw [E3.out]
  go_upto_region 4 with (fail)
  rw [E4.out]
  go_wp2
  try rw [e9]
  rw [E5.out]
  go_ret
  exact ⟨rfl, rfl⟩
end Go.Proofs.YtjjcemdoefigkaaDoor.Hf
