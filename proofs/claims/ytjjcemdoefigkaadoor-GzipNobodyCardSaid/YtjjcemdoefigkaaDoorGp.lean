/- The sum of 32 bits: one look at the table is four moves (plain). -/
import Derived.Test.YtjjcemdoefigkaaDoorKeep
namespace Go.Proofs.YtjjcemdoefigkaaDoor.Hf
set_option linter.unusedVariables false
set_option linter.unusedSimpArgs false
open Go.RowKit Go.Proofs.YtjjcemdoefigkaaDoor.W

def Bt (x : Int) : Prop := 0 ≤ x ∧ x < 256
def poly : Nat := 3988292384
def mvd (x : Nat) : Nat := if x % 2 = 1 then (x / 2) ^^^ poly else x / 2
def mvN : Nat → Nat → Nat
  | 0, x => x
  | n + 1, x => mvN n (mvd x)
def quarterL : List Nat := [0x00000000, 0x1db71064, 0x3b6e20c8, 0x26d930ac, 0x76dc4190, 0x6b6b51f4, 0x4db26158, 0x5005713c,
 0xedb88320, 0xf00f9344, 0xd6d6a3e8, 0xcb61b38c, 0x9b64c2b0, 0x86d3d2d4, 0xa00ae278, 0xbdbdf21c]
def crc1 (s b : Nat) : Nat := 4294967295 ^^^ mvN 8 ((4294967295 ^^^ s) ^^^ b)
theorem mvd_xor (a b : Nat) : mvd (a ^^^ b) = mvd a ^^^ mvd b := by
  unfold mvd
  have hm : (a ^^^ b) % 2 = (a % 2 + b % 2) % 2 := by
    have h1 := Nat.testBit_zero (a ^^^ b)
    rw [Nat.testBit_xor, Nat.testBit_zero, Nat.testBit_zero] at h1
    rcases Nat.mod_two_eq_zero_or_one a with ha | ha <;> rcases Nat.mod_two_eq_zero_or_one b with hb | hb <;> rcases Nat.mod_two_eq_zero_or_one (a ^^^ b) with hc | hc <;> simp_all
  have hd : (a ^^^ b) / 2 = a / 2 ^^^ b / 2 := by
    apply Nat.eq_of_testBit_eq
    intro i
    rw [Nat.testBit_xor, Nat.testBit_div_two, Nat.testBit_div_two, Nat.testBit_div_two, Nat.testBit_xor]
  rw [hm, hd]
  rcases Nat.mod_two_eq_zero_or_one a with ha | ha <;> rcases Nat.mod_two_eq_zero_or_one b with hb | hb <;> simp only [ha, hb]
  · simp
  · simp [Nat.xor_assoc]
  · simp only [Nat.add_zero, Nat.mod_succ, if_true, Nat.zero_ne_one, if_false]
    rw [Nat.xor_assoc, Nat.xor_comm (b / 2) poly, ← Nat.xor_assoc]
  · simp only [Nat.reduceAdd, Nat.mod_self, Nat.zero_ne_one, if_false, if_true]
    rw [Nat.xor_assoc, ← Nat.xor_assoc poly, Nat.xor_comm poly, Nat.xor_assoc (b / 2), Nat.xor_self, Nat.xor_zero]
theorem mvN_xor : ∀ n a b, mvN n (a ^^^ b) = mvN n a ^^^ mvN n b := by
  intro n
  induction n with
  | zero => intro a b; rfl
  | succ n ih => intro a b; unfold mvN; rw [mvd_xor, ih]
theorem mvN_even : ∀ n x, mvN n (2 ^ n * x) = x := by
  intro n
  induction n with
  | zero => intro x; simp [mvN]
  | succ n ih =>
    intro x
    have e : 2 ^ (n + 1) * x = 2 * (2 ^ n * x) := by rw [Nat.pow_succ]; rw [Nat.mul_comm (2 ^ n), Nat.mul_assoc]
    unfold mvN
    rw [e]
    have : mvd (2 * (2 ^ n * x)) = 2 ^ n * x := by
      unfold mvd
      rw [if_neg (by omega)]
      omega
    rw [this, ih]
theorem nib (x : Nat) : x = (16 * (x / 16)) ^^^ (x % 16) := by
  have h1 : 16 * (x / 16) = (x / 16) <<< 4 := by rw [Nat.shiftLeft_eq]; omega
  apply Nat.eq_of_testBit_eq
  intro i
  rw [Nat.testBit_xor, h1, Nat.testBit_shiftLeft, show (16 : Nat) = 2 ^ 4 from rfl, Nat.testBit_mod_two_pow, Nat.testBit_div_two_pow]
  by_cases h : 4 ≤ i
  · have h2 : ¬ i < 4 := by omega
    simp [h, h2]
  · have h2 : i < 4 := by omega
    simp [h, h2]
theorem quarter_is : ∀ k : Fin 16, quarterL.getD k.val 0 = mvN 4 k.val := by decide +kernel
/-- Four moves are one look at the table. -/
theorem four (x : Nat) : mvN 4 x = (x / 16) ^^^ quarterL.getD (x % 16) 0 := by
  have h := quarter_is ⟨x % 16, Nat.mod_lt _ (by omega)⟩
  dsimp only at h
  rw [h]
  conv => lhs; rw [nib x]
  rw [mvN_xor, show 16 * (x / 16) = 2 ^ 4 * (x / 16) from rfl, mvN_even]
theorem mvN_add : ∀ n m x, mvN (n + m) x = mvN m (mvN n x) := by
  intro n
  induction n with
  | zero => intro m x; simp [mvN]
  | succ n ih => intro m x; rw [show n + 1 + m = (n + m) + 1 by omega]; exact ih m (mvd x)
theorem mvd_lt {x : Nat} (h : x < 4294967296) : mvd x < 4294967296 := by
  unfold mvd
  split
  · exact Nat.xor_lt_two_pow (n := 32) (by omega) (by unfold poly; omega)
  · omega
theorem mvN_lt : ∀ n {x : Nat}, x < 4294967296 → mvN n x < 4294967296 := by
  intro n
  induction n with
  | zero => intro x h; exact h
  | succ n ih => intro x h; exact ih (mvd_lt h)
theorem crc1_lt {s b : Nat} (hs : s < 4294967296) (hb : b < 256) : crc1 s b < 4294967296 :=
  Nat.xor_lt_two_pow (n := 32) (by omega) (mvN_lt 8 (Nat.xor_lt_two_pow (n := 32) (Nat.xor_lt_two_pow (n := 32) (by omega) hs) (by omega)))

def crcL (l : List Int) : Nat := l.foldl (fun s x => crc1 s x.toNat) 0
theorem crcL_snoc (l : List Int) (x : Int) : crcL (l ++ [x]) = crc1 (crcL l) x.toNat := by unfold crcL; rw [List.foldl_append]; rfl
theorem crcL_lt {l : List Int} (h : Bytes l) : crcL l < 4294967296 := by
  have : ∀ (l : List Int) (s : Nat), Bytes l → s < 4294967296 → l.foldl (fun s x => crc1 s x.toNat) s < 4294967296 := by
    intro l
    induction l with
    | nil => intro s _ h; exact h
    | cons x l ih => intro s hb hs; exact ih _ (fun y hy => hb y (List.mem_cons_of_mem _ hy)) (crc1_lt hs (by have := hb x (List.mem_cons_self ..); omega))
  exact this l 0 h (by omega)

end Go.Proofs.YtjjcemdoefigkaaDoor.Hf
