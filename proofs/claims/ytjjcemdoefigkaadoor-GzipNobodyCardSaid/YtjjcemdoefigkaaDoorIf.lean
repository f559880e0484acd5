/- The ring's making; bits in the other order. -/
import Derived.Test.YtjjcemdoefigkaaDoorIe
namespace Go.Proofs.YtjjcemdoefigkaaDoor.Hf
set_option linter.unusedVariables false
set_option linter.unusedSimpArgs false
open Go.RowKit Go.Proofs.YtjjcemdoefigkaaDoor.W

theorem el8 : El Tryd.prog 34 5 (.int .u8 0) 1 := ⟨Tryd.underlying34, by kernel_rfl, rfl⟩
def RNew (w : World) (N : Nat) (e : Ending) (w' : World) : Prop := ∃ p q, e = .returned (.tuple #[.pointer (some ⟨p, 0, none⟩), .int .i64 0]) ∧ Rg w' p q N [] ∧ w.heap.size ≤ p ∧ w.heap.size ≤ q ∧ Kp [] w w'
set_option maxHeartbeats 1000000 in
set_option maxRecDepth 100000 in
theorem c_rnew (N : Nat) (w : World) (h1 : 1 ≤ N) (hN : N ≤ 32768) :
    Calls Tryd.prog 29 #[.int .i64 N] w (RNew w N) := by
  have hmk := run_mk el8 .i64 .i64 (Nat.le_refl N) (by omega) (by omega) w
  obtain ⟨cs, hcs⟩ : ∃ cs, madeCells (Value.int .u8 0).cells N = cs := ⟨_, rfl⟩
  rw [hcs] at hmk
  have HCS := Lib.hid (show cs = (u8s (List.replicate N 0)).toArray by
    rw [← hcs]
    apply Array.toList_inj.1
    rw [show (Value.int .u8 0).cells = #[Value.int .u8 0] from rfl, toList_madeCells_one]
    simp [u8s])
  clear hcs
  go_enter Tryd.func29, Tryd.ntmps29
  go_wp2
  go_ret2
  refine ⟨_, _, rfl, ⟨by have h9 := heap_alloc_new (w.alloc (.cells cs 5)) (.cells #[.slice (some ⟨w.heap.size, 0, none⟩) N N, .int .i64 0, .int .i64 0] 62); simpa using h9, ⟨List.replicate N 0, ?_, by simp, fun i x hx => by simp at hx⟩, ?_, h1⟩, ?_, Nat.le_refl _, ((Kp.refl _ _).alloc _).alloc _⟩
  · rw [← HCS.out]
    exact ((Below.refl _ _).alloc (Nat.le_refl _) _).block _ (by simp) |>.trans (heap_alloc_new _ _)
  · simp
  · simp
/-- One exchange within a word. -/
def xst (k m : Nat) (x : Nat) : Nat := ((x / 2 ^ k) &&& m) ||| ((x &&& m) * 2 ^ k % 2 ^ 32)
def x16 (v : Nat) : Nat := (v / 2 ^ 16) ||| (v * 2 ^ 16 % 2 ^ 32)
def revN (v : Nat) : Nat := xst 1 1431655765 (xst 2 858993459 (xst 4 252645135 (xst 8 16711935 (x16 v))))
theorem xst_or (k m x y : Nat) : xst k m (x ||| y) = xst k m x ||| xst k m y := by
  unfold xst
  rw [← Nat.shiftRight_eq_div_pow, ← Nat.shiftRight_eq_div_pow, ← Nat.shiftRight_eq_div_pow, ← Nat.shiftLeft_eq, ← Nat.shiftLeft_eq, ← Nat.shiftLeft_eq, Nat.shiftRight_or_distrib, Nat.and_or_distrib_right, Nat.and_or_distrib_right, Nat.shiftLeft_or_distrib, Nat.or_mod_two_pow]
  ac_rfl
theorem x16_or (x y : Nat) : x16 (x ||| y) = x16 x ||| x16 y := by
  unfold x16
  rw [← Nat.shiftRight_eq_div_pow, ← Nat.shiftRight_eq_div_pow, ← Nat.shiftRight_eq_div_pow, ← Nat.shiftLeft_eq, ← Nat.shiftLeft_eq, ← Nat.shiftLeft_eq, Nat.shiftRight_or_distrib, Nat.shiftLeft_or_distrib, Nat.or_mod_two_pow]
  ac_rfl
theorem revN_or (x y : Nat) : revN (x ||| y) = revN x ||| revN y := by
  unfold revN
  rw [x16_or, xst_or, xst_or, xst_or, xst_or]
theorem xst_lt {k m v : Nat} (hm : m < 4294967296) : xst k m v < 4294967296 := by
  unfold xst
  have h1 : (v / 2 ^ k) &&& m < 2 ^ 32 := Nat.and_lt_two_pow _ (by omega)
  have h2 : (v &&& m) * 2 ^ k % 2 ^ 32 < 2 ^ 32 := Nat.mod_lt _ (by decide)
  have := Nat.or_lt_two_pow h1 h2
  omega
theorem xst_int {k m v K : Nat} (hK : K = 2 ^ k) (hv : v < 4294967296) (hm : m < 4294967296) : bits .or .u32 (bits .and .u32 ((v : Int) / (K : Int)) (m : Int)) (bits .and .u32 (v : Int) (m : Int) * (K : Int) % 4294967296) = ((xst k m v : Nat) : Int) := by
  subst hK
  have e1 : (v : Int) / ((2 ^ k : Nat) : Int) = ((v / 2 ^ k : Nat) : Int) := rfl
  have h1 : v / 2 ^ k ≤ v := Nat.div_le_self _ _
  rw [e1, u32_and_nat _ _ (by omega) hm, u32_and_nat _ _ hv hm]
  have e2 : (((v &&& m : Nat) : Int)) * ((2 ^ k : Nat) : Int) % 4294967296 = (((v &&& m) * 2 ^ k % 2 ^ 32 : Nat) : Int) := by
    rw [← Int.natCast_mul]; rfl
  have h2 : (v &&& m) * 2 ^ k % 2 ^ 32 < 2 ^ 32 := Nat.mod_lt _ (by decide)
  have h3 : (v / 2 ^ k) &&& m < 2 ^ 32 := Nat.and_lt_two_pow _ (by omega)
  rw [e2, u32_or_nat _ _ (by omega) (by omega)]
  rfl
theorem x16_int {v : Nat} (hv : v < 32768) : bits .or .u32 ((v : Int) / 65536) ((v : Int) * 65536) = ((x16 v : Nat) : Int) := by
  have e1 : (v : Int) / 65536 = ((v / 2 ^ 16 : Nat) : Int) := rfl
  have e2 : (v : Int) * 65536 = ((v * 2 ^ 16 % 2 ^ 32 : Nat) : Int) := by rw [Nat.mod_eq_of_lt (by omega)]; omega
  rw [e1, e2, u32_or_nat _ _ (by omega) (by omega)]
  rfl
theorem x16_lt {v : Nat} (hv : v < 32768) : x16 v < 4294967296 := by
  unfold x16
  have h1 : v / 2 ^ 16 < 2 ^ 32 := by omega
  have h2 : v * 2 ^ 16 % 2 ^ 32 < 2 ^ 32 := Nat.mod_lt _ (by decide)
  have := Nat.or_lt_two_pow h1 h2
  omega
set_option maxHeartbeats 1000000 in
theorem c_reverse (v n : Nat) (w : World) (hv : v < 32768) (h1 : 1 ≤ n) (hn : n ≤ 15) :
    Calls Tryd.prog 63 #[.int .u32 v, .int .i64 n] w fun e w' => e = .returned (.int .u32 ((revN v / 2 ^ (32 - n) : Nat) : Int)) ∧ w = w' := by
  have a1 := x16_int hv
  have a2 := xst_int (k := 8) (m := 16711935) (K := 256) rfl (x16_lt hv) (by omega)
  have a3 := xst_int (k := 4) (m := 252645135) (K := 16) rfl (xst_lt (k := 8) (m := 16711935) (v := x16 v) (by omega)) (by omega)
  have a4 := xst_int (k := 2) (m := 858993459) (K := 4) rfl (xst_lt (k := 4) (m := 252645135) (v := xst 8 16711935 (x16 v)) (by omega)) (by omega)
  have a5 := xst_int (k := 1) (m := 1431655765) (K := 2) rfl (xst_lt (k := 2) (m := 858993459) (v := xst 4 252645135 (xst 8 16711935 (x16 v))) (by omega)) (by omega)
  simp only [Int.cast_ofNat_Int] at a2 a3 a4 a5
  go_enter Tryd.func63, Tryd.ntmps63
  go_wp2
  have e5 : IntKind.u64.wrap ((xst 1 1431655765 (xst 2 858993459 (xst 4 252645135 (xst 8 16711935 (x16 v)))) : Nat) : Int) / 2 ^ (32 - n) % 4294967296 = ((revN v / 2 ^ (32 - n) : Nat) : Int) := by
    have h5 : xst 1 1431655765 (xst 2 858993459 (xst 4 252645135 (xst 8 16711935 (x16 v)))) < 4294967296 := xst_lt (by omega)
    rw [IntWalk.u64_in _ (by omega)]
    show _ = ((xst 1 1431655765 (xst 2 858993459 (xst 4 252645135 (xst 8 16711935 (x16 v)))) / 2 ^ (32 - n) : Nat) : Int)
    generalize xst 1 1431655765 (xst 2 858993459 (xst 4 252645135 (xst 8 16711935 (x16 v)))) = z at h5
    have h6 : z / 2 ^ (32 - n) ≤ z := Nat.div_le_self _ _
    have h7 : (z : Int) / 2 ^ (32 - n) = ((z / 2 ^ (32 - n) : Nat) : Int) := by rw [Int.natCast_ediv]; congr 1
    rw [h7]
    generalize z / 2 ^ (32 - n) = z2 at h6
    omega
  rw [e5]
  go_ret
  exact ⟨rfl, rfl⟩
end Go.Proofs.YtjjcemdoefigkaaDoor.Hf
