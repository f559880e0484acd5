/- The bits' reader: its walks. -/
import Derived.Test.YtjjcemdoefigkaaDoorKeep
import Derived.Test.YtjjcemdoefigkaaDoorIa
import Derived.BigQuiet
import Derived.Deep.QuietTactic
import Derived.WalkMore
import Derived.StillTailTactics
import Derived.ScopeJumps
namespace Go.Proofs.YtjjcemdoefigkaaDoor.Hf
set_option linter.unusedVariables false
set_option linter.unusedSimpArgs false
open Go.RowKit Go.Proofs.YtjjcemdoefigkaaDoor.W

/-- A scope that is left forward, to one label, once. -/
def fwd (P : Program) (l : Nat) (rest : Code) (Q : Exit → Act → World → Prop) : Exit → Act → World → Prop
  | .goto l', a, w => l' = l ∧ rest.wp P (Exit.noGoto Q) a w
  | e, a, w => Q e a w
theorem wp_scope_fwd {P : Program} {a : Act} {w : World} {Q : Exit → Act → World → Prop} {c rest : Code} (l : Nat) (hf : findLabel c l = some rest) (first : c.wp P (fwd P l rest Q) a w) : (Code.scope c).wp P Q a w := by
  refine wp_scope_jumps l (fun a w => rest.wp P (Exit.noGoto Q) a w) (fun _ _ => 0) hf ?_ ?_
  · refine Code.wp_mono ?_ first
    intro e a w h
    cases e <;> exact h
  · intro a w h
    refine Code.wp_mono ?_ h
    intro e a w h
    cases e <;> first | exact h | exact h.elim

/-- The reader at block p holds the bits bs. -/
structure Rd (w : World) (p : Nat) (bs : List Bool) : Prop where
  cells : w.heap[p]? = some (.cells #[.int .u64 (num bs), .int .u64 bs.length] 65 (0, 0))
theorem Rd.lt {w : World} {p : Nat} {bs : List Bool} (h : Rd w p bs) : p < w.heap.size := (Array.getElem?_eq_some_iff.1 h.cells).1
theorem Rd.c0 {w : World} {p : Nat} {bs : List Bool} (h : Rd w p bs) : w.cell? ⟨p, 0, none⟩ = some (.int .u64 (num bs)) := cell_of_row w p 0 _ _ _ h.cells
theorem Rd.c1 {w : World} {p : Nat} {bs : List Bool} (h : Rd w p bs) : w.cell? ⟨p, 1, none⟩ = some (.int .u64 bs.length) := cell_of_row w p 1 _ _ _ h.cells
theorem Rd.fz {w : World} {p : Nat} {bs : List Bool} (h : Rd w p bs) : ∀ i, w.frozen? ⟨p, i, none⟩ = false := fun i => frozen_of_row w p i _ _ h.cells
theorem Rd.kept {S : List Nat} {w w' : World} {p : Nat} {bs : List Bool} (h : Rd w p bs) (hk : Kp S w w') (h1 : p ∉ S) : Rd w' p bs := ⟨(hk.block p h.lt h1).trans h.cells⟩

def HeldPost (w : World) (bs : List Bool) (e : Ending) (w' : World) : Prop := e = .returned (.int .i64 bs.length) ∧ w = w'
set_option maxHeartbeats 1000000 in
theorem c_held (p : Nat) (bs : List Bool) (w : World) (h : Rd w p bs) (hl : bs.length ≤ 64) :
    Calls Tryd.prog 62 #[.pointer (some ⟨p, 0, none⟩)] w (HeldPost w bs) := by
  have h1 := h.c1
  go_enter Tryd.func62, Tryd.ntmps62
  go_wp2
  go_ret
  exact ⟨rfl, rfl⟩

def DropPost (w : World) (p : Nat) (bs : List Bool) (n : Nat) (e : Ending) (w' : World) : Prop := e = .returned (.tuple #[]) ∧ Rd w' p (bs.drop n) ∧ Kp [p] w w'
set_option maxHeartbeats 1000000 in
theorem c_drop (p : Nat) (bs : List Bool) (n : Nat) (w : World) (h : Rd w p bs) (hl : bs.length < 64) (hn : n ≤ bs.length) :
    Calls Tryd.prog 51 #[.pointer (some ⟨p, 0, none⟩), .int .u64 n] w (DropPost w p bs n) := by
  have h0 := h.c0
  have h1 := h.c1
  have hf := h.fz
  have hlt := h.lt
  go_enter Tryd.func51, Tryd.ntmps51
  go_wp2
  have e0 : ((num bs : Nat) : Int) / 2 ^ n = ((num (bs.drop n) : Nat) : Int) := by rw [num_drop bs n hn]; push_cast; rfl
  have e1 : ((bs.length : Nat) : Int) - (n : Int) = (((bs.drop n).length : Nat) : Int) := by rw [List.length_drop]; omega
  rw [e0, e1]
  refine bodyPost_end (results_none rfl _ _ _) rfl ?_
  exact ⟨rfl, ⟨heap_set (heap_set h.cells 0 _) 1 _⟩, ((Kp.refl _ _).setCell (.inl (by simp)) _).setCell (.inl (by simp)) _⟩
theorem pow_lt {n : Nat} (h : n ≤ 32) : 2 ^ n ≤ 4294967296 := by
  have : 2 ^ n ≤ 2 ^ 32 := Nat.pow_le_pow_right (by omega) h
  simpa using this
theorem num_lt64 {bs : List Bool} (h : bs.length ≤ 64) : num bs < 18446744073709551616 := by
  have h1 := num_lt bs
  have h2 : 2 ^ bs.length ≤ 2 ^ 64 := Nat.pow_le_pow_right (by omega) h
  have h3 : (2 : Nat) ^ 64 = 18446744073709551616 := by decide
  omega
theorem peek_num {bs : List Bool} {n : Nat} (hl : bs.length ≤ 64) (hn : n ≤ 32) (hle : n ≤ bs.length) :
    bits BinOp.and IntKind.u64 ((num bs : Nat) : Int) (IntKind.u64.wrap (IntKind.u64.wrap (2 ^ n) - 1)) % 4294967296 = ((num (bs.take n) : Nat) : Int) := by
  have h1 := pow_lt hn
  have h2 := Nat.two_pow_pos n
  have h3 : ((2 : Int) ^ n) = ((2 ^ n : Nat) : Int) := by push_cast; rfl
  have h5 : IntKind.u64.wrap ((2 ^ n : Nat) : Int) = ((2 ^ n : Nat) : Int) := IntWalk.u64_in _ (by omega)
  have h6 : IntKind.u64.wrap (((2 ^ n : Nat) : Int) - 1) = ((2 ^ n : Nat) : Int) - 1 := IntWalk.u64_in _ (by omega)
  rw [h3, h5, h6, show ((2 ^ n : Nat) : Int) - 1 = ((2 ^ n - 1 : Nat) : Int) by omega, bits_and_u64_nat _ _ (num_lt64 hl) (by omega), Nat.and_two_pow_sub_one_eq_mod, num_take _ _ hle]
  have h4 : num bs % 2 ^ n < 2 ^ n := Nat.mod_lt _ h2
  omega
def PeekPost (w : World) (bs : List Bool) (n : Nat) (e : Ending) (w' : World) : Prop := e = .returned (.tuple #[.int .u32 (if n ≤ bs.length then num (bs.take n) else 0), .bool (decide (n ≤ bs.length))]) ∧ w = w'
set_option maxHeartbeats 1000000 in
theorem c_peek (p : Nat) (bs : List Bool) (n : Nat) (w : World) (h : Rd w p bs) (hl : bs.length < 64) (hn : n ≤ 32) :
    Calls Tryd.prog 50 #[.pointer (some ⟨p, 0, none⟩), .int .i64 n] w (PeekPost w bs n) := by
  have h0 := h.c0
  have h1 := h.c1
  by_cases hle : n ≤ bs.length
  · have hle2 : (n : Int) ≤ (bs.length : Int) := by omega
    go_enter Tryd.func50, Tryd.ntmps50
    go_wp2
    go_step3
    go_wp2
    rw [peek_num (Nat.le_of_lt hl) hn hle, Exit.noGoto_ret]
    go_ret2
    exact ⟨by rw [if_pos hle, decT hle]; rfl, rfl⟩
  · have hle2 : ¬ (n : Int) ≤ (bs.length : Int) := by omega
    go_enter Tryd.func50, Tryd.ntmps50
    go_wp2
    refine wp_scope_fwd 0 rfl ?_
    go_wp2
    go_step3
    refine ⟨rfl, ?_⟩
    go_wp2
    rw [Exit.noGoto_ret]
    go_ret2
    exact ⟨by rw [if_neg hle, W.decF hle]; rfl, rfl⟩

def TakePost (w : World) (p : Nat) (bs : List Bool) (n : Nat) (e : Ending) (w' : World) : Prop :=
  e = .returned (.tuple #[.int .u32 (if n ≤ bs.length then num (bs.take n) else 0), .bool (decide (n ≤ bs.length))]) ∧ Rd w' p (if n ≤ bs.length then bs.drop n else bs) ∧ Kp [p] w w'
set_option maxHeartbeats 1000000 in
theorem c_take (p : Nat) (bs : List Bool) (n : Nat) (w : World) (h : Rd w p bs) (hl : bs.length < 64) (hn : n ≤ 32) :
    Calls Tryd.prog 40 #[.pointer (some ⟨p, 0, none⟩), .int .i64 n] w (TakePost w p bs n) := by
  have cP := c_peek p bs n w h hl hn
  unfold PeekPost at cP
  have H := Lib.hid h
  clear h
  by_cases hle : n ≤ bs.length
  · rw [if_pos hle, decT hle] at cP
    have cD := c_drop p bs n w H.out hl hle
    have CP := Lib.hid cP
    have CD := Lib.hid cD
    have HP := Lib.hid (show TakePost w p bs n = fun e w' => e = .returned (.tuple #[.int .u32 (num (bs.take n)), .bool true]) ∧ Rd w' p (bs.drop n) ∧ Kp [p] w w' by unfold TakePost; rw [if_pos hle, if_pos hle, decT hle])
    rw [HP.out]
    clear cP cD
    go_enter Tryd.func40, Tryd.ntmps40
    go_wp2_with (first
      | (go_at_call 50; go_must (refine CP.out.mono ?_); rintro e w2 ⟨rfl, rfl⟩)
      | (go_at_call 51; go_must (refine CD.out.mono ?_); rintro e w3 ⟨rfl, hr, hk⟩))
    go_ret2
    exact ⟨rfl, hr, hk⟩
  · rw [if_neg hle, W.decF hle] at cP
    have CP := Lib.hid cP
    have HP := Lib.hid (show TakePost w p bs n = fun e w' => e = .returned (.tuple #[.int .u32 0, .bool false]) ∧ Rd w' p bs ∧ Kp [p] w w' by unfold TakePost; rw [if_neg hle, if_neg hle, W.decF hle])
    rw [HP.out]
    clear cP
    go_enter Tryd.func40, Tryd.ntmps40
    go_wp2_with (first
      | (go_at_call 50; go_must (refine CP.out.mono ?_); rintro e w2 ⟨rfl, rfl⟩))
    go_ret2
    exact ⟨rfl, H.out, Kp.refl _ _⟩
def AlignPost (w : World) (p : Nat) (bs : List Bool) (e : Ending) (w' : World) : Prop := (∃ v, e = .returned v) ∧ Rd w' p (bs.drop (bs.length % 8)) ∧ Kp [p] w w'
set_option maxHeartbeats 1000000 in
theorem c_align (p : Nat) (bs : List Bool) (w : World) (h : Rd w p bs) (hl : bs.length < 64) :
    Calls Tryd.prog 41 #[.pointer (some ⟨p, 0, none⟩)] w (AlignPost w p bs) := by
  have h1 := h.c1
  have CD := Lib.hid (c_drop p bs (bs.length % 8) w h hl (Nat.mod_le _ _))
  have H := Lib.hid h
  clear h
  go_enter Tryd.func41, Tryd.ntmps41
  go_wp2_with (first
    | (go_at_call 51; go_must (refine CD.out.mono ?_); rintro e w3 ⟨rfl, hr, hk⟩))
  go_ret
  exact ⟨⟨_, rfl⟩, hr, hk⟩
def ClearPost (w : World) (p : Nat) (e : Ending) (w' : World) : Prop := e = .returned (.tuple #[]) ∧ Rd w' p [] ∧ Kp [p] w w'
set_option maxHeartbeats 1000000 in
theorem c_clear (p : Nat) (bs : List Bool) (w : World) (h : Rd w p bs) :
    Calls Tryd.prog 34 #[.pointer (some ⟨p, 0, none⟩)] w (ClearPost w p) := by
  have h0 := h.c0
  have h1 := h.c1
  have hf := h.fz
  have hlt := h.lt
  go_enter Tryd.func34, Tryd.ntmps34
  go_wp2
  refine bodyPost_end (results_none rfl _ _ _) rfl ?_
  exact ⟨rfl, ⟨heap_set (heap_set h.cells 0 _) 1 _⟩, ((Kp.refl _ _).setCell (.inl (by simp)) _).setCell (.inl (by simp)) _⟩
/-- A byte's bits, the lowest first. -/
def bitsOf : Nat → Nat → List Bool
  | 0, _ => []
  | n + 1, x => decide (x % 2 = 1) :: bitsOf n (x / 2)
theorem bitsOf_length : ∀ n x, (bitsOf n x).length = n := by
  intro n
  induction n with
  | zero => intro x; rfl
  | succ n ih => intro x; simp [bitsOf, ih]
theorem num_bitsOf : ∀ n x, x < 2 ^ n → num (bitsOf n x) = x := by
  intro n
  induction n with
  | zero => intro x h; simp at h; subst h; rfl
  | succ n ih =>
    intro x h
    rw [bitsOf, num, ih (x / 2) (by rw [Nat.pow_succ] at h; omega)]
    rcases Nat.mod_two_eq_zero_or_one x with h1 | h1 <;> simp [h1] <;> omega
/-- The bits of a byte. -/
def byteB (b : Int) : List Bool := bitsOf 8 b.toNat
theorem byteB_length (b : Int) : (byteB b).length = 8 := bitsOf_length _ _
theorem put_num {bs : List Bool} {b : Int} (hl : bs.length ≤ 56) (h0 : 0 ≤ b) (h1 : b < 256) :
    bits BinOp.or IntKind.u64 ((num bs : Nat) : Int) (IntKind.u64.wrap (b * 2 ^ bs.length)) = ((num (bs ++ byteB b) : Nat) : Int) := by
  obtain ⟨c, rfl⟩ : ∃ c : Nat, b = c := ⟨b.toNat, by omega⟩
  have hp := Nat.two_pow_pos bs.length
  have hp2 : 2 ^ bs.length ≤ 2 ^ 56 := Nat.pow_le_pow_right (by omega) hl
  have hp3 : (2 : Nat) ^ 56 = 72057594037927936 := by decide
  have hlt := num_lt bs
  have hm : c * 2 ^ bs.length ≤ 255 * 2 ^ bs.length := Nat.mul_le_mul_right _ (by omega)
  have e1 : ((c : Nat) : Int) * 2 ^ bs.length = ((c * 2 ^ bs.length : Nat) : Int) := by push_cast; rfl
  rw [e1, IntWalk.u64_in _ (by omega), bits_or_u64_nat _ _ (by omega) (by omega), num_append]
  unfold byteB
  rw [num_bitsOf 8 _ (by simp; omega), Int.toNat_natCast, Nat.or_comm, ← Nat.shiftLeft_eq, ← Nat.shiftLeft_add_eq_or_of_lt hlt, Nat.shiftLeft_eq, Nat.mul_comm]
  congr 1
  omega
def PutPost (w : World) (p : Nat) (bs : List Bool) (e : Ending) (w' : World) : Prop := (∃ v, e = .returned v) ∧ Rd w' p bs ∧ Kp [p] w w'
set_option maxHeartbeats 1000000 in
set_option maxRecDepth 100000 in
theorem c_put (p : Nat) (bs : List Bool) (b : Int) (w : World) (h : Rd w p bs) (hl : bs.length ≤ 56) (hb0 : 0 ≤ b) (hb1 : b < 256) :
    Calls Tryd.prog 75 #[.pointer (some ⟨p, 0, none⟩), .int .u8 b] w (PutPost w p (bs ++ byteB b)) := by
  have h0 := h.c0
  have h1 := h.c1
  have hf := h.fz
  have hlt := h.lt
  go_enter Tryd.func75, Tryd.ntmps75
  go_wp2
  go_still_tail 12, (by kernel_rfl)
  change wpList _ _ _ _ _ w.drew
  have hd0 : w.drew.cell? ⟨p, 0, none⟩ = some (.int .u64 (num bs)) := h0
  have hd1 : w.drew.cell? ⟨p, 1, none⟩ = some (.int .u64 bs.length) := h1
  have hdf : ∀ i, w.drew.frozen? ⟨p, i, none⟩ = false := hf
  have hdl : p < w.drew.heap.size := hlt
  have hdc : w.drew.heap[p]? = some (.cells #[.int .u64 (num bs), .int .u64 bs.length] 65 (0, 0)) := h.cells
  have hk : Kp [p] w w.drew := (Kp.refl _ _).drew
  generalize w.drew = w2 at *
  go_wp2
  have e1 : ((bs.length : Nat) : Int) + 8 = (((bs ++ byteB b).length : Nat) : Int) := by rw [List.length_append, byteB_length]; omega
  rw [put_num hl hb0 hb1, e1]
  go_ret
  exact ⟨⟨_, rfl⟩, ⟨heap_set (heap_set hdc 0 _) 1 _⟩, (hk.setCell (.inl (by simp)) _).setCell (.inl (by simp)) _⟩
def NewPost (w : World) (e : Ending) (w' : World) : Prop := e = .returned (.pointer (some ⟨w.heap.size, 0, none⟩)) ∧ Rd w' w.heap.size [] ∧ Kp [] w w'
set_option maxHeartbeats 1000000 in
theorem c_newR (w : World) : Calls Tryd.prog 30 #[] w (NewPost w) := by
  go_enter Tryd.func30, Tryd.ntmps30
  go_wp2
  go_ret
  exact ⟨rfl, ⟨heap_alloc_new _ _⟩, (Kp.refl _ _).alloc _⟩
end Go.Proofs.YtjjcemdoefigkaaDoor.Hf
