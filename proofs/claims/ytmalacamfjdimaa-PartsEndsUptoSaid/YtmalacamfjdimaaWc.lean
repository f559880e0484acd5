/- The program's delimited, walked. -/
import Derived.Test.YtmalacamfjdimaaWb
import Derived.Test.YtmalacamfjdimaaRm
namespace Go.Proofs.Ytmalacamfjdimaa.Pt
open Go.RowKit Go.Proofs.Ytmalacamfjdimaa.W

theorem pre_V : ∀ (a b : List Int), Bytes a → Bytes b → (V a).isPrefixOf (V b) = a.isPrefixOf b := by
  intro a
  induction a with
  | nil => intro b _ _; simp [V]
  | cons x a ih =>
    intro b ha hb
    cases b with
    | nil => simp [V]
    | cons y b =>
      have h1 := ih b (fun z hz => ha z (List.mem_cons_of_mem _ hz)) (fun z hz => hb z (List.mem_cons_of_mem _ hz))
      show ((UInt8.ofNat x.toNat == UInt8.ofNat y.toNat) && (V a).isPrefixOf (V b)) = ((x == y) && a.isPrefixOf b)
      rw [h1]
      congr 1
      rw [Bool.eq_iff_iff, beq_iff_eq, beq_iff_eq]
      exact byte_one (hb y (by simp)) (ha x (by simp))
theorem blk_V {l : List Int} (h : Bytes l) : blk8 (V l) = blk l := by
  induction l with
  | nil => rfl
  | cons x l ih =>
    have h1 := ih (fun z hz => h z (List.mem_cons_of_mem _ hz))
    have hx := h x (by simp)
    show ((UInt8.ofNat x.toNat == 9 || UInt8.ofNat x.toNat == 32) && blk8 (V l)) = ((x == 9 || x == 32) && blk l)
    rw [h1]
    congr 1
    rw [Bool.eq_iff_iff]
    simp only [Bool.or_eq_true, beq_iff_eq]
    have e9 := byte_one (x := 9) (v := x) (by omega) hx
    have e32 := byte_one (x := 32) (v := x) (by omega) hx
    exact or_congr e9 e32
theorem by_drop {l : List Int} (h : Bytes l) (k : Nat) : Bytes (l.drop k) := fun x hx => h x (List.mem_of_mem_drop hx)
theorem by_take {l : List Int} (h : Bytes l) (k : Nat) : Bytes (l.take k) := fun x hx => h x (List.mem_of_mem_take hx)
theorem V_drop (l : List Int) (k : Nat) : V (l.drop k) = (V l).drop k := by simp [V, List.map_drop]
/-- The program's test of a line. -/
def tst8 (W8 l8 : List UInt8) : Bool :=
  Lib.hasPrefix l8 W8 && (decide ((Lib.trimPrefix (Lib.trimPrefix l8 W8) [45, 45]).length ≤ 16) && blk8 (Lib.trimPrefix (Lib.trimPrefix l8 W8) [45, 45]))
theorem tst_V (W : ByteArray) {line : List Int} (h : Bytes line) : tst (strL W) line = tst8 W.data.toList (V line) := by
  have hp : Lib.hasPrefix (V line) W.data.toList = (strL W).isPrefixOf line := by
    unfold Lib.hasPrefix
    rw [← V_strL W]
    exact pre_V _ _ (strL_bytes W) h
  unfold tst tst8
  rw [hp]
  cases hq : (strL W).isPrefixOf line with
  | false => rfl
  | true =>
    rw [Bool.true_and, Bool.true_and]
    rw [hq] at hp
    have h1 : Lib.trimPrefix (V line) W.data.toList = V (line.drop (strL W).length) := by
      unfold Lib.trimPrefix
      rw [if_pos hp, V_drop, strL_length, ← data_len]
    have h2 : Lib.trimPrefix (V (line.drop (strL W).length)) [45, 45] = V (if ([45, 45] : List Int).isPrefixOf (line.drop (strL W).length) then (line.drop (strL W).length).drop 2 else line.drop (strL W).length) := by
      have h3 : Lib.hasPrefix (V (line.drop (strL W).length)) [45, 45] = ([45, 45] : List Int).isPrefixOf (line.drop (strL W).length) :=
        pre_V [45, 45] _ (by intro x hx; simp at hx; subst hx; omega) (by_drop h _)
      unfold Lib.trimPrefix
      rw [h3]
      split
      · rw [V_drop (line.drop (strL W).length) 2]; rfl
      · rfl
    rw [h1, h2]
    unfold tstD
    dsimp only
    split
    · rw [blk_V (by_drop (by_drop h _) 2)]; simp [V]
    · rw [blk_V (by_drop h _)]; simp [V]

/-- What is still to be looked at. -/
def Dk (W : List Int) (w : World) (g : Nat) (b : Bool) (s0 s5 : Value) : Prop :=
  (∃ A' c' q, s5 = .bool true ∧ s0 = .slice A' q.length c' ∧ q.length ≤ c' ∧ q.length < g ∧ q.length ≤ 1048576 ∧ (A' = none → c' = 0) ∧ Bytes q ∧ RB w A' q ∧ b = hasF W g q) ∨ (s5 = .bool false ∧ b = false)
def Dl (W : List Int) (w : World) (g : Nat) (b : Bool) (s0 s5 : Value) (wx : World) : Prop := Below w.heap.size w wx ∧ Dk W w g b s0 s5
def CutYes (w : World) (A : Option Addr) (n c : Nat) (l : List Int) (e : Ending) (w' : World) : Prop :=
  ∃ A' c' q, w' = w.drewN q ∧ e = .returned (.tuple #[.slice A (nl l) c, .slice A' (n - (nl l + 1)) c', .bool true]) ∧ (∀ wz, RB wz A l → RB wz A' (l.drop (nl l + 1))) ∧ n - (nl l + 1) ≤ c' ∧ (A' = none → c' = 0)
def CutNo (w : World) (A : Option Addr) (n c : Nat) (e : Ending) (w' : World) : Prop := ∃ q, w' = w.drewN q ∧ e = .returned (.tuple #[.slice A n c, .slice none 0 0, .bool false])
theorem cut_yes {w : World} {A : Option Addr} {n c : Nat} {l : List Int} (h : nl l < n) {e : Ending} {w' : World} (hc : CutPost w A n c l e w') : CutYes w A n c l e w' := by
  obtain ⟨⟨q, rfl⟩, ⟨_, A', c', h1⟩ | ⟨h1, _⟩⟩ := hc
  · exact ⟨A', c', q, rfl, h1⟩
  · exact absurd h h1
theorem cut_no {w : World} {A : Option Addr} {n c : Nat} {l : List Int} (h : ¬ nl l < n) {e : Ending} {w' : World} (hc : CutPost w A n c l e w') : CutNo w A n c e w' := by
  obtain ⟨⟨q, rfl⟩, ⟨h1, _⟩ | ⟨_, h1⟩⟩ := hc
  · exact absurd h1 h
  · exact ⟨q, rfl, h1⟩
def HasPost (b : Bool) (w : World) (e : Ending) (w' : World) : Prop := e = .returned (.bool b) ∧ Below w.heap.size w w'

/-- The test of a line, as it is walked. -/
theorem tst_parts (want : ByteArray) (line : List Int) (hb : Bytes line) : ∃ (M R R2 : ByteArray) (hp : Bool), strOfNums line = M ∧ (∀ wz, Calls Try.prog 44 #[.string M, .string want] wz fun e w' => e = .returned (.tuple #[.string R, .bool hp]) ∧ wz = w') ∧
    (∀ wz, Calls Try.prog 45 #[.string R, .string ⟨#[45, 45]⟩] wz fun e w' => e = .returned (.string R2) ∧ wz = w') ∧ tst (strL want) line = (hp && (decide (R2.size ≤ 16) && blk8 R2.data.toList)) := by
  refine ⟨_, ⟨(Lib.trimPrefix (strOfNums line).data.toList want.data.toList).toArray⟩, ⟨(Lib.trimPrefix (Lib.trimPrefix (strOfNums line).data.toList want.data.toList) [45, 45]).toArray⟩, Lib.hasPrefix (strOfNums line).data.toList want.data.toList, rfl, fun wz => ?_, fun wz => ?_, ?_⟩
  · exact (Try.strings_CutPrefix _ want wz).mono fun e w' ⟨h1, h2⟩ => ⟨h1, h2.symm⟩
  · exact (Try.strings_TrimPrefix ⟨(Lib.trimPrefix (strOfNums line).data.toList want.data.toList).toArray⟩ ⟨#[45, 45]⟩ wz).mono fun e w' ⟨h1, h2⟩ => ⟨h1, h2.symm⟩
  · rw [tst_V want hb]
    rfl
end Go.Proofs.Ytmalacamfjdimaa.Pt
