/- The reference's run against the machine; its bases. -/
import Derived.Test.YtdpnlmofkkdioaaDoorTc
namespace Go.Proofs.YtdpnlmofkkdioaaDoor.Hf
set_option linter.unusedVariables false
set_option linter.unusedSimpArgs false
open Go.RowKit Go.Proofs.YtdpnlmofkkdioaaDoor.W

/-- The run stands where the machine does. -/
structure Mc (S : Sr) (s : RS) (m : M) : Prop where
  path : Path (bits8 S.l) st0 ⟨m, s.out, s.ts, s.bit⟩
  ok : Ok m s.out
  why : s.why = 0
  en : s.en = false
  mw : m.why = 0
  small : s.out.length ≤ S.most
  tsl : s.ts.length = s.out.length
/-- It is stopped, or cut off, or asked for no more. -/
def En (S : Sr) (s : RS) : Prop := Res st0 (bits8 S.l) S.most s.out s.ts s.at_ s.why s.en ∧ s.why ≠ 0
section
variable {S : Sr} {s : RS} {m m' : M} {k : Nat} {x : Int}
theorem Mc.nxt (h : Mc S s m) (hf : m.fin = false) {r : Out} (hs : step m s.out ((bits8 S.l).drop s.bit) = some r) : Path (bits8 S.l) st0 ((⟨m, s.out, s.ts, s.bit⟩ : St).add r) := h.path.snoc (next_of ⟨h.mw, hf⟩ hs)
theorem Mc.next (h : Mc S s m) (hf : m.fin = false) (hs : step m s.out ((bits8 S.l).drop s.bit) = some (m', [], k)) (hw : m'.why = 0) : Mc S (s.on k) m' := by
  have h1 := h.nxt hf hs
  have h2 := h.ok.step h.mw hs
  have e1 : (⟨m, s.out, s.ts, s.bit⟩ : St).add (m', [], k) = ⟨m', s.out, s.ts, s.bit + k⟩ := by unfold St.add; simp
  rw [e1] at h1
  rw [List.append_nil] at h2
  exact ⟨h1, h2, h.why, h.en, hw, h.small, h.tsl⟩
theorem Mc.halt (h : Mc S s m) (hf : m.fin = false) (hs : step m s.out ((bits8 S.l).drop s.bit) = some (m', [], k)) (hw : m'.why ≠ 0) (hf' : m'.fin = false) : En S ((s.on k).stop m'.why) := by
  have h1 := h.nxt hf hs
  have e1 : (⟨m, s.out, s.ts, s.bit⟩ : St).add (m', [], k) = ⟨m', s.out, s.ts, s.bit + k⟩ := by unfold St.add; simp
  rw [e1] at h1
  refine ⟨?_, hw⟩
  have h2 := Res.dead (n := S.most) h1 (fun hl => hw hl.1) h.small
  rw [hf', ← h.en] at h2
  exact h2
theorem Mc.cut (h : Mc S s m) (hf : m.fin = false) (hs : step m s.out ((bits8 S.l).drop s.bit) = none) : En S (s.cut S) := by
  have h2 := Res.cut (n := S.most) h.path ⟨h.mw, hf⟩ (next_none.2 fun _ => hs) h.small
  rw [bits8_length, show 8 * S.l.length / 8 = S.l.length by omega] at h2
  refine ⟨?_, by show (1 : Nat) ≠ 0; decide⟩
  show Res st0 (bits8 S.l) S.most s.out s.ts S.l.length 1 s.en
  rw [h.en]
  exact h2
theorem Mc.give (h : Mc S s m) (hf : m.fin = false) (hs : step m s.out ((bits8 S.l).drop s.bit) = some (m', [x], k)) (hw : m'.why = 0) :
    (s.out.length < S.most ∧ Mc S ((s.on k).give S x) m' ∧ ((s.on k).give S x).bit = s.bit + k ∧ ((s.on k).give S x).out = s.out ++ [x]) ∨ (S.most ≤ s.out.length ∧ En S ((s.on k).give S x)) := by
  have h1 := h.nxt hf hs
  have h2 := h.ok.step h.mw hs
  have e1 : (⟨m, s.out, s.ts, s.bit⟩ : St).add (m', [x], k) = ⟨m', s.out ++ [x], s.ts ++ [(s.bit + k - 1) / 8], s.bit + k⟩ := by unfold St.add; simp
  unfold RS.give
  by_cases hm : S.most ≤ s.out.length
  · rw [if_pos (show S.most ≤ (s.on k).out.length from hm)]
    refine .inr ⟨hm, ?_, by show (62 : Nat) ≠ 0; decide⟩
    have h3 := Res.much (n := S.most) (x := x) h.path (next_of ⟨h.mw, hf⟩ hs) (by rw [e1]) (Nat.le_antisymm h.small hm)
    rw [e1] at h3
    show Res st0 (bits8 S.l) S.most s.out s.ts ((s.bit + k - 1) / 8) 62 s.en
    rw [h.en]
    exact h3
  · rw [if_neg (show ¬ S.most ≤ (s.on k).out.length from hm)]
    rw [e1] at h1
    have hl : (s.out ++ [x]).length = s.out.length + 1 := by rw [List.length_append]; rfl
    refine .inl ⟨by omega, ⟨h1, h2, h.why, h.en, hw, ?_, ?_⟩, rfl, rfl⟩
    · show (s.out ++ [x]).length ≤ S.most
      omega
    · show (s.ts ++ [(s.bit + k - 1) / 8]).length = (s.out ++ [x]).length
      rw [hl, List.length_append, h.tsl]
      rfl
end
theorem RS.on_zero (s : RS) : s.on 0 = s := rfl

theorem lL_next : ∀ i : _root_.Fin 27, lL.getD (i.val + 1) 0 = lL.getD i.val 0 + 2 ^ mL.getD i.val 0 := by decide +kernel
theorem mL_val : ∀ i : _root_.Fin 28, mL.getD i.val 0 = if 8 ≤ i.val then (i.val - 4) / 4 else 0 := by decide +kernel
theorem lB_next : ∀ i : _root_.Fin 29, lB.getD (i.val + 1) 0 = lB.getD i.val 0 + 2 ^ mB.getD i.val 0 := by decide +kernel
theorem mB_val : ∀ i : _root_.Fin 30, mB.getD i.val 0 = if 4 ≤ i.val then (i.val - 2) / 2 else 0 := by decide +kernel
theorem lL_le : ∀ i : _root_.Fin 29, lL.getD i.val 0 ≤ 258 ∧ mL.getD i.val 0 ≤ 5 := by decide +kernel
theorem lB_le : ∀ i : _root_.Fin 30, lB.getD i.val 0 ≤ 24577 ∧ mB.getD i.val 0 ≤ 13 := by decide +kernel
def BaseIs (w : World) (a b : Nat) (e : Ending) (w' : World) : Prop := e = .returned (.tuple #[.int .i64 (a : Nat), .int .i64 (b : Nat)]) ∧ w = w'
set_option maxHeartbeats 4000000 in
set_option maxRecDepth 100000 in
theorem r_lbase (w : World) (y : Nat) (hy : y ≤ 28) : Calls Tryd.prog 64 #[.int .i64 ((257 + y : Nat) : Int)] w (BaseIs w (lL.getD y 0) (mL.getD y 0)) := by
  obtain ⟨s, hs⟩ : ∃ s, 257 + y = s := ⟨_, rfl⟩
  rw [hs]
  by_cases h28 : y = 28
  · subst h28 hs
    go_enter Tryd.func64, Tryd.ntmps64
    go_wp2
    go_ret2
    exact ⟨rfl, rfl⟩
  have e0 : ((s : Int) == 285) = false := W.eqF (by omega)
  have HB := Lib.hid (show BaseIs w (lL.getD y 0) (mL.getD y 0) = BaseIs w (lL.getD (s - 257) 0) (mL.getD (s - 257) 0) by rw [show s - 257 = y by omega])
  rw [HB.out]
  go_enter Tryd.func64, Tryd.ntmps64
  go_wp2
  go_loopg [4, 5] y (fun g s4 s5 wx => ∃ i : Nat, i + g = y ∧ s5 = .int .i64 ((257 + i : Nat) : Int) ∧ s4 = .int .i64 (lL.getD i 0 : Nat) ∧ w = wx)
  case atStart => exact ⟨0, by omega, rfl, rfl, rfl⟩
  case round =>
    obtain ⟨i, hig, rfl, rfl, rfl⟩ := hrel
    obtain ⟨q1, q2⟩ := lL_le ⟨i, by omega⟩
    have q3 := mL_val ⟨i, by omega⟩
    dsimp only at q1 q2 q3
    obtain ⟨a, ha⟩ : ∃ a, lL.getD i 0 = a := ⟨_, rfl⟩
    obtain ⟨b, hb⟩ : ∃ b, mL.getD i 0 = b := ⟨_, rfl⟩
    obtain ⟨T, hT⟩ : ∃ T, 257 + i = T := ⟨_, rfl⟩
    rw [hT, ha]
    rw [ha] at q1
    rw [hb] at q2 q3
    cases gk with
    | zero =>
      have e1 : ((T : Int) == (s : Int)) = true := W.eqT (by omega)
      have HA := Lib.hid (show lL.getD (s - 257) 0 = a by rw [show s - 257 = i by omega]; exact ha)
      have HBb := Lib.hid (show mL.getD (s - 257) 0 = b by rw [show s - 257 = i by omega]; exact hb)
      have HF := Lib.hid (show BaseIs w (lL.getD (s - 257) 0) (mL.getD (s - 257) 0) = BaseIs w a b by rw [HA.out, HBb.out])
      by_cases h8 : 8 ≤ i
      · rw [if_pos h8] at q3
        have e2 : (265 : Int) ≤ (T : Int) := by omega
        have e3 : ((T : Int) - 261) / 4 = (b : Int) := by omega
        clear ha hb q3 HA HBb
        go_wp2
        go_ret2
        refine HF.out ▸ ?_
        exact ⟨by show Ending.returned (.tuple #[.int .i64 (a : Int), .int .i64 (((T : Int) - 261) / 4)]) = _; rw [e3], rfl⟩
      · rw [if_neg h8] at q3
        subst q3
        have e2 : ¬ (265 : Int) ≤ (T : Int) := by omega
        clear ha hb HA HBb
        go_wp2
        go_ret2
        refine HF.out ▸ ?_
        exact ⟨rfl, rfl⟩
    | succ g =>
      have e1 : ((T : Int) == (s : Int)) = false := W.eqF (by omega)
      have q4 := lL_next ⟨i, by omega⟩
      dsimp only at q4
      rw [ha, hb] at q4
      have HN := Lib.hid q4
      have hp : 2 ^ b ≤ 2 ^ 5 := Nat.pow_le_pow_right (by omega) q2
      have hp2 : (2 : Nat) ^ 5 = 32 := by decide
      clear ha hb q4
      by_cases h8 : 8 ≤ i
      · rw [if_pos h8] at q3
        have e2 : (265 : Int) ≤ (T : Int) := by omega
        have e3 : ((T : Int) - 261) / 4 = (b : Int) := by omega
        clear q3
        go_wp2
        obtain ⟨P, hP⟩ : ∃ P : Nat, 2 ^ b = P := ⟨_, rfl⟩
        rw [hP] at hp
        have e0 : ((2 : Int) ^ b) = (P : Int) := by rw [← hP]; push_cast; rfl
        have eK : wrap64 ((a : Int) + (P : Int)) = ((a + P : Nat) : Int) := by rw [IntWalk.wrap64_in _ (by omega)]; omega
        have eP : wrap64 (P : Int) = (P : Int) := IntWalk.wrap64_in _ (by omega)
        rw [e0, eP, eK]
        have HP := Lib.hid hP
        clear e0 eP eK hP
        go_roundg g
        case measure => omega
        case rel => exact ⟨i + 1, by omega, by go_num, by rw [HN.out, HP.out], rfl⟩
      · rw [if_neg h8] at q3
        subst q3
        have e2 : ¬ (265 : Int) ≤ (T : Int) := by omega
        go_wp2
        go_roundg g
        case measure => omega
        case rel => exact ⟨i + 1, by omega, by go_num, by rw [HN.out]; go_num, rfl⟩
set_option maxHeartbeats 4000000 in
set_option maxRecDepth 100000 in
theorem r_dbase (w : World) (y : Nat) (hy : y ≤ 29) : Calls Tryd.prog 65 #[.int .i64 (y : Nat)] w (BaseIs w (lB.getD y 0) (mB.getD y 0)) := by
  go_enter Tryd.func65, Tryd.ntmps65
  go_wp2
  go_loopg [4, 5] y (fun g s4 s5 wx => ∃ i : Nat, i + g = y ∧ s5 = .int .i64 (i : Nat) ∧ s4 = .int .i64 (lB.getD i 0 : Nat) ∧ w = wx)
  case atStart => exact ⟨0, by omega, rfl, rfl, rfl⟩
  case round =>
    obtain ⟨i, hig, rfl, rfl, rfl⟩ := hrel
    obtain ⟨q1, q2⟩ := lB_le ⟨i, by omega⟩
    have q3 := mB_val ⟨i, by omega⟩
    dsimp only at q1 q2 q3
    obtain ⟨a, ha⟩ : ∃ a, lB.getD i 0 = a := ⟨_, rfl⟩
    obtain ⟨b, hb⟩ : ∃ b, mB.getD i 0 = b := ⟨_, rfl⟩
    rw [ha]
    rw [ha] at q1
    rw [hb] at q2 q3
    cases gk with
    | zero =>
      obtain rfl : i = y := by omega
      have e1 : ((i : Int) == (i : Int)) = true := W.eqT rfl
      have HF := Lib.hid (show BaseIs w (lB.getD i 0) (mB.getD i 0) = BaseIs w a b by rw [ha, hb])
      by_cases h8 : 4 ≤ i
      · rw [if_pos h8] at q3
        have e2 : (4 : Int) ≤ (i : Int) := by omega
        have e3 : ((i : Int) - 2) / 2 = (b : Int) := by omega
        clear ha hb q3
        go_wp2
        go_ret2
        refine HF.out ▸ ?_
        exact ⟨by show Ending.returned (.tuple #[.int .i64 (a : Int), .int .i64 (((i : Int) - 2) / 2)]) = _; rw [e3], rfl⟩
      · rw [if_neg h8] at q3
        subst q3
        have e2 : ¬ (4 : Int) ≤ (i : Int) := by omega
        clear ha hb
        go_wp2
        go_ret2
        refine HF.out ▸ ?_
        exact ⟨rfl, rfl⟩
    | succ g =>
      have e1 : ((i : Int) == (y : Int)) = false := W.eqF (by omega)
      have q4 := lB_next ⟨i, by omega⟩
      dsimp only at q4
      rw [ha, hb] at q4
      have HN := Lib.hid q4
      have hp : 2 ^ b ≤ 2 ^ 13 := Nat.pow_le_pow_right (by omega) q2
      have hp2 : (2 : Nat) ^ 13 = 8192 := by decide
      clear ha hb q4
      by_cases h8 : 4 ≤ i
      · rw [if_pos h8] at q3
        have e2 : (4 : Int) ≤ (i : Int) := by omega
        have e3 : ((i : Int) - 2) / 2 = (b : Int) := by omega
        clear q3
        go_wp2
        obtain ⟨P, hP⟩ : ∃ P : Nat, 2 ^ b = P := ⟨_, rfl⟩
        rw [hP] at hp
        have e0 : ((2 : Int) ^ b) = (P : Int) := by rw [← hP]; push_cast; rfl
        have eK : wrap64 ((a : Int) + (P : Int)) = ((a + P : Nat) : Int) := by rw [IntWalk.wrap64_in _ (by omega)]; omega
        have eP : wrap64 (P : Int) = (P : Int) := IntWalk.wrap64_in _ (by omega)
        rw [e0, eP, eK]
        have HP := Lib.hid hP
        clear e0 eP eK hP
        go_roundg g
        case measure => omega
        case rel => exact ⟨i + 1, by omega, by go_num, by rw [HN.out, HP.out], rfl⟩
      · rw [if_neg h8] at q3
        subst q3
        have e2 : ¬ (4 : Int) ≤ (i : Int) := by omega
        go_wp2
        go_roundg g
        case measure => omega
        case rel => exact ⟨i + 1, by omega, by go_num, by rw [HN.out]; go_num, rfl⟩
end Go.Proofs.YtdpnlmofkkdioaaDoor.Hf
