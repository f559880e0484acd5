/- The reference's run: open, stop, cut, number. -/
import Derived.Test.YtdpnlmofkkdioaaDoorTa
import Derived.Test.YtdpnlmofkkdioaaDoorIz
import Derived.Deep.AppendLies
import Derived.Deep.RegionLaw
namespace Go.Proofs.YtdpnlmofkkdioaaDoor.Hf
set_option linter.unusedVariables false
set_option linter.unusedSimpArgs false
open Go.RowKit Go.Proofs.YtdpnlmofkkdioaaDoor.W

theorem own_same {w w' : World} {base : Nat} {e : TypeId} {size n : Nat} {v : Value} {xs : List Value} (h : w.ownsRow base e size v n xs) (hk : ∀ k, v.ownBlock = some k → w'.heap[k]? = w.heap[k]?) : w'.ownsRow base e size v n xs := by
  refine ⟨h.1, ?_⟩
  rcases h.2 with h2 | ⟨g, cap, cur, rfl, hb, hg, rest⟩
  · exact .inl h2
  · exact .inr ⟨g, cap, cur, rfl, hb, (hk g rfl).trans hg, rest⟩
theorem own_type {w : World} {base base' : Nat} {e e' : TypeId} {size size' n n' : Nat} {v v' : Value} {xs xs' : List Value} (h : w.ownsRow base e size v n xs) (h' : w.ownsRow base' e' size' v' n' xs') (hne : e ≠ e') {k : Nat} (hk : v.ownBlock = some k) : v'.ownBlock ≠ some k := by
  intro hk'
  rcases h.2 with ⟨rfl, _⟩ | ⟨g, cap, cur, rfl, _, hg, _⟩
  · simp [Value.ownBlock] at hk
  · rcases h'.2 with ⟨rfl, _⟩ | ⟨g', cap', cur', rfl, _, hg', _⟩
    · simp [Value.ownBlock] at hk'
    · simp only [Value.ownBlock, Option.some.injEq] at hk hk'
      subst hk hk'
      rw [hg] at hg'
      injection hg' with h1
      injection h1 with _ h2 _
      exact hne h2
theorem own_ne {w : World} {base : Nat} {e t : TypeId} {size n : Nat} {v : Value} {xs : List Value} {cs : Array Value} {xb k : Nat} (h : w.ownsRow base e size v n xs) (hx : w.heap[xb]? = some (.cells cs t (0, 0))) (hne : e ≠ t) (hk : v.ownBlock = some k) : k ≠ xb := by
  rcases h.2 with ⟨rfl, _⟩ | ⟨g, cap, cur, rfl, _, hg, _⟩
  · simp [Value.ownBlock] at hk
  · simp only [Value.ownBlock, Option.some.injEq] at hk
    subst hk
    rintro rfl
    rw [hg] at hx
    injection hx with h1
    injection h1 with _ h2 _
    exact hne h2
/-- What a run is over. -/
structure Sr where
  A : Option Addr
  c : Nat
  l : List Int
  most : Nat
/-- What a run knows. -/
structure RS where
  out : List Int
  ts : List Nat
  why : Nat
  at_ : Nat
  en : Bool
  bit : Nat
  full : Bool
def rnC (S : Sr) (s : RS) (Ao At : Option Addr) (co ct : Nat) : List Value :=
  [.slice S.A S.l.length S.c, .int .i64 (S.most : Nat), .slice Ao s.out.length co, .slice At s.ts.length ct, .int .i64 (s.why : Nat), .int .i64 (s.at_ : Nat), .bool s.en, .int .i64 (s.bit : Nat), .bool s.full]
theorem src_kept {w w' : World} {A : Option Addr} {l : List Int} {B : Nat} (h : RB w A l) (ho : l ≠ [] → ∀ a, A = some a → a.block < B) (hs : w.heap.size ≤ w'.heap.size) (hk : ∀ k, k < B → k < w.heap.size → w'.heap[k]? = w.heap[k]?) : RB w' A l := by
  by_cases hl : l = []
  · subst hl
    exact RV.nil _ _
  · exact RV.kept h hs fun a ha hlt => hk _ (ho hl a ha) hlt
structure Rn (w : World) (B rb : Nat) (S : Sr) (s : RS) : Prop where
  ex : ∃ Ao At co ct, w.heap[rb]? = some (.cells (rnC S s Ao At co ct).toArray 31 (0, 0)) ∧ w.ownsRow B 5 1 (.slice Ao s.out.length co) s.out.length (u8s s.out) ∧ w.ownsRow B 3 1 (.slice At s.ts.length ct) s.ts.length (ints s.ts)
  ge : B ≤ rb
  sz : B ≤ w.heap.size
  src : RB w S.A S.l
  old : S.l ≠ [] → ∀ a, S.A = some a → a.block < B
  len : S.l.length ≤ 140737488355328
  byt : Bytes S.l
  bitl : s.bit ≤ 8 * S.l.length
section
variable {w w' : World} {B rb : Nat} {S : Sr} {s s' : RS}
theorem Rn.lt (h : Rn w B rb S s) : rb < w.heap.size := by
  obtain ⟨_, _, _, _, h1, _⟩ := h.ex
  exact (Array.getElem?_eq_some_iff.1 h1).1
theorem Rn.fz (h : Rn w B rb S s) : ∀ i, w.frozen? ⟨rb, i, none⟩ = false := by
  obtain ⟨_, _, _, _, h1, _⟩ := h.ex
  exact fun i => frozen_of_row w rb i _ _ h1
theorem Rn.cell (h : Rn w B rb S s) : ∃ Ao At co ct, ∀ i v, (rnC S s Ao At co ct)[i]? = some v → w.cell? ⟨rb, i, none⟩ = some v := by
  obtain ⟨Ao, At, co, ct, h1, _⟩ := h.ex
  exact ⟨Ao, At, co, ct, fun i v hv => by rw [cell_of_row w rb i _ _ _ h1]; simpa using hv⟩
theorem Rn.c0 (h : Rn w B rb S s) : w.cell? ⟨rb, 0, none⟩ = some (.slice S.A S.l.length S.c) := by obtain ⟨_, _, _, _, h1⟩ := h.cell; exact h1 0 _ rfl
theorem Rn.c1 (h : Rn w B rb S s) : w.cell? ⟨rb, 1, none⟩ = some (.int .i64 (S.most : Nat)) := by obtain ⟨_, _, _, _, h1⟩ := h.cell; exact h1 1 _ rfl
theorem Rn.c4 (h : Rn w B rb S s) : w.cell? ⟨rb, 4, none⟩ = some (.int .i64 (s.why : Nat)) := by obtain ⟨_, _, _, _, h1⟩ := h.cell; exact h1 4 _ rfl
theorem Rn.c5 (h : Rn w B rb S s) : w.cell? ⟨rb, 5, none⟩ = some (.int .i64 (s.at_ : Nat)) := by obtain ⟨_, _, _, _, h1⟩ := h.cell; exact h1 5 _ rfl
theorem Rn.c6 (h : Rn w B rb S s) : w.cell? ⟨rb, 6, none⟩ = some (.bool s.en) := by obtain ⟨_, _, _, _, h1⟩ := h.cell; exact h1 6 _ rfl
theorem Rn.c7 (h : Rn w B rb S s) : w.cell? ⟨rb, 7, none⟩ = some (.int .i64 (s.bit : Nat)) := by obtain ⟨_, _, _, _, h1⟩ := h.cell; exact h1 7 _ rfl
theorem Rn.c8 (h : Rn w B rb S s) : w.cell? ⟨rb, 8, none⟩ = some (.bool s.full) := by obtain ⟨_, _, _, _, h1⟩ := h.cell; exact h1 8 _ rfl
theorem Rn.c2 (h : Rn w B rb S s) : ∃ Ao co, w.cell? ⟨rb, 2, none⟩ = some (.slice Ao s.out.length co) ∧ s.out.length ≤ co ∧ RB w Ao s.out := by
  obtain ⟨Ao, At, co, ct, h1, h2, _⟩ := h.ex
  refine ⟨Ao, co, cell_of_row w rb 2 _ _ _ h1, ?_, RV.own h2⟩
  obtain ⟨A', c', h3, h4⟩ := slice_form h2
  injection h3 with _ _ h5
  omega
/-- The run's own cells are set; nothing else is. -/
theorem Rn.turn (h : Rn w B rb S s) (hk : Kp [rb] w w') (h1 : s'.out = s.out) (h2 : s'.ts = s.ts) (hb : s'.bit ≤ 8 * S.l.length) (hc : ∀ Ao At co ct, w.heap[rb]? = some (.cells (rnC S s Ao At co ct).toArray 31 (0, 0)) → w'.heap[rb]? = some (.cells (rnC S s' Ao At co ct).toArray 31 (0, 0))) : Rn w' B rb S s' := by
  obtain ⟨Ao, At, co, ct, h3, h4, h5⟩ := h.ex
  refine ⟨⟨Ao, At, co, ct, hc _ _ _ _ h3, ?_, ?_⟩, h.ge, Nat.le_trans h.sz hk.size, ?_, h.old, h.len, h.byt, hb⟩
  · rw [h1]
    refine own_same h4 fun k hk2 => hk.block k (h4.lt k hk2).2 ?_
    simp
    exact fun e => own_ne h4 h3 (by decide) hk2 e
  · rw [h2]
    refine own_same h5 fun k hk2 => hk.block k (h5.lt k hk2).2 ?_
    simp
    exact fun e => own_ne h5 h3 (by decide) hk2 e
  · refine src_kept h.src h.old hk.size fun k h6 hlt => hk.block _ hlt ?_
    simp
    have := h.ge
    omega
theorem Rn.below (h : Rn w B rb S s) (hk : Kp [] w w') : Rn w' B rb S s := h.turn (hk.mono (by simp)) rfl rfl h.bitl fun _ _ _ _ h1 => (hk.block rb h.lt (by simp)).trans h1
theorem Rn.fr (h : Rn w B rb S s) (hk : Kp [rb] w w') : Fr B w w' := Fr.of_kp hk fun k hm => by
  obtain ⟨Ao, At, co, ct, h3, _⟩ := h.ex
  simp at hm
  subst hm
  exact .inr ⟨h.ge, _, _, h3, by decide, by decide, by decide⟩
theorem Rn.bel (h : Rn w B rb S s) (hk : Kp [rb] w w') : Below B w w' := hk.below h.sz (by simp; exact h.ge)
end
/-- The run's rows lie where they lay. -/
def Rw (rb : Nat) (w w' : World) : Prop := ∀ i, i = 2 ∨ i = 3 → w'.cell? ⟨rb, i, none⟩ = w.cell? ⟨rb, i, none⟩
theorem Rw.refl (rb : Nat) (w : World) : Rw rb w w := fun _ _ => rfl
theorem Rw.trans {rb : Nat} {a b c : World} (h : Rw rb a b) (k : Rw rb b c) : Rw rb a c := fun i hi => (k i hi).trans (h i hi)
theorem Rw.kp {rb : Nat} {w w' : World} (hk : Kp [] w w') (h : rb < w.heap.size) : Rw rb w w' := fun i _ => World.cell?_of_block (a := ⟨rb, i, none⟩) (hk.block rb h (by simp))
theorem Rw.set (w : World) (rb j : Nat) (v : Value) (h2 : j ≠ 2) (h3 : j ≠ 3) : Rw rb w (w.setCell ⟨rb, j, none⟩ v) := fun i hi => World.cell?_setCell_other w ⟨rb, j, none⟩ ⟨rb, i, none⟩ v (fun e => by
  injection e with _ e _
  rcases hi with rfl | rfl
  · exact h2 e
  · exact h3 e)
/-- What a call that gives nothing says. -/
def RP (w : World) (B rb : Nat) (S : Sr) (s' : RS) (v : Value) (e : Ending) (w' : World) : Prop := e = .returned v ∧ Rn w' B rb S s' ∧ Kp [rb] w w' ∧ Rw rb w w'
def RS.stop (s : RS) (why : Nat) : RS := { s with why := why, at_ := (s.bit - 1) / 8 }
def RS.cut (s : RS) (S : Sr) : RS := { s with why := 1, at_ := S.l.length }
def RS.on (s : RS) (k : Nat) : RS := { s with bit := s.bit + k }

set_option maxHeartbeats 1000000 in
theorem r_open (w : World) (B rb : Nat) (S : Sr) (s : RS) (h : Rn w B rb S s) (h1 : s.why = 0) (h2 : s.en = false) :
    Calls Tryd.prog 23 #[.pointer (some ⟨rb, 0, none⟩)] w fun e w' => e = .returned (.bool true) ∧ w = w' := by
  have c4 := h.c4
  have c6 := h.c6
  rw [h1] at c4
  rw [h2] at c6
  clear h h1 h2
  go_enter Tryd.func23, Tryd.ntmps23
  go_wp2
  go_ret
  exact ⟨rfl, rfl⟩
set_option maxHeartbeats 1000000 in
theorem r_shut (w : World) (B rb : Nat) (S : Sr) (s : RS) (h : Rn w B rb S s) (h1 : s.why ≠ 0) :
    Calls Tryd.prog 23 #[.pointer (some ⟨rb, 0, none⟩)] w fun e w' => e = .returned (.bool false) ∧ w = w' := by
  have c4 := h.c4
  have e1 : ((s.why : Int) == 0) = false := W.eqF (by omega)
  clear h h1
  generalize s.why = y at *
  go_enter Tryd.func23, Tryd.ntmps23
  go_wp2
  go_ret
  exact ⟨rfl, rfl⟩
set_option maxHeartbeats 1000000 in
theorem r_stop (w : World) (B rb : Nat) (S : Sr) (s : RS) (why : Nat) (h : Rn w B rb S s) (hb : 0 < s.bit) :
    Calls Tryd.prog 30 #[.pointer (some ⟨rb, 0, none⟩), .int .i64 (why : Nat)] w (RP w B rb S (s.stop why) (.tuple #[])) := by
  have c4 := h.c4
  have c5 := h.c5
  have c7 := h.c7
  have fz := h.fz
  have lt := h.lt
  have H := Lib.hid h
  obtain ⟨b, hb'⟩ : ∃ b, s.bit = b + 1 := ⟨s.bit - 1, by omega⟩
  have hl := h.len
  have hbl := h.bitl
  have HS := Lib.hid (show s.stop why = { s with why := why, at_ := b / 8 } by unfold RS.stop; rw [hb', Nat.add_sub_cancel])
  rw [hb'] at c7 hbl
  generalize s.why = y at *
  generalize s.at_ = z at *
  clear h hb'
  rw [HS.out]
  go_enter Tryd.func30, Tryd.ntmps30
  go_wp2
  refine bodyPost_end (results_none rfl _ _ _) rfl ?_
  have hk : Kp [rb] w ((w.setCell ⟨rb, 4, none⟩ (.int .i64 (why : Nat))).setCell ⟨rb, 5, none⟩ (.int .i64 ((b / 8 : Nat) : Int))) := ((Kp.refl _ _).setCell (.inl (by simp)) _).setCell (.inl (by simp)) _
  exact ⟨rfl, H.out.turn hk rfl rfl H.out.bitl fun Ao At co ct h3 => heap_set (heap_set h3 4 _) 5 _, hk, (Rw.set _ _ _ _ (by decide) (by decide)).trans (Rw.set _ _ _ _ (by decide) (by decide))⟩
set_option maxHeartbeats 1000000 in
theorem r_cut (w : World) (B rb : Nat) (S : Sr) (s : RS) (h : Rn w B rb S s) :
    Calls Tryd.prog 42 #[.pointer (some ⟨rb, 0, none⟩)] w (RP w B rb S (s.cut S) (.tuple #[])) := by
  have c0 := h.c0
  have c4 := h.c4
  have c5 := h.c5
  have fz := h.fz
  have lt := h.lt
  have H := Lib.hid h
  generalize s.why = y at *
  generalize s.at_ = z at *
  clear h
  go_enter Tryd.func42, Tryd.ntmps42
  go_wp2
  refine bodyPost_end (results_none rfl _ _ _) rfl ?_
  have hk : Kp [rb] w ((w.setCell ⟨rb, 4, none⟩ (.int .i64 1)).setCell ⟨rb, 5, none⟩ (.int .i64 (S.l.length : Nat))) := ((Kp.refl _ _).setCell (.inl (by simp)) _).setCell (.inl (by simp)) _
  exact ⟨rfl, H.out.turn hk rfl rfl H.out.bitl fun Ao At co ct h3 => heap_set (heap_set h3 4 _) 5 _, hk, (Rw.set _ _ _ _ (by decide) (by decide)).trans (Rw.set _ _ _ _ (by decide) (by decide))⟩

/-! ### a number -/
theorem num_snoc (a : List Bool) (b : Bool) : num (a ++ [b]) = num a + 2 ^ a.length * b.toNat := by rw [num_append]; cases b <;> rfl
theorem bit_tab : ∀ (c : _root_.Fin 256) (r : _root_.Fin 8), (bits BinOp.and IntKind.u8 (((c.val : Nat) : Int) / 2 ^ r.val) 1 == 1) = (bitsOf 8 c.val).getD r.val false := by decide +kernel
theorem bit_at {x : Int} (h0 : 0 ≤ x) (h1 : x < 256) {r : Nat} (hr : r < 8) : (bits BinOp.and IntKind.u8 (x / 2 ^ r) 1 == 1) = (byteB x).getD r false := by
  have h := bit_tab ⟨x.toNat, by omega⟩ ⟨r, hr⟩
  dsimp only at h
  rw [show ((x.toNat : Nat) : Int) = x by omega] at h
  exact h
theorem bits8_get {l : List Int} {k : Nat} {x : Int} (h : l[k / 8]? = some x) : (bits8 l)[k]? = some ((byteB x).getD (k % 8) false) := by
  have h1 := bits8_next h
  have h2 : ((bits8 l).take (8 * (k / 8 + 1)))[k]? = (bits8 l)[k]? := by rw [List.getElem?_take, if_pos (by omega)]
  have hl := (List.getElem?_eq_some_iff.1 h).1
  have hl2 : ((bits8 l).take (8 * (k / 8))).length = 8 * (k / 8) := by rw [List.length_take, bits8_length]; omega
  rw [← h2, h1, List.getElem?_append_right (by omega), hl2, show k - 8 * (k / 8) = k % 8 by omega, List.getD_eq_getElem?_getD]
  have h3 : k % 8 < (byteB x).length := by rw [byteB_length]; omega
  rw [List.getElem?_eq_getElem h3]
  rfl
def RS.num (s : RS) (S : Sr) (n : Nat) : RS := if s.bit + n ≤ 8 * S.l.length then s.on n else s.cut S
def numV (s : RS) (S : Sr) (n : Nat) : Nat := if s.bit + n ≤ 8 * S.l.length then Hf.num (((bits8 S.l).drop s.bit).take n) else 0
set_option maxHeartbeats 4000000 in
set_option maxRecDepth 100000 in
theorem r_number (w : World) (B rb : Nat) (S : Sr) (s : RS) (n : Nat) (h : Rn w B rb S s) (hn : n ≤ 16) :
    Calls Tryd.prog 24 #[.pointer (some ⟨rb, 0, none⟩), .int .i64 (n : Nat)] w (RP w B rb S (s.num S n) (.int .i64 (numV s S n : Nat))) := by
  have c0 := h.c0
  have c7 := h.c7
  have fz := h.fz
  have lt := h.lt
  have hl := h.len
  have hbl := h.bitl
  have H := Lib.hid h
  have HSRC := Lib.hid h.src
  have HBY := Lib.hid h.byt
  obtain ⟨b, hb⟩ : ∃ b, s.bit = b := ⟨_, rfl⟩
  obtain ⟨L, hL⟩ : ∃ L, S.l.length = L := ⟨_, rfl⟩
  have HNU := Lib.hid (show s.num S n = if b + n ≤ 8 * L then s.on n else s.cut S by unfold RS.num; rw [hb, hL])
  have HNV := Lib.hid (show numV s S n = if b + n ≤ 8 * L then Hf.num (((bits8 S.l).drop b).take n) else 0 by unfold numV; rw [hb, hL])
  rw [hb] at c7 hbl
  rw [hL] at c0 hl hbl
  have HBB := Lib.hid hb
  have HLL := Lib.hid hL
  obtain ⟨SA, hSA⟩ : ∃ A, S.A = A := ⟨_, rfl⟩
  rw [hSA] at c0
  have HSA := Lib.hid hSA
  clear hSA
  obtain ⟨E, hE⟩ : ∃ E, 8 * L = E := ⟨_, rfl⟩
  obtain ⟨T, hT⟩ : ∃ T, b + n = T := ⟨_, rfl⟩
  have eE : IntKind.i64.wrap (8 * (L : Int)) = (E : Int) := by rw [← hE, Int.natCast_mul]; exact IntWalk.i64_in _ (by omega)
  have eT : IntKind.i64.wrap ((b : Int) + (n : Int)) = (T : Int) := by rw [← hT, Int.natCast_add]; exact IntWalk.i64_in _ (by omega)
  rw [hT, hE] at HNU HNV
  clear h hb hL
  by_cases hle : T ≤ E
  · have d1 : decide ((E : Int) < (T : Int)) = false := W.decF (by omega)
    have d2 : decide (E < T) = false := W.decF (by omega)
    have HNU2 := Lib.hid (show s.num S n = s.on n by rw [HNU.out, if_pos hle])
    have HNV2 := Lib.hid (show numV s S n = Hf.num (((bits8 S.l).drop b).take n) by rw [HNV.out, if_pos hle])
    clear HNU HNV
    rw [HNU2.out, HNV2.out]
    go_enter Tryd.func24, Tryd.ntmps24
    go_upto_region 1 with (fail)
    go_quiet (fail)
    clear eE eT
    have hkq : Kp [] w (w.drewN nq) := (Kp.refl _ _).drewN _
    have HQ := Lib.hid (H.out.below hkq)
    have HK := Lib.hid (hkq.mono (T := [rb]) (by simp))
    have HKW := Lib.hid (Rw.kp hkq H.out.lt)
    have c7 := HQ.out.c7
    have c0 := HQ.out.c0
    rw [HBB.out] at c7
    rw [HLL.out, HSA.out] at c0
    have HSR := Lib.hid (show RB (w.drewN nq) SA S.l from by rw [← HSA.out]; exact HQ.out.src)
    have fz := HQ.out.fz
    have lt := HQ.out.lt
    generalize w.drewN nq = w1 at *
    go_wp2_with (fail)
    go_loopg [5, 6] n (fun g s5 s6 wx => ∃ i : Nat, i + g = n ∧ s6 = .int .i64 (i : Nat) ∧ s5 = .int .i64 (Hf.num (((bits8 S.l).drop b).take i) : Nat) ∧ w1 = wx)
    case atStart => exact ⟨0, by omega, rfl, rfl, rfl⟩
    case round =>
      obtain ⟨i, hig, rfl, rfl, rfl⟩ := hrel
      have HV := Lib.hid (show Hf.num (((bits8 S.l).drop b).take i) < 2 ^ i from Nat.lt_of_lt_of_le (num_lt _) (Nat.pow_le_pow_right (by omega) (by rw [List.length_take]; omega)))
      have hp : 2 ^ i ≤ 2 ^ 16 := Nat.pow_le_pow_right (by omega) (by omega)
      have hp2 : (2 : Nat) ^ 16 = 65536 := by decide
      cases gk with
      | zero =>
        obtain rfl : i = n := by omega
        have hk : ¬ (i : Int) < (i : Int) := by omega
        generalize Hf.num (((bits8 S.l).drop b).take i) = V at *
        go_wp2_with (fail)
        go_ret
        have hk9 : Kp [rb] w1 (w1.setCell ⟨rb, 7, none⟩ (.int .i64 ((b : Int) + (i : Int)))) := (Kp.refl _ _).setCell (.inl (by simp)) _
        refine ⟨rfl, HQ.out.turn hk9 rfl rfl (by show s.bit + i ≤ _; rw [HBB.out, HLL.out]; omega) fun Ao At co ct h3 => ?_, HK.out.trans hk9, HKW.out.trans (Rw.set _ _ _ _ (by decide) (by decide))⟩
        rw [heap_set h3 7 _]
        have e9 : (((s.on i).bit : Nat) : Int) = (b : Int) + (i : Int) := by show ((s.bit + i : Nat) : Int) = _; rw [HBB.out]; omega
        rw [← e9]
        rfl
      | succ g =>
        have hk : (i : Int) < (n : Int) := by omega
        obtain ⟨V, hV⟩ : ∃ V, Hf.num (((bits8 S.l).drop b).take i) = V := ⟨_, rfl⟩
        obtain ⟨K, hK⟩ : ∃ K, b + i = K := ⟨_, rfl⟩
        have hKL : K / 8 < L := by omega
        obtain ⟨x, hx⟩ : ∃ x, S.l[K / 8]? = some x := ⟨_, List.getElem?_eq_getElem (by rw [HLL.out]; exact hKL)⟩
        obtain ⟨x0, x1⟩ := HBY.out x (List.mem_of_getElem? hx)
        obtain ⟨b0, off, rfl, hb0, hc0⟩ := RB.get HSR.out hx
        have hsn := num_snoc (((bits8 S.l).drop b).take i) ((byteB x).getD (K % 8) false)
        have hbit := bits8_get hx
        have htk : ((bits8 S.l).drop b).take (i + 1) = ((bits8 S.l).drop b).take i ++ [(byteB x).getD (K % 8) false] := by
          have h1 : ((bits8 S.l).drop b)[i]? = some ((byteB x).getD (K % 8) false) := by rw [List.getElem?_drop, hK]; exact hbit
          obtain ⟨h2, h3⟩ := List.getElem?_eq_some_iff.1 h1
          rw [List.take_succ_eq_append_getElem h2, h3]
        have hlen : (((bits8 S.l).drop b).take i).length = i := by rw [List.length_take, List.length_drop, bits8_length, HLL.out]; omega
        rw [← htk, hlen, hV] at hsn
        rw [hV] at HV ⊢
        have HS := Lib.hid hsn
        have HX := Lib.hid hx
        have hbt := bit_at x0 x1 (r := K % 8) (by omega)
        have hVlt := HV.out
        generalize (byteB x).getD (K % 8) false = bb at *
        clear hbit htk hlen hsn hx hV
        cases bb with
        | false =>
          go_wp2_with (fail)
          go_roundg g
          case measure => omega
          case rel => exact ⟨i + 1, by omega, by go_num, by rw [HS.out]; simp, rfl⟩
        | true =>
          go_wp2_with (fail)
          obtain ⟨P, hP⟩ : ∃ P : Nat, 2 ^ i = P := ⟨_, rfl⟩
          rw [hP] at hp hVlt
          have e0 : ((2 : Int) ^ i) = (P : Int) := by rw [← hP]; push_cast; rfl
          have eK : wrap64 ((V : Int) + (P : Int)) = ((V + P : Nat) : Int) := by rw [IntWalk.wrap64_in _ (by omega)]; omega
          have eP : wrap64 (P : Int) = (P : Int) := IntWalk.wrap64_in _ (by omega)
          rw [e0, eP, eK]
          have HP := Lib.hid hP
          clear e0 eP eK hP
          go_roundg g
          case measure => omega
          case rel => exact ⟨i + 1, by omega, by go_num, by rw [HS.out, HP.out]; simp, rfl⟩
  · have d1 : decide ((E : Int) < (T : Int)) = true := W.decT (by omega)
    have d2 : decide (E < T) = true := W.decT (by omega)
    have HNU2 := Lib.hid (show s.num S n = s.cut S by rw [HNU.out, if_neg hle])
    have HNV2 := Lib.hid (show numV s S n = 0 by rw [HNV.out, if_neg hle])
    clear HNU HNV
    rw [HNU2.out, HNV2.out]
    go_enter Tryd.func24, Tryd.ntmps24
    go_upto_region 1 with (fail)
    go_quiet (fail)
    clear eE eT
    have hkq : Kp [] w (w.drewN nq) := (Kp.refl _ _).drewN _
    have CC := Lib.hid (r_cut _ B rb S s (H.out.below hkq))
    have HK := Lib.hid (hkq.mono (T := [rb]) (by simp))
    go_wp2_with (first
      | (go_at_call 42; go_must (refine CC.out.mono ?_); rintro e w2 ⟨rfl, hr2, hk2, hw2⟩))
    go_ret
    exact ⟨rfl, hr2, HK.out.trans hk2, (Rw.kp hkq H.out.lt).trans hw2⟩
end Go.Proofs.YtdpnlmofkkdioaaDoor.Hf
/- The reference's run: give. -/
namespace Go.Proofs.YtdpnlmofkkdioaaDoor.Hf
set_option linter.unusedVariables false
set_option linter.unusedSimpArgs false
open Go.RowKit Go.Proofs.YtdpnlmofkkdioaaDoor.W

theorem el8b : El Tryd.prog 22 5 (.int .u8 0) 1 := ⟨Tryd.underlying22, by kernel_rfl, rfl⟩
theorem own_cells {w : World} {base : Nat} {e : TypeId} {size n : Nat} {v : Value} {xs : List Value} (h : w.ownsRow base e size v n xs) {k : Nat} (hk : v.ownBlock = some k) : base ≤ k ∧ ∃ cs, w.heap[k]? = some (.cells cs e (0, 0)) := by
  rcases h.2 with ⟨rfl, _⟩ | ⟨g, cap, cur, rfl, hb, hg, _⟩
  · simp [Value.ownBlock] at hk
  · simp only [Value.ownBlock, Option.some.injEq] at hk
    subst hk
    exact ⟨hb, cur, hg⟩
theorem grow_keep {w w3 : World} {rb B n : Nat} {e t : TypeId} {v : Value} {xs : List Value} {cs : Array Value} {o : Obj} (hc : w.heap[rb]? = some (.cells cs t (0, 0))) (ho : w.ownsRow B e 1 v n xs) (hne : e ≠ t) (grow : (w.alloc o).grownBy w3 v.ownBlock) :
    w3.heap[rb]? = some (.cells cs t (0, 0)) ∧ (∀ i, w3.cell? ⟨rb, i, none⟩ = cs[i]?) ∧ ∀ i, w3.frozen? ⟨rb, i, none⟩ = false := by
  have hlt : rb < w.heap.size := (Array.getElem?_eq_some_iff.1 hc).1
  have h : w3.heap[rb]? = some (.cells cs t (0, 0)) := by
    refine (grow.block rb (by simp; omega) (fun e => own_ne ho hc hne e.symm rfl)).trans ?_
    exact (Below.heap_alloc w o rb hlt).trans hc
  exact ⟨h, fun i => cell_of_row w3 rb i _ _ _ h, fun i => frozen_of_row w3 rb i _ _ h⟩
theorem news_block (w : World) (cs : Array Value) (t : TypeId) : ∀ j u, cs.toList[j]? = some u → (w.alloc (.cells cs t)).cell? ((⟨w.heap.size, 0, none⟩ : Addr).add j) = some u := by
  intro j u hu
  obtain ⟨b, off, hA, _, hc⟩ := RV.new (w := w) cs t j u hu
  injection hA with hA
  injection hA with h1 h2
  subst h1 h2
  have : (⟨w.heap.size, 0, none⟩ : Addr).add j = ⟨w.heap.size, 0 + j, none⟩ := by unfold Addr.add; split <;> simp_all
  rw [this]; exact hc
theorem news_block' {w : World} {H : Nat} (hH : w.heap.size = H) (cs : Array Value) (t : TypeId) : ∀ j u, cs.toList[j]? = some u → (w.alloc (.cells cs t)).cell? ((⟨H, 0, none⟩ : Addr).add j) = some u := by subst hH; exact news_block w cs t
/-- The blocks of a run. -/
def rnS (rb : Nat) (Ao At : Option Addr) (n m co ct : Nat) : List Nat := (Value.slice Ao n co).ownBlock.toList ++ (Value.slice At m ct).ownBlock.toList ++ [rb]
theorem Rn.gave {w w' : World} {B rb : Nat} {S : Sr} {s s' : RS} {Ao At Ao' At' : Option Addr} {co ct co' ct' : Nat} (h : Rn w B rb S s) (h1 : w.heap[rb]? = some (.cells (rnC S s Ao At co ct).toArray 31 (0, 0)))
    (h2 : w.ownsRow B 5 1 (.slice Ao s.out.length co) s.out.length (u8s s.out)) (h3 : w.ownsRow B 3 1 (.slice At s.ts.length ct) s.ts.length (ints s.ts)) (hk : Kp (rnS rb Ao At s.out.length s.ts.length co ct) w w')
    (h1' : w'.heap[rb]? = some (.cells (rnC S s' Ao' At' co' ct').toArray 31 (0, 0))) (h2' : w'.ownsRow B 5 1 (.slice Ao' s'.out.length co') s'.out.length (u8s s'.out)) (h3' : w'.ownsRow B 3 1 (.slice At' s'.ts.length ct') s'.ts.length (ints s'.ts)) (hb : s'.bit ≤ 8 * S.l.length) :
    Rn w' B rb S s' ∧ Fr B w w' := by
  have hS : ∀ k ∈ rnS rb Ao At s.out.length s.ts.length co ct, B ≤ k ∧ ∃ cs t, w.heap[k]? = some (.cells cs t (0, 0)) ∧ t ≠ 86 ∧ t ≠ 87 ∧ t ≠ 4 := fun k hm => by
    unfold rnS at hm
    rcases List.mem_append.1 hm with hm | hm
    · rcases List.mem_append.1 hm with hm | hm
      · obtain ⟨h4, cs, h5⟩ := own_cells h2 (by simpa using hm)
        exact ⟨h4, cs, _, h5, by decide, by decide, by decide⟩
      · obtain ⟨h4, cs, h5⟩ := own_cells h3 (by simpa using hm)
        exact ⟨h4, cs, _, h5, by decide, by decide, by decide⟩
    · simp at hm
      subst hm
      exact ⟨h.ge, _, _, h1, by decide, by decide, by decide⟩
  refine ⟨⟨⟨_, _, _, _, h1', h2', h3'⟩, h.ge, Nat.le_trans h.sz hk.size, ?_, h.old, h.len, h.byt, hb⟩, Fr.of_kp hk fun k hm => .inr (hS k hm)⟩
  refine src_kept h.src h.old hk.size fun k h6 hlt => hk.block _ hlt fun hm => ?_
  have := (hS _ hm).1
  omega
def RS.give (s : RS) (S : Sr) (x : Int) : RS := if S.most ≤ s.out.length then { s with full := true }.stop 62 else { s with out := s.out ++ [x], ts := s.ts ++ [(s.bit - 1) / 8] }
/-- What a call that may give says. -/
def GP (w : World) (B rb : Nat) (S : Sr) (s' : RS) (v : Value) (e : Ending) (w' : World) : Prop := e = .returned v ∧ Rn w' B rb S s' ∧ Fr B w w'
theorem give_end {w w4 w5 : World} {B rb n b g5 cap5 : Nat} {S : Sr} {s : RS} {x : Int} {Ao At : Option Addr} {co ct : Nat} (hR : Rn w4 B rb S { s with out := s.out ++ [x] }) (hF : Fr B w w4) (hn : s.out.length = n) (ht : s.ts.length = n) (hb : s.bit = b + 1)
    (h1 : w4.heap[rb]? = some (.cells (rnC S { s with out := s.out ++ [x] } Ao At co ct).toArray 31 (0, 0))) (h2 : w4.ownsRow B 5 1 (.slice Ao (s.out ++ [x]).length co) (s.out ++ [x]).length (u8s (s.out ++ [x]))) (h3 : w4.ownsRow B 3 1 (.slice At n ct) n (ints s.ts))
    (hbl : b + 1 ≤ 8 * S.l.length) (hll : S.l.length ≤ 140737488355328) (hown : w5.ownsRow B 3 1 (.slice (some ⟨g5, 0, none⟩) (n + 1) cap5) (n + 1) (ints s.ts ++ [Value.int .i64 (IntKind.i64.wrap ((IntKind.i64.wrap (b : Int)).tdiv 8))]))
    {o : Obj} (hgr : ((w4.drew).alloc o).grownBy w5 (Value.slice At n ct).ownBlock) (hg1 : w5.heap[rb]? = some (.cells (rnC S { s with out := s.out ++ [x] } Ao At co ct).toArray 31 (0, 0))) :
    GP w B rb S { s with out := s.out ++ [x], ts := s.ts ++ [(s.bit - 1) / 8] } (.tuple #[]) (.returned (.tuple #[])) (w5.setCell ⟨rb, 3, none⟩ (.slice (some ⟨g5, 0, none⟩) (n + 1) cap5)) := by
  have eV : IntKind.i64.wrap ((IntKind.i64.wrap (b : Int)).tdiv 8) = ((b / 8 : Nat) : Int) := by
    rw [IntWalk.i64_in (b : Int) (by omega), Int.tdiv_eq_ediv_of_nonneg (by omega), IntWalk.i64_in _ (by omega)]
    omega
  have ho : (s.out ++ [x]).length = n + 1 := by rw [List.length_append, hn]; rfl
  have hl1 : (s.ts ++ [(s.bit - 1) / 8]).length = n + 1 := by rw [List.length_append, ht]; rfl
  have hxs : ints (s.ts ++ [(s.bit - 1) / 8]) = ints s.ts ++ [Value.int .i64 ((b / 8 : Nat) : Int)] := by rw [hb, Nat.add_sub_cancel]; simp [ints]
  rw [eV] at hown
  have hk : Kp (rnS rb Ao At (s.out ++ [x]).length s.ts.length co ct) w4 (w5.setCell ⟨rb, 3, none⟩ (.slice (some ⟨g5, 0, none⟩) (n + 1) cap5)) := by
    refine ((((Kp.refl _ w4).drew).alloc o).grown hgr (fun k hk => .inl ?_)).setCell (.inl (by simp [rnS])) _
    unfold rnS
    rw [ht]
    exact List.mem_append_left _ (List.mem_append_right _ (by simpa using hk))
  have hG := hR.gave (s' := { s with out := s.out ++ [x], ts := s.ts ++ [(s.bit - 1) / 8] }) (Ao' := Ao) (co' := co) (At' := some ⟨g5, 0, none⟩) (ct' := cap5) h1 h2 (by show w4.ownsRow B 3 1 (.slice At s.ts.length ct) s.ts.length (ints s.ts); rw [ht]; exact h3) hk
    (by
      rw [heap_set hg1 3 _]
      have e9 : rnC S { s with out := s.out ++ [x], ts := s.ts ++ [(s.bit - 1) / 8] } Ao (some ⟨g5, 0, none⟩) co cap5 = (rnC S { s with out := s.out ++ [x] } Ao At co ct).set 3 (.slice (some ⟨g5, 0, none⟩) (n + 1) cap5) := by unfold rnC; dsimp only; rw [hl1]; rfl
      rw [e9]
      simp)
    (by
      have h9 : w5.ownsRow B 5 1 (.slice Ao (s.out ++ [x]).length co) (s.out ++ [x]).length (u8s (s.out ++ [x])) := own_same h2 fun k hk => by
        have hk2 := (h2.lt k hk).2
        refine (hgr.block k (by simp; omega) (fun e => ?_)).trans ((Below.heap_alloc _ _ k hk2).trans rfl)
        exact own_type h2 h3 (by decide) hk e.symm
      exact own_same h9 fun k hk => heap_setCell_other w5 ⟨rb, 3, none⟩ k _ (own_ne h9 hg1 (by decide) hk))
    (by
      show (w5.setCell ⟨rb, 3, none⟩ (.slice (some ⟨g5, 0, none⟩) (n + 1) cap5)).ownsRow B 3 1 (.slice (some ⟨g5, 0, none⟩) (s.ts ++ [(s.bit - 1) / 8]).length cap5) (s.ts ++ [(s.bit - 1) / 8]).length (ints (s.ts ++ [(s.bit - 1) / 8]))
      rw [hl1, hxs]
      exact own_same hown fun k hk => heap_setCell_other w5 ⟨rb, 3, none⟩ k _ (own_ne hown hg1 (by decide) hk))
    hR.bitl
  exact ⟨rfl, hG.1, hF.trans hG.2⟩
set_option maxHeartbeats 4000000 in
set_option maxRecDepth 100000 in
theorem r_give (w : World) (B rb : Nat) (S : Sr) (s : RS) (x : Int) (h : Rn w B rb S s) (hb : 0 < s.bit) (hm : S.most ≤ 1048576) (ht : s.ts.length = s.out.length) (hx : s.out.length ≤ S.most) :
    Calls Tryd.prog 43 #[.pointer (some ⟨rb, 0, none⟩), .int .u8 x] w (GP w B rb S (s.give S x) (.tuple #[])) := by
  have H := Lib.hid h
  obtain ⟨Ao, At, co, ct, h1, h2, h3⟩ := h.ex
  have hcx := fun i => cell_of_row w rb i _ _ _ h1
  have c1 := h.c1
  have c8 := h.c8
  have c2 : w.cell? ⟨rb, 2, none⟩ = some (.slice Ao s.out.length co) := hcx 2
  have c3 : w.cell? ⟨rb, 3, none⟩ = some (.slice At s.ts.length ct) := hcx 3
  have c7 := h.c7
  have fz := h.fz
  have lt := h.lt
  clear hcx
  obtain ⟨n, hn⟩ : ∃ n, s.out.length = n := ⟨_, rfl⟩
  obtain ⟨M, hM⟩ : ∃ M, S.most = M := ⟨_, rfl⟩
  have HG := Lib.hid (show s.give S x = if M ≤ n then { s with full := true }.stop 62 else { s with out := s.out ++ [x], ts := s.ts ++ [(s.bit - 1) / 8] } by unfold RS.give; rw [hn, hM])
  rw [hM] at c1 hm hx
  rw [hn] at c2 ht hx
  rw [ht] at c3
  have HN := Lib.hid hn
  have HT := Lib.hid ht
  clear h hn hM ht
  by_cases hle : M ≤ n
  · have d1 : decide ((M : Int) ≤ (n : Int)) = true := W.decT (by omega)
    have d2 : decide (M ≤ n) = true := W.decT hle
    have HG2 := Lib.hid (show s.give S x = { s with full := true }.stop 62 by rw [HG.out, if_pos hle])
    rw [HG2.out]
    clear HG h1 h2 h3
    go_enter Tryd.func43, Tryd.ntmps43
    go_upto_region 0 with (fail)
    go_quiet (fail)
    have hkq : Kp [rb] w (w.drewN nq) := (Kp.refl _ _).drewN _
    have hk2 : Kp [rb] w ((w.drewN nq).setCell ⟨rb, 8, none⟩ (.bool true)) := hkq.setCell (.inl (by simp)) _
    have HR := Lib.hid (H.out.turn (s' := { s with full := true }) hk2 rfl rfl H.out.bitl fun Ao At co ct h3 => heap_set (w := w.drewN nq) h3 8 _)
    have CS := Lib.hid (r_stop _ B rb S _ 62 HR.out hb)
    have HK := Lib.hid hk2
    go_wp2_with (first
      | (go_at_call 30; go_must (refine CS.out.mono ?_); rintro e w2 ⟨rfl, hr2, hk2, -⟩))
    refine bodyPost_ret (results_none rfl _ _ _) rfl ?_
    exact ⟨rfl, hr2, H.out.fr (HK.out.trans hk2)⟩
  · have d1 : decide ((M : Int) ≤ (n : Int)) = false := W.decF (by omega)
    have d2 : decide (M ≤ n) = false := W.decF hle
    have HG2 := Lib.hid (show s.give S x = { s with out := s.out ++ [x], ts := s.ts ++ [(s.bit - 1) / 8] } by rw [HG.out, if_neg hle])
    rw [HG2.out]
    clear HG
    go_enter Tryd.func43, Tryd.ntmps43
    go_upto_region 0 with (fail)
    go_quiet (fail)
    have hkq : Kp [] w (w.drewN nq) := (Kp.refl _ _).drewN _
    have HK0 := Lib.hid hkq
    have HRq := Lib.hid (H.out.below hkq)
    have HO := Lib.hid (show ((w.drewN nq).alloc (.cells #[.int .u8 x] 5)).ownsRow B 5 1 (.slice Ao n co) n (u8s s.out) by rw [← HN.out]; exact (own_same h2 (fun k _ => rfl)).alloc _)
    have HO2 := Lib.hid (show (w.drewN nq).ownsRow B 5 1 (.slice Ao n co) n (u8s s.out) by rw [← HN.out]; exact own_same h2 (fun k _ => rfl))
    have H1 := Lib.hid (show (w.drewN nq).heap[rb]? = some (.cells (rnC S s Ao At co ct).toArray 31 (0, 0)) from h1)
    have HNW := Lib.hid (RV.new (w := w.drewN nq) #[Value.int .u8 x] 5)
    have hB := H.out.sz
    have HON := Lib.hid (show ∀ u ∈ [Value.int .u8 x], u.oneCell' = true from by intro u hu; rw [List.mem_singleton.1 hu]; rfl)
    have tk1 : True := trivial
    go_upto_region 4 with (first
      | (at_builtin; have _t := tk1; go_must (refine wpList_ap el8b rfl (.tmp 23) (.tmp 25) rfl rfl HO.out rfl (m := 1) (news := [Value.int .u8 x]) rfl HNW.out HON.out (by unfold maxLen; omega) (by omega) (by simp; omega) ?_); intro A3 c3' w3 hown hgrow hob hcap; have hgrow2 : ((w.drewN nq).alloc (.cells #[.int .u8 x] 5)).grownBy w3 (Value.slice Ao n co).ownBlock := hgrow; have hgk := grow_keep H1.out HO2.out (by decide) hgrow2; obtain ⟨g1, g2, g3⟩ := hgk; have z2 : w3.cell? ⟨rb, 2, none⟩ = some (.slice Ao n co) := by rw [g2 2, ← HN.out]; rfl
         have HG1 := Lib.hid g1; have HOW := Lib.hid hown; have HGR := Lib.hid hgrow2; clear tk1 _t g1 g2 hgrow hgrow2 hown hob))
    have hkA : Kp (rnS rb Ao At n n co ct) w (w3.setCell ⟨rb, 2, none⟩ (.slice A3 (n + 1) c3')) := by
      refine ((((HK0.out.mono (by simp)).alloc _).grown HGR.out (fun k hk => .inl ?_))).setCell (.inl (by simp [rnS])) _
      unfold rnS
      exact List.mem_append_left _ (List.mem_append_left _ (by simpa using hk))
    have hl1 : (s.out ++ [x]).length = n + 1 := by rw [List.length_append, HN.out]; rfl
    have hA := H.out.gave (s' := { s with out := s.out ++ [x] }) h1 h2 h3 (by rw [HN.out, HT.out]; exact hkA) (Ao' := A3) (co' := c3') (At' := At) (ct' := ct)
      (by
        rw [heap_set HG1.out 2 _]
        have e9 : rnC S { s with out := s.out ++ [x] } A3 At c3' ct = (rnC S s Ao At co ct).set 2 (.slice A3 (n + 1) c3') := by unfold rnC; dsimp only; rw [hl1]; rfl
        rw [e9]
        simp)
      (by
        show (w3.setCell ⟨rb, 2, none⟩ (.slice A3 (n + 1) c3')).ownsRow B 5 1 (.slice A3 (s.out ++ [x]).length c3') (s.out ++ [x]).length (u8s (s.out ++ [x]))
        rw [hl1, u8s_append]
        exact own_same HOW.out fun k hk => heap_setCell_other w3 ⟨rb, 2, none⟩ k _ (own_ne HOW.out HG1.out (by decide) hk))
      (by
        show (w3.setCell ⟨rb, 2, none⟩ (.slice A3 (n + 1) c3')).ownsRow B 3 1 (.slice At s.ts.length ct) s.ts.length (ints s.ts)
        have h9 : w3.ownsRow B 3 1 (.slice At s.ts.length ct) s.ts.length (ints s.ts) := own_same h3 fun k hk => by
          have hk2 := (h3.lt k hk).2
          refine (HGR.out.block k (by simp; omega) (fun e => ?_)).trans ((Below.heap_alloc _ _ k hk2).trans rfl)
          exact own_type h3 h2 (by decide) hk (by rw [HN.out]; exact e.symm)
        exact own_same h9 fun k hk => heap_setCell_other w3 ⟨rb, 2, none⟩ k _ (own_ne h9 HG1.out (by decide) hk))
      H.out.bitl
    obtain ⟨hRA, hFA⟩ := hA
    have HRA := Lib.hid hRA
    have HFA := Lib.hid hFA
    clear hRA hFA hkA z2 HG1 HOW HGR HK0 HRq HO HO2 H1 HNW
    generalize w3.setCell ⟨rb, 2, none⟩ (.slice A3 (n + 1) c3') = w4 at *
    clear h1 h2 h3 c1 c2 c3 c7 c8 fz lt
    obtain ⟨Ao, At, co, ct, h1, h2, h3⟩ := HRA.out.ex
    obtain ⟨b, hb'⟩ : ∃ b, s.bit = b + 1 := ⟨s.bit - 1, by omega⟩
    have hbl : b + 1 ≤ 8 * S.l.length := by rw [← hb']; exact H.out.bitl
    have hll := H.out.len
    have hw4 := HRA.out.sz
    have c3 : w4.cell? ⟨rb, 3, none⟩ = some (.slice At n ct) := by rw [cell_of_row w4 rb 3 _ _ _ h1, ← HT.out]; rfl
    have c7 : w4.cell? ⟨rb, 7, none⟩ = some (.int .i64 ((b + 1 : Nat) : Int)) := by rw [HRA.out.c7, ← hb']
    have fz := HRA.out.fz
    have lt := HRA.out.lt
    have h3n : w4.ownsRow B 3 1 (.slice At n ct) n (ints s.ts) := by rw [← HT.out]; exact h3
    obtain ⟨ti, hti, htz, hts, htb⟩ := info_parts int8.info
    have H1 := Lib.hid h1
    have H2 := Lib.hid h2
    clear h1 h2 h3 hb
    have HB3 := Lib.hid hb'
    clear hb'
    go_region_law (refine step_append_lies _ rfl (.tmp 33) (.tmp 40) _ (by rfl) B 3 ti _ 1 8 int8.under hti htz hts htb int8.one (by omega) _ n (ints s.ts) (by rfl) ((h3n.alloc _).drew) ⟨_, 0, none⟩ 1 1 [Value.int .i64 (IntKind.i64.wrap ((IntKind.i64.wrap (b : Int)).tdiv 8))] (by rfl) rfl (by exact news_block w4 #[Value.int .i64 (IntKind.i64.wrap ((IntKind.i64.wrap (b : Int)).tdiv 8))] _) (by intro u hu; rw [List.mem_singleton.1 hu]; rfl) (by omega) (by unfold maxLen; omega) (by omega) (by simp; omega) _ rfl ?_; intro g5 cap5 w5 hown5 hgrow5 hat5 hlt5; have hgk := grow_keep (w := w4.drew) (w3 := w5) H1.out (own_same h3n (fun k _ => rfl)) (by decide) hgrow5; obtain ⟨g1, g2, g3'⟩ := hgk; have z3 : w5.cell? ⟨rb, 3, none⟩ = some (.slice At n ct) := (by rw [g2 3, ← HT.out] <;> rfl); have HG1 := Lib.hid g1; have HGR := Lib.hid hgrow5; clear g1 g2)
    all_goals refine bodyPost_end (results_none rfl _ _ _) rfl ?_
    all_goals exact give_end HRA.out HFA.out HN.out HT.out HB3.out H1.out H2.out h3n hbl hll hown5 HGR.out HG1.out
end Go.Proofs.YtdpnlmofkkdioaaDoor.Hf
/- The reference's run: symbol. -/
namespace Go.Proofs.YtdpnlmofkkdioaaDoor.Hf
set_option linter.unusedVariables false
set_option linter.unusedSimpArgs false
open Go.RowKit Go.Proofs.YtdpnlmofkkdioaaDoor.W

def RS.sym (s : RS) (S : Sr) (lens : List Nat) : RS := match dec lens ((bits8 S.l).drop s.bit) with
  | .got _ k => s.on k
  | .bad j => (s.on j).stop 13
  | .more => s.cut S
def symV (s : RS) (S : Sr) (lens : List Nat) : Nat := match dec lens ((bits8 S.l).drop s.bit) with
  | .got x _ => x
  | _ => 0
theorem dec_at {lens : List Nat} {bs : List Bool} {j : Nat} (hj : j ≤ bs.length) (h : dec lens bs = decG lens bs (bs.length + 1 - j) j) :
    (∀ x k, lookAt lens (bs.take j) = .got x k → dec lens bs = .got x k) ∧ (lookAt lens (bs.take j) = .bad → dec lens bs = .bad j) ∧
    (lookAt lens (bs.take j) = .more → (j < bs.length → dec lens bs = decG lens bs (bs.length + 1 - (j + 1)) (j + 1)) ∧ (¬ j < bs.length → dec lens bs = .more)) := by
  rw [show bs.length + 1 - j = (bs.length - j) + 1 by omega] at h
  refine ⟨fun x k hl => by rw [h, decG, hl], fun hl => by rw [h, decG, hl], fun hl => ⟨fun h1 => ?_, fun h1 => ?_⟩⟩
  · rw [h, decG, hl]
    dsimp only
    rw [if_pos h1, show bs.length + 1 - (j + 1) = bs.length - j by omega]
  · rw [h, decG, hl]
    dsimp only
    rw [if_neg h1]
set_option maxHeartbeats 4000000 in
set_option maxRecDepth 100000 in
theorem r_symbol (w : World) (B rb : Nat) (S : Sr) (s : RS) (p : Nat) (lens : List Nat) (h : Rn w B rb S s) (ht : Tr w p lens) (htab : Tab lens) (hlen : lens.length ≤ 320) (hb : 0 < s.bit) :
    Calls Tryd.prog 45 #[.pointer (some ⟨rb, 0, none⟩), .pointer (some ⟨p, 0, none⟩)] w (RP w B rb S (s.sym S lens) (.int .i64 (symV s S lens : Nat))) := by
  obtain ⟨bs, hbs⟩ : ∃ bs, (bits8 S.l).drop s.bit = bs := ⟨_, rfl⟩
  have hbl := h.bitl
  have hll := h.len
  obtain ⟨L, hL⟩ : ∃ L, S.l.length = L := ⟨_, rfl⟩
  obtain ⟨b, hb'⟩ : ∃ b, s.bit = b := ⟨_, rfl⟩
  obtain ⟨N, hN⟩ : ∃ N, bs.length = N := ⟨_, rfl⟩
  have hNb : b + N = 8 * L := by rw [← hN, ← hbs, List.length_drop, bits8_length, hb', hL]; rw [hb', hL] at hbl; omega
  have HSY := Lib.hid (show s.sym S lens = (match dec lens bs with | .got _ k => s.on k | .bad j => (s.on j).stop 13 | .more => s.cut S) by unfold RS.sym; rw [hbs])
  have HSV := Lib.hid (show symV s S lens = (match dec lens bs with | .got x _ => x | _ => 0) by unfold symV; rw [hbs])
  have HDT := Lib.hid (dec_take (lens := lens) bs (Nat.le_refl _)).1
  rw [hN] at HDT
  have HBS := Lib.hid (show (bits8 S.l).drop b = bs by rw [← hb']; exact hbs)
  have HNN := Lib.hid hN
  have HLL := Lib.hid hL
  have HBB := Lib.hid hb'
  have H := Lib.hid h
  have HT := Lib.hid ht
  have HTAB := Lib.hid htab
  rw [hL] at hll
  rw [hb'] at hb
  clear hbs hL hb' hN h ht htab hbl
  obtain ⟨SA, hSA⟩ : ∃ A, S.A = A := ⟨_, rfl⟩
  have HSA := Lib.hid hSA
  clear hSA
  go_enter Tryd.func45, Tryd.ntmps45
  go_wp2_with (fail)
  go_loopg [5] 16 (fun g s5 wx => ∃ (j : Nat) (A : Option Addr) (c : Nat), j + g = 16 ∧ s5 = .slice A j c ∧ wx.ownsRow w.heap.size 4 1 (.slice A j c) j (bls (bs.take j)) ∧ Kp [] w wx ∧ j ≤ N ∧ Hid (dec lens bs = decG lens bs (N + 1 - j) j))
  case atStart => exact ⟨0, none, 0, by omega, rfl, World.ownsRow_nil w _ _ 1, Kp.refl _ _, Nat.zero_le _, Lib.hid (by rw [← HNN.out]; rfl)⟩
  case round =>
    obtain ⟨j, A, c, hjg, rfl, hO, hK, hjN, hD⟩ := hrel
    have HO := Lib.hid hO
    have HK := Lib.hid hK
    have hlt : (bs.take j).length = j := by rw [List.length_take, HNN.out]; omega
    have cL := r_look p lens A j c (bs.take j) wr (HT.out.fr (Fr.of_kp (B := B) hK (by simp))) hlen HTAB.out.le hlt (by omega) (RV.own hO)
    unfold LookIs at cL
    obtain ⟨q1, q2, q3⟩ := dec_at (lens := lens) (bs := bs) (j := j) (by rw [HNN.out]; exact hjN) (by rw [HNN.out]; exact hD.out)
    have hR1 := fun d : Nat => H.out.below (hK.drewN d)
    have HR1 := Lib.hid hR1
    clear hO hK hD hR1
    cases hlk : lookAt lens (bs.take j) with
    | got x k =>
      rw [hlk] at cL
      have q := q1 x k hlk
      rw [q] at HSY HSV HDT
      dsimp only [dbits] at HSY HSV HDT
      have hkN := HDT.out
      have CL := Lib.hid (show Calls Tryd.prog 63 #[.pointer (some ⟨p, 0, none⟩), .slice A j c] wr (fun e w' => e = .returned (.tuple #[.int .i64 (x : Nat), .int .i64 0, .int .i64 (k : Nat)]) ∧ ∃ d, w' = wr.drewN d) from cL)
      rw [HSY.out, HSV.out]
      clear cL q q1 q2 q3 hlk hlt
      go_wp2_with (first
        | (go_at_call 63; go_must (refine CL.out.mono ?_); rintro e w2 ⟨rfl, d, rfl⟩; have c7 := (HR1.out d).c7; rw [HBB.out] at c7; have fz := (HR1.out d).fz; have lt := (HR1.out d).lt))
      go_ret
      have hk9 : Kp [rb] (wr.drewN d) ((wr.drewN d).setCell ⟨rb, 7, none⟩ (.int .i64 ((b : Int) + (k : Int)))) := (Kp.refl _ _).setCell (.inl (by simp)) _
      refine ⟨rfl, (HR1.out d).turn hk9 rfl rfl (by show s.bit + k ≤ _; rw [HBB.out, HLL.out]; omega) fun Ao At co ct h3 => ?_, ((HK.out.drewN d).mono (by simp)).trans hk9, (Rw.kp (HK.out.drewN d) H.out.lt).trans (Rw.set _ _ _ _ (by decide) (by decide))⟩
      rw [heap_set h3 7 _]
      have e9 : (((s.on k).bit : Nat) : Int) = (b : Int) + (k : Int) := by show ((s.bit + k : Nat) : Int) = _; rw [HBB.out]; omega
      rw [← e9]
      rfl
    | bad =>
      rw [hlk] at cL
      have q := q2 hlk
      rw [q] at HSY HSV HDT
      dsimp only [dbits] at HSY HSV HDT
      have hkN := HDT.out
      have CL := Lib.hid (show Calls Tryd.prog 63 #[.pointer (some ⟨p, 0, none⟩), .slice A j c] wr (fun e w' => e = .returned (.tuple #[.int .i64 0, .int .i64 2, .int .i64 0]) ∧ ∃ d, w' = wr.drewN d) from cL)
      rw [HSY.out, HSV.out]
      clear cL q q1 q2 q3 hlk hlt
      have HRS := Lib.hid (fun d : Nat => show Rn ((wr.drewN d).setCell ⟨rb, 7, none⟩ (.int .i64 ((b : Int) + (j : Int)))) B rb S (s.on j) ∧ Kp [rb] (wr.drewN d) ((wr.drewN d).setCell ⟨rb, 7, none⟩ (.int .i64 ((b : Int) + (j : Int)))) from by
        have hk9 : Kp [rb] (wr.drewN d) ((wr.drewN d).setCell ⟨rb, 7, none⟩ (.int .i64 ((b : Int) + (j : Int)))) := (Kp.refl _ _).setCell (.inl (by simp)) _
        refine ⟨(HR1.out d).turn hk9 rfl rfl (by show s.bit + j ≤ _; rw [HBB.out, HLL.out]; omega) fun Ao At co ct h3 => ?_, hk9⟩
        rw [heap_set h3 7 _]
        have e9 : (((s.on j).bit : Nat) : Int) = (b : Int) + (j : Int) := by show ((s.bit + j : Nat) : Int) = _; rw [HBB.out]; omega
        rw [← e9]
        rfl)
      have HB0 := Lib.hid (show 0 < (s.on j).bit by show 0 < s.bit + j; rw [HBB.out]; omega)
      go_wp2_with (first
        | (go_at_call 63; go_must (refine CL.out.mono ?_); rintro e w2 ⟨rfl, d, rfl⟩; have c7 := (HR1.out d).c7; rw [HBB.out] at c7; have fz := (HR1.out d).fz; have lt := (HR1.out d).lt)
        | (go_at_call 30; go_must (refine (r_stop _ B rb S (s.on j) 13 (HRS.out d).1 HB0.out).mono ?_); rintro e w3 ⟨rfl, hr3, hk3, hw3⟩))
      go_ret
      exact ⟨rfl, hr3, (((HK.out.drewN d).mono (by simp)).trans (HRS.out d).2).trans hk3, ((Rw.kp (HK.out.drewN d) H.out.lt).trans (Rw.set _ _ _ _ (by decide) (by decide))).trans hw3⟩
    | more =>
      rw [hlk] at cL
      have hj15 : j ≤ 15 := by have := more_len HTAB.out hlk; rw [hlt] at this; exact this
      have CL := Lib.hid (show Calls Tryd.prog 63 #[.pointer (some ⟨p, 0, none⟩), .slice A j c] wr (fun e w' => e = .returned (.tuple #[.int .i64 0, .int .i64 1, .int .i64 0]) ∧ ∃ d, w' = wr.drewN d) from cL)
      obtain ⟨q4, q5⟩ := q3 hlk
      rw [HNN.out] at q4 q5
      obtain ⟨K, hK⟩ : ∃ K, b + j = K := ⟨_, rfl⟩
      obtain ⟨E, hE⟩ : ∃ E, 8 * L = E := ⟨_, rfl⟩
      obtain ⟨g, rfl⟩ : ∃ g, gk = g + 1 := ⟨gk - 1, by omega⟩
      clear cL q1 q2 q3 hlk hlt
      by_cases hjn : j < N
      · have Q := Lib.hid (q4 hjn)
        clear q4 q5
        obtain ⟨x, hx⟩ : ∃ x, S.l[K / 8]? = some x := ⟨_, List.getElem?_eq_getElem (by rw [HLL.out]; omega)⟩
        obtain ⟨x0, x1⟩ := H.out.byt x (List.mem_of_getElem? hx)
        obtain ⟨b0, off, rfl, hb0, hc0⟩ := RB.get (show RB wr SA S.l by rw [← HSA.out]; exact (HR1.out 0).src) hx
        have hbit := bits8_get hx
        have htk : bs.take (j + 1) = bs.take j ++ [(byteB x).getD (K % 8) false] := by
          have h1 : bs[j]? = some ((byteB x).getD (K % 8) false) := by rw [← HBS.out, List.getElem?_drop, hK]; exact hbit
          obtain ⟨h2, h3⟩ := List.getElem?_eq_some_iff.1 h1
          rw [List.take_succ_eq_append_getElem h2, h3]
        have hbt := bit_at x0 x1 (r := K % 8) (by omega)
        generalize (byteB x).getD (K % 8) false = bb at *
        have HTK := Lib.hid htk
        have HON := Lib.hid (show ∀ u ∈ [Value.bool bb], u.oneCell' = true from by intro u hu; rw [List.mem_singleton.1 hu]; rfl)
        have HOA := Lib.hid (fun d : Nat => show ((wr.drewN d).alloc (.cells #[.bool bb] 4)).ownsRow w.heap.size 4 1 (.slice A j c) j (bls (bs.take j)) from (own_same HO.out (fun k _ => rfl)).alloc _)
        have hsz := HK.out.size
        have tk1 : True := trivial
        clear hbit htk hx
        go_wp2_with (first
          | (go_at_call 63; go_must (refine CL.out.mono ?_); rintro e w2 ⟨rfl, d, rfl⟩; have c7 := (HR1.out d).c7; rw [HBB.out] at c7; have c0 := (HR1.out d).c0; rw [HLL.out, HSA.out] at c0; have fz := (HR1.out d).fz; have lt := (HR1.out d).lt)
          | (at_builtin; have _t := tk1; go_must (refine wpList_ap bool1 rfl (.tmp 58) (.tmp 73) rfl rfl (HOA.out d) rfl (m := 1) (news := [Value.bool bb]) rfl (RV.new (w := wr.drewN d) #[Value.bool bb] 4) HON.out (by unfold maxLen; omega) (by omega) (by simp; omega) ?_); intro A3 c3' w3 hown hgrow hob hcap; have hgrow2 : ((wr.drewN d).alloc (.cells #[.bool bb] 4)).grownBy w3 (Value.slice A j c).ownBlock := hgrow; have HOW := Lib.hid hown; have HGR := Lib.hid hgrow2; clear tk1 _t hown hgrow hgrow2 hob))
        go_roundg g
        case measure => omega
        case rel =>
          refine ⟨j + 1, A3, c3', by omega, rfl, ?_, ?_, by omega, Lib.hid (by rw [← HNN.out] at Q ⊢; exact Q.out)⟩
          · rw [HTK.out]
            have e9 : bls (bs.take j ++ [bb]) = bls (bs.take j) ++ [Value.bool bb] := by simp [bls]
            rw [e9]
            exact HOW.out
          · exact (((HK.out.drewN d).alloc _).grown HGR.out (fun k hk => .inr (HO.out.lt k hk).1))
      · have Q := q5 hjn
        rw [Q] at HSY HSV
        dsimp only at HSY HSV
        rw [HSY.out, HSV.out]
        clear q4 q5 Q
        go_wp2_with (first
          | (go_at_call 63; go_must (refine CL.out.mono ?_); rintro e w2 ⟨rfl, d, rfl⟩; have c7 := (HR1.out d).c7; rw [HBB.out] at c7; have c0 := (HR1.out d).c0; rw [HLL.out, HSA.out] at c0; have fz := (HR1.out d).fz; have lt := (HR1.out d).lt)
          | (go_at_call 42; go_must (refine (r_cut _ B rb S s (HR1.out d)).mono ?_); rintro e w3 ⟨rfl, hr3, hk3, hw3⟩))
        go_ret
        exact ⟨rfl, hr3, ((HK.out.drewN d).mono (by simp)).trans hk3, (Rw.kp (HK.out.drewN d) H.out.lt).trans hw3⟩
end Go.Proofs.YtdpnlmofkkdioaaDoor.Hf
