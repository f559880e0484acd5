/- The reference's run: Order, repeated. -/
import Derived.Test.YtdpnlmofkkdioaaDoorTg
import Derived.Deep.RegionHeld3
import Derived.Deep.DrawnRows
namespace Go.Proofs.YtdpnlmofkkdioaaDoor.Hf
set_option linter.unusedVariables false
set_option linter.unusedSimpArgs false
open Go.RowKit Go.Proofs.YtdpnlmofkkdioaaDoor.W

def OrdIs (w : World) (e : Ending) (w' : World) : Prop := e = .returned (.slice (some ⟨w.heap.size, 0, none⟩) 19 19) ∧ w' = w.alloc (.cells (ints ord).toArray 3)
set_option maxHeartbeats 1000000 in
theorem r_order (w : World) : Calls Tryd.prog 47 #[] w (OrdIs w) := by
  go_enter Tryd.func47, Tryd.ntmps47
  go_wp2
  go_ret
  exact ⟨rfl, rfl⟩
def RpPost (w : World) (B rb : Nat) (S : Sr) (s' : RS) (n x : Nat) (e : Ending) (w' : World) : Prop := e = .returned (.tuple #[.int .i64 (n : Nat), .int .i64 (x : Nat)]) ∧ Rn w' B rb S s' ∧ Kp [rb] w w' ∧ Rw rb w w'
def lastOf (row : List Nat) : Nat := row.getD (row.length - 1) 0
set_option maxHeartbeats 4000000 in
set_option maxRecDepth 100000 in
theorem r_repeated (w : World) (B rb : Nat) (S : Sr) (s : RS) (y : Nat) (A : Option Addr) (n c : Nat) (row : List Nat) (h : Rn w B rb S s) (hb : 0 < s.bit) (hn : row.length = n) (hn2 : n ≤ 400) (hr : W.RS w [rb] A (ints row)) (h15 : ∀ v ∈ row, v ≤ 15) (hy : y ≤ 18) :
    Calls Tryd.prog 48 #[.pointer (some ⟨rb, 0, none⟩), .int .i64 (y : Nat), .slice A n c] w
      (if y < 16 then RpPost w B rb S s 1 y else if y = 16 ∧ n = 0 then RpPost w B rb S (s.stop 12) 0 0 else RpPost w B rb S (s.num S (repMore y)) (repLeast y + numV s S (repMore y)) (if y = 16 then lastOf row else 0)) := by
  have H := Lib.hid h
  have HR := Lib.hid hr
  have HN := Lib.hid hn
  have hV : ∀ k, k ≤ 7 → numV s S k < 128 := fun k hk => by
    unfold numV
    split
    · have h1 := num_take_lt ((bits8 S.l).drop s.bit) (n := k)
      have h2 : 2 ^ k ≤ 2 ^ 7 := Nat.pow_le_pow_right (by omega) hk
      have h3 : (2 : Nat) ^ 7 = 128 := by decide
      omega
    · omega
  by_cases h16 : y < 16
  · rw [if_pos h16]
    have i1 : ((y : Int) == 16) = false := W.eqF (by omega)
    have i2 : ((y : Int) == 17) = false := W.eqF (by omega)
    have i3 : ((y : Int) == 18) = false := W.eqF (by omega)
    clear h hr hn hV
    go_enter Tryd.func48, Tryd.ntmps48
    go_wp2_with (fail)
    go_ret2
    exact ⟨rfl, H.out, Kp.refl _ _, Rw.refl _ _⟩
  rw [if_neg h16]
  by_cases hz : y = 16 ∧ n = 0
  · rw [if_pos hz]
    obtain ⟨rfl, rfl⟩ := hz
    clear h hr hn hV
    go_enter Tryd.func48, Tryd.ntmps48
    go_wp2_with (first
      | (go_at_call 30; go_must (refine (r_stop w B rb S s 12 H.out hb).mono ?_); rintro e w5 ⟨rfl, hr5, hk5, hw5⟩))
    go_ret2
    exact ⟨rfl, hr5, hk5, hw5⟩
  rw [if_neg hz]
  have hy3 : y = 16 ∨ y = 17 ∨ y = 18 := by omega
  rcases hy3 with rfl | rfl | rfl
  · rw [if_pos rfl]
    have hn0 : 0 < n := by omega
    have hl := lastOf row
    obtain ⟨T, hT⟩ : ∃ T, n - 1 = T := ⟨_, rfl⟩
    obtain ⟨v, hv⟩ : ∃ v, row[T]? = some v := ⟨_, List.getElem?_eq_getElem (by omega)⟩
    have HLA := Lib.hid (show lastOf row = v by unfold lastOf; rw [hn, hT, List.getD_eq_getElem?_getD, hv]; rfl)
    obtain ⟨b8, o8, rfl, hb8, hnm, hc8⟩ := hr T (.int .i64 (v : Nat)) (by simp [ints, hv])
    have hV2 := hV 2 (by omega)
    have HE := Lib.hid (show repMore 16 = 2 ∧ repLeast 16 = 3 from ⟨rfl, rfl⟩)
    rw [HE.out.1, HE.out.2, HLA.out]
    obtain ⟨V, hVV⟩ : ∃ V, numV s S 2 = V := ⟨_, rfl⟩
    rw [hVV] at hV2 ⊢
    have HVV := Lib.hid hVV
    have hmb : b8 ≠ rb := by simpa using hnm
    have eT : IntKind.i64.wrap ((n : Int) - 1) = (T : Int) := by rw [IntWalk.i64_in _ (by omega)]; omega
    have eT2 : (T : Int) < (n : Int) := by omega
    have eT0 : (0 : Int) ≤ (T : Int) := by omega
    have i0 : ((n : Int) == 0) = false := W.eqF (by omega)
    clear h hr hn hV hv hVV hl
    go_enter Tryd.func48, Tryd.ntmps48
    go_upto_region 6 with (fail)
    have hkd : Kp [] w w.drew := (Kp.refl _ _).drew
    have HRd := Lib.hid (H.out.below hkd)
    have HKd := Lib.hid (show Kp [rb] w w.drew from hkd.mono (by simp))
    have z8 : w.drew.cell? ⟨b8, o8 + T, none⟩ = some (.int .i64 (v : Nat)) := hc8
    have hb8d : b8 < w.drew.heap.size := hb8
    have CN := Lib.hid (show Calls Tryd.prog 24 #[.pointer (some ⟨rb, 0, none⟩), .int .i64 2] w.drew (RP w.drew B rb S (s.num S 2) (.int .i64 (V : Nat))) from by
      have h9 := r_number w.drew B rb S s 2 HRd.out (by omega)
      rw [HVV.out] at h9
      exact h9)
    obtain ⟨W3, hW3⟩ : ∃ W3, 3 + V = W3 := ⟨_, rfl⟩
    have eS : IntKind.i64.wrap (3 + (V : Int)) = (W3 : Int) := by rw [IntWalk.i64_in _ (by omega)]; omega
    have HW3 := Lib.hid hW3
    clear hW3 hkd
    rw [HW3.out]
    go_region_held3 (fun w' => w'.cell? ⟨b8, o8 + T, none⟩ = some (.int .i64 (v : Nat))) (first | exact z8 | exact g8)
      (first
        | (go_at_call 24; go_must (refine CN.out.mono ?_); rintro e w2 ⟨rfl, hr2, hk2, hw2⟩; have g8 : w2.cell? ⟨b8, o8 + T, none⟩ = some (.int .i64 (v : Nat)) := (World.cell?_of_block (a := ⟨b8, o8 + T, none⟩) (hk2.block b8 hb8d (by simp; exact hmb))).trans z8; have HR2 := Lib.hid hr2; have HK2 := Lib.hid hk2; have HW2 := Lib.hid hw2; clear hr2 hk2 hw2))
    go_wp2_with (fail)
    go_ret2
    refine ⟨?_, HR2.out, (HKd.out).trans HK2.out, (Rw.kp (Kp.refl _ _).drew H.out.lt).trans HW2.out⟩
    try rw [HW3.out]
    rfl
  · rw [if_neg (by decide)]
    have HE := Lib.hid (show repMore 17 = 3 ∧ repLeast 17 = 3 from ⟨rfl, rfl⟩)
    have hV2 := hV 3 (by omega)
    rw [HE.out.1, HE.out.2]
    obtain ⟨V, hVV⟩ : ∃ V, numV s S 3 = V := ⟨_, rfl⟩
    rw [hVV] at hV2 ⊢
    have cN := r_number w B rb S s 3 h (by omega)
    rw [hVV] at cN
    have CN := Lib.hid cN
    obtain ⟨W3, hW3⟩ : ∃ W3, 3 + V = W3 := ⟨_, rfl⟩
    have eW : ((3 : Int) + (V : Int)) = (W3 : Int) := by omega
    rw [hW3]
    clear h hr hn hV hVV cN hW3
    go_enter Tryd.func48, Tryd.ntmps48
    go_wp2_with (first
      | (go_at_call 24; go_must (refine CN.out.mono ?_); rintro e w2 ⟨rfl, hr2, hk2, hw2⟩))
    go_ret2
    exact ⟨rfl, hr2, hk2, hw2⟩
  · rw [if_neg (by decide)]
    have HE := Lib.hid (show repMore 18 = 7 ∧ repLeast 18 = 11 from ⟨rfl, rfl⟩)
    have hV2 := hV 7 (by omega)
    rw [HE.out.1, HE.out.2]
    obtain ⟨V, hVV⟩ : ∃ V, numV s S 7 = V := ⟨_, rfl⟩
    rw [hVV] at hV2 ⊢
    have cN := r_number w B rb S s 7 h (by omega)
    rw [hVV] at cN
    have CN := Lib.hid cN
    obtain ⟨W3, hW3⟩ : ∃ W3, 11 + V = W3 := ⟨_, rfl⟩
    have eW : ((11 : Int) + (V : Int)) = (W3 : Int) := by omega
    rw [hW3]
    clear h hr hn hV hVV cN hW3
    go_enter Tryd.func48, Tryd.ntmps48
    go_wp2_with (first
      | (go_at_call 24; go_must (refine CN.out.mono ?_); rintro e w2 ⟨rfl, hr2, hk2, hw2⟩))
    go_ret2
    exact ⟨rfl, hr2, hk2, hw2⟩
end Go.Proofs.YtdpnlmofkkdioaaDoor.Hf
/- The reference's run: what a dynamic block needs (plain). -/
namespace Go.Proofs.YtdpnlmofkkdioaaDoor.Hf
set_option linter.unusedVariables false
set_option linter.unusedSimpArgs false
open Go.RowKit Go.Proofs.YtdpnlmofkkdioaaDoor.W

/-- The run's rows lie below N. -/
def Hi (rb N : Nat) (w : World) : Prop := ∀ i v k, i = 2 ∨ i = 3 → w.cell? ⟨rb, i, none⟩ = some v → v.ownBlock = some k → k < N
section
variable {w w' : World} {B rb : Nat} {S : Sr} {s : RS} {N : Nat}
theorem Rn.hi (h : Rn w B rb S s) : Hi rb w.heap.size w := by
  obtain ⟨Ao, At, co, ct, h1, h2, h3⟩ := h.ex
  intro i v k hi hv hk
  rw [cell_of_row w rb i _ _ _ h1] at hv
  rcases hi with rfl | rfl
  · have : v = .slice Ao s.out.length co := by injection hv with hv; exact hv.symm
    subst this
    exact (h2.lt k hk).2
  · have : v = .slice At s.ts.length ct := by injection hv with hv; exact hv.symm
    subst this
    exact (h3.lt k hk).2
theorem Hi.rw (h : Hi rb N w) (hr : Rw rb w w') : Hi rb N w' := fun i v k hi hv hk => h i v k hi (by rw [← hr i hi]; exact hv) hk
theorem Rn.apart (h : Rn w B rb S s) (hi : Hi rb N w) {T : List Nat} (hk : Kp T w w') (hT : ∀ k ∈ T, N ≤ k) (hN : rb < N) : Rn w' B rb S s ∧ Hi rb N w' := by
  obtain ⟨Ao, At, co, ct, h1, h2, h3⟩ := h.ex
  have c2 := cell_of_row w rb 2 _ _ _ h1
  have c3 := cell_of_row w rb 3 _ _ _ h1
  have hrb : w'.heap[rb]? = w.heap[rb]? := hk.block rb h.lt fun hm => by have := hT rb hm; omega
  have hrw : Rw rb w w' := fun i _ => World.cell?_of_block (a := ⟨rb, i, none⟩) hrb
  refine ⟨⟨⟨Ao, At, co, ct, hrb.trans h1, own_same h2 fun k hk2 => hk.block k (h2.lt k hk2).2 fun hm => ?_, own_same h3 fun k hk2 => hk.block k (h3.lt k hk2).2 fun hm => ?_⟩, h.ge, Nat.le_trans h.sz hk.size, ?_, h.old, h.len, h.byt, h.bitl⟩, hi.rw hrw⟩
  · have h4 := hi 2 _ k (.inl rfl) c2 hk2
    have := hT k hm
    omega
  · have h4 := hi 3 _ k (.inr rfl) c3 hk2
    have := hT k hm
    omega
  · refine src_kept h.src h.old hk.size fun k h6 hlt => hk.block _ hlt fun hm => ?_
    have := h.ge
    have := hT _ hm
    omega
end
section
variable {S : Sr} {s : RS} {m : M}
theorem step_cts {out : List Int} {bs : List Bool} (hph : m.ph = .cts) : step m out bs = if 14 ≤ bs.length then some (ctsM m (Hf.num (bs.take 14)), [], 14) else none := by unfold step; rw [hph]
theorem step_lol {out : List Int} {bs : List Bool} (hph : m.ph = .lol) : step m out bs = if 3 ≤ bs.length then some (lolM m (Hf.num (bs.take 3)), [], 3) else none := by unfold step; rw [hph]
theorem step_len {out : List Int} {bs : List Bool} (hph : m.ph = .len) : step m out bs = match dec m.cd bs with
    | .got s k => some (lenM m s, [], k)
    | _ => none := by unfold step; rw [hph]; dsimp only; cases dec m.cd bs <;> rfl
theorem step_rep {out : List Int} {bs : List Bool} (hph : m.ph = .rep) : step m out bs = if repMore m.sym ≤ bs.length then some (layM m (repLeast m.sym + Hf.num (bs.take (repMore m.sym))) (repX m), [], repMore m.sym) else none := by unfold step; rw [hph]
end
/-- What a dynamic block says of its rows, and what it stands in. -/
structure Dy where
  a : Nat
  b : Nat
  c : Nat
  last : Bool
def dyM (D : Dy) (m : M) (f : List Nat) (i : Nat) : Prop := m.ph = .lol ∧ m.fl = f ∧ m.order = i ∧ m.left = D.c ∧ m.lits = D.a ∧ m.wanted = D.a + D.b ∧ m.last = D.last ∧ m.fin = false
def lenR (D : Dy) (m : M) (f row : List Nat) : Prop := m.ph = .len ∧ m.cd = f ∧ m.row = row ∧ m.lits = D.a ∧ m.wanted = D.a + D.b ∧ m.last = D.last ∧ m.fin = false
/-- While the lengths of lengths are read. -/
def Lol (S : Sr) (s0 : RS) (D : Dy) (i : Nat) (f : List Nat) (s : RS) : Prop :=
  f.length = 19 ∧ (∀ x ∈ f, x ≤ 7) ∧
  ((i < D.c ∧ s0.bit ≤ s.bit ∧ ∃ m, Mc S s m ∧ dyM D m f i) ∨
   (i = D.c ∧ s0.bit ≤ s.bit ∧ s.why = 0 ∧ s.en = false ∧ ((kraft f = 32768 ∧ ∃ m, Mc S s m ∧ lenR D m f []) ∨ (kraft f ≠ 32768 ∧ En S (s.stop 12)))) ∨
   En S s)
theorem Lol.stp {S : Sr} {s0 s : RS} {D : Dy} {i : Nat} {f : List Nat} (hc : D.c ≤ 19) (hl : f.length = 19) (hf : ∀ x ∈ f, x ≤ 7) (hi : i < D.c) (hb : s0.bit ≤ s.bit) {m : M} (hM : Mc S s m) (hd : dyM D m f i) :
    Lol S s0 D (i + 1) (f.set (ord.getD i 0) (numV s S 3)) (s.num S 3) := by
  have hv : numV s S 3 ≤ 7 := by
    unfold numV
    split
    · have h1 := num_take_lt ((bits8 S.l).drop s.bit) (n := 3)
      have h2 : (2 : Nat) ^ 3 = 8 := by decide
      omega
    · omega
  refine ⟨by rw [List.length_set]; exact hl, fun x hx => mem_set_le hf hv hx, ?_⟩
  obtain ⟨d1, d2, d3, d4, d5, d6, d7, d8⟩ := hd
  have hs := step_lol (out := s.out) (bs := (bits8 S.l).drop s.bit) d1
  rw [bs_len] at hs
  by_cases h3 : s.bit + 3 ≤ 8 * S.l.length
  · obtain ⟨e1, e2⟩ := num_on (S := S) (s := s) (n := 3) h3
    rw [e1, e2]
    rw [if_pos (by omega)] at hs
    generalize Hf.num (((bits8 S.l).drop s.bit).take 3) = v at *
    unfold lolM at hs
    rw [d2, d3, d4] at hs
    dsimp only at hs
    have hbb : s0.bit ≤ (s.on 3).bit := by show s0.bit ≤ s.bit + 3; omega
    by_cases hic : i + 1 < D.c
    · rw [if_pos hic] at hs
      exact .inl ⟨hic, hbb, _, hM.next d8 hs hM.mw, d1, rfl, rfl, rfl, d5, d6, d7, d8⟩
    · rw [if_neg hic] at hs
      refine .inr (.inl ⟨by omega, hbb, hM.why, hM.en, ?_⟩)
      by_cases hk : kraft (f.set (ord.getD i 0) v) = 32768
      · rw [if_pos hk] at hs
        exact .inl ⟨hk, _, hM.next d8 hs hM.mw, rfl, rfl, rfl, d5, d6, d7, d8⟩
      · rw [if_neg hk] at hs
        exact .inr ⟨hk, hM.halt d8 hs (by show (12 : Nat) ≠ 0; decide) d8⟩
  · obtain ⟨e1, e2⟩ := num_cut (S := S) (s := s) (n := 3) h3
    rw [e1]
    rw [if_neg (by omega)] at hs
    exact .inr (.inr (hM.cut d8 hs))
/-- While the lengths are read. -/
def Len (S : Sr) (s0 : RS) (D : Dy) (f row : List Nat) (s : RS) : Prop :=
  s0.bit ≤ s.bit ∧ s.why = 0 ∧ s.en = false ∧ (∀ x ∈ row, x ≤ 15) ∧
  ((row.length < D.a + D.b ∧ ∃ m, Mc S s m ∧ lenR D m f row) ∨
   (row.length = D.a + D.b ∧ (((newOk (row.take D.a) && (newOk (row.drop D.a) && decide (row.getD 256 0 ≠ 0))) = true ∧ ∃ m, Mc S s m ∧ m.ph = .lit ∧ m.lt = row.take D.a ∧ m.ds = row.drop D.a ∧ m.last = D.last ∧ m.fin = false) ∨
     ((newOk (row.take D.a) && (newOk (row.drop D.a) && decide (row.getD 256 0 ≠ 0))) = false ∧ En S (s.stop 12)))))
theorem Len.lay {S : Sr} {s0 s : RS} {D : Dy} {f row : List Nat} {m : M} {k n x : Nat} (hb : s0.bit ≤ s.bit) (hM : Mc S s m) (hr : ∀ y ∈ row, y ≤ 15) (hx : x ≤ 15) (hrow : m.row = row) (h4 : m.lits = D.a) (h5 : m.wanted = D.a + D.b) (h6 : m.last = D.last) (h7 : m.fin = false) (hcd : m.cd = f)
    (hs : step m s.out ((bits8 S.l).drop s.bit) = some (layM m n x, [], k)) :
    (D.a + D.b < row.length + n ∧ En S ((s.on k).stop 12)) ∨ (row.length + n ≤ D.a + D.b ∧ Len S s0 D f (row ++ List.replicate n x) (s.on k)) := by
  unfold layM at hs
  rw [hrow, h5, h4] at hs
  dsimp only at hs
  have hl : (row ++ List.replicate n x).length = row.length + n := by rw [List.length_append, List.length_replicate]
  by_cases h : row.length + n > D.a + D.b
  · rw [if_pos h] at hs
    exact .inl ⟨h, hM.halt h7 hs (by show (12 : Nat) ≠ 0; decide) h7⟩
  · rw [if_neg h] at hs
    refine .inr ⟨by omega, by show s0.bit ≤ s.bit + k; omega, hM.why, hM.en, fun y hy => ?_, ?_⟩
    · rcases List.mem_append.1 hy with h8 | h8
      · exact hr y h8
      · rw [(List.mem_replicate.1 h8).2]; exact hx
    · by_cases h1 : (row ++ List.replicate n x).length < D.a + D.b
      · rw [if_pos h1] at hs
        exact .inl ⟨h1, _, hM.next h7 hs hM.mw, rfl, hcd, rfl, rfl, rfl, h6, h7⟩
      · rw [if_neg h1] at hs
        refine .inr ⟨by omega, ?_⟩
        cases hok : (newOk ((row ++ List.replicate n x).take D.a) && (newOk ((row ++ List.replicate n x).drop D.a) && decide ((row ++ List.replicate n x).getD 256 0 ≠ 0))) with
        | true =>
          rw [hok] at hs
          exact .inl ⟨rfl, _, hM.next h7 hs hM.mw, rfl, rfl, rfl, h6, h7⟩
        | false =>
          rw [hok] at hs
          exact .inr ⟨rfl, hM.halt h7 hs (by show (12 : Nat) ≠ 0; decide) h7⟩
/-- Behind a symbol of the lengths' code: what 'repeated' says. -/
def Rep (S : Sr) (s0 : RS) (D : Dy) (f row : List Nat) (y : Nat) (s1 : RS) : Prop :=
  if y < 16 then (D.a + D.b < row.length + 1 ∧ En S (s1.stop 12)) ∨ (row.length + 1 ≤ D.a + D.b ∧ Len S s0 D f (row ++ List.replicate 1 y) s1)
  else if y = 16 ∧ row.length = 0 then En S (s1.stop 12)
  else if s1.bit + repMore y ≤ 8 * S.l.length then
    (D.a + D.b < row.length + (repLeast y + numV s1 S (repMore y)) ∧ En S ((s1.on (repMore y)).stop 12)) ∨ (row.length + (repLeast y + numV s1 S (repMore y)) ≤ D.a + D.b ∧ Len S s0 D f (row ++ List.replicate (repLeast y + numV s1 S (repMore y)) (if y = 16 then lastOf row else 0)) (s1.on (repMore y)))
  else En S (s1.cut S)
theorem Len.sym {S : Sr} {s0 s : RS} {D : Dy} {f row : List Nat} {m : M} {y k : Nat} (hb : s0.bit ≤ s.bit) (hM : Mc S s m) (hr : ∀ y ∈ row, y ≤ 15) (hl : lenR D m f row) (hy : y ≤ 18) (hd : dec f ((bits8 S.l).drop s.bit) = .got y k) : Rep S s0 D f row y (s.on k) := by
  obtain ⟨d1, d2, d3, d4, d5, d6, d7⟩ := hl
  have hs := step_len (out := s.out) (bs := (bits8 S.l).drop s.bit) d1
  rw [d2, hd] at hs
  dsimp only at hs
  unfold lenM at hs
  unfold Rep
  by_cases h16 : y < 16
  · rw [if_pos h16] at hs ⊢
    exact Len.lay hb hM hr (by omega) d3 d4 d5 d6 d7 d2 hs
  · rw [if_neg h16] at hs ⊢
    rw [d3] at hs
    by_cases he : y = 16 ∧ row.length = 0
    · rw [if_pos he] at hs ⊢
      exact hM.halt d7 hs (by show (12 : Nat) ≠ 0; decide) d7
    · rw [if_neg he] at hs ⊢
      have hM2 := hM.next d7 hs hM.mw
      have hb2 : s0.bit ≤ (s.on k).bit := by show s0.bit ≤ s.bit + k; omega
      have hs2 := step_rep (m := ({ m with sym := y, ph := .rep, row := row } : M)) (out := (s.on k).out) (bs := (bits8 S.l).drop (s.on k).bit) rfl
      rw [bs_len] at hs2
      dsimp only at hs2
      have hv : (s.on k).bit + repMore y ≤ 8 * S.l.length → numV (s.on k) S (repMore y) = Hf.num (((bits8 S.l).drop (s.on k).bit).take (repMore y)) := fun h => (num_on h).2
      by_cases hA : (s.on k).bit + repMore y ≤ 8 * S.l.length
      · rw [if_pos hA, hv hA]
        rw [if_pos (by omega)] at hs2
        have hrx : repX ({ m with sym := y, ph := .rep, row := row } : M) = if y = 16 then lastOf row else 0 := by
          unfold repX lastOf
          dsimp only
        rw [hrx] at hs2
        refine Len.lay hb2 hM2 hr ?_ rfl d4 d5 d6 d7 d2 hs2
        split
        · unfold lastOf
          rw [List.getD_eq_getElem?_getD]
          cases hg : row[row.length - 1]? with
          | none => simp
          | some x => exact hr x (List.mem_of_getElem? hg)
        · omega
      · rw [if_neg hA]
        have hr0 : 0 < repMore y := by unfold repMore; split <;> (try split) <;> omega
        rw [if_neg (by omega)] at hs2
        exact hM2.cut d7 hs2
/-- The world while a dynamic block is read: the order and the lengths of lengths lie in blocks of the call's own. -/
structure Dw (w wx : World) (B rb : Nat) (S : Sr) (s : RS) (N : Nat) (f : List Nat) : Prop where
  rn : Rn wx B rb S s
  hi : Hi rb N wx
  fr : Fr B w wx
  blkO : wx.heap[N]? = some (.cells (ints ord).toArray 3 (0, 0))
  blkF : wx.heap[N + 1]? = some (.cells (ints f).toArray 3 (0, 0))
  lt : rb < N
  ge : w.heap.size ≤ N
section
variable {w wx w' : World} {B rb : Nat} {S : Sr} {s s' : RS} {N : Nat} {f : List Nat}
theorem Dw.call (h : Dw w wx B rb S s N f) (hr : Rn w' B rb S s') (hk : Kp [rb] wx w') (hw : Rw rb wx w') : Dw w w' B rb S s' N f :=
  ⟨hr, h.hi.rw hw, h.fr.trans (h.rn.fr hk), (hk.block N (Array.getElem?_eq_some_iff.1 h.blkO).1 (by simp; have := h.lt; omega)).trans h.blkO, (hk.block (N + 1) (Array.getElem?_eq_some_iff.1 h.blkF).1 (by simp; have := h.lt; omega)).trans h.blkF, h.lt, h.ge⟩
theorem Dw.keep (h : Dw w wx B rb S s N f) (hk : Kp [] wx w') : Dw w w' B rb S s N f := h.call (h.rn.below hk) (hk.mono (by simp)) (Rw.kp hk h.rn.lt)
theorem Fr.new (h : Fr B w wx) {T : List Nat} (hk : Kp T wx w') (hT : ∀ k ∈ T, w.heap.size ≤ k) : Fr B w w' :=
  ⟨hk.os.trans h.os, hk.tape.trans h.tape, hk.output.trans h.output, Nat.le_trans h.size hk.size, fun k o ho hb => by
    have hlt : k < w.heap.size := (Array.getElem?_eq_some_iff.1 ho).1
    rw [hk.block k (Nat.lt_of_lt_of_le hlt h.size) (fun hm => by have := hT k hm; omega)]
    exact h.block k o ho hb⟩
theorem Dw.apart (h : Dw w wx B rb S s N f) {T : List Nat} (hk : Kp T wx w') (hT : ∀ k ∈ T, N + 2 ≤ k) : Dw w w' B rb S s N f := by
  obtain ⟨h1, h2⟩ := h.rn.apart h.hi hk (fun k hm => by have := hT k hm; omega) h.lt
  exact ⟨h1, h2, h.fr.new hk (fun k hm => by have := hT k hm; have := h.ge; omega), (hk.block N (Array.getElem?_eq_some_iff.1 h.blkO).1 (fun hm => by have := hT _ hm; omega)).trans h.blkO, (hk.block (N + 1) (Array.getElem?_eq_some_iff.1 h.blkF).1 (fun hm => by have := hT _ hm; omega)).trans h.blkF, h.lt, h.ge⟩
theorem Dw.set (h : Dw w wx B rb S s N f) (i v : Nat) : Dw w (wx.setCell ⟨N + 1, i, none⟩ (.int .i64 (v : Nat))) B rb S s N (f.set i v) := by
  have hk : Kp [N + 1] wx (wx.setCell ⟨N + 1, i, none⟩ (.int .i64 (v : Nat))) := (Kp.refl _ _).setCell (.inl (by simp)) _
  obtain ⟨h1, h2⟩ := h.rn.apart h.hi hk (fun k hm => by simp at hm; omega) h.lt
  refine ⟨h1, h2, h.fr.new hk (fun k hm => by simp at hm; have := h.ge; omega), (hk.block N (Array.getElem?_eq_some_iff.1 h.blkO).1 (by simp)).trans h.blkO, ?_, h.lt, h.ge⟩
  rw [heap_set h.blkF i _]
  simp [ints, List.map_set]
theorem Dw.fat (h : Dw w wx B rb S s N f) {i v : Nat} (hi : f[i]? = some v) : wx.cell? ⟨N + 1, i, none⟩ = some (.int .i64 (v : Nat)) := by
  rw [cell_of_row wx (N + 1) i _ _ _ h.blkF]; simp [ints, hi]
theorem Dw.ffz (h : Dw w wx B rb S s N f) : ∀ i, wx.frozen? ⟨N + 1, i, none⟩ = false := fun i => frozen_of_row wx (N + 1) i _ _ h.blkF
theorem Dw.flt (h : Dw w wx B rb S s N f) : N + 1 < wx.heap.size := (Array.getElem?_eq_some_iff.1 h.blkF).1
theorem Dw.rvF (h : Dw w wx B rb S s N f) : RV wx (some ⟨N + 1, 0, none⟩) (ints f) := fun i v hv => ⟨N + 1, 0, rfl, h.flt, by rw [Nat.zero_add, cell_of_row wx (N + 1) i _ _ _ h.blkF]; simpa using hv⟩
theorem Dw.at_ (h : Dw w wx B rb S s N f) {i v : Nat} (hi : ord[i]? = some v) : wx.cell? ⟨N, i, none⟩ = some (.int .i64 (v : Nat)) := by
  rw [cell_of_row wx N i _ _ _ h.blkO]; simp [ints, hi]
end
end Go.Proofs.YtdpnlmofkkdioaaDoor.Hf
/- The reference's run, dynamic: a symbol of the lengths' code, and what it repeats, told at once. -/
namespace Go.Proofs.YtdpnlmofkkdioaaDoor.Hf
set_option linter.unusedVariables false
set_option linter.unusedSimpArgs false
open Go.RowKit Go.Proofs.YtdpnlmofkkdioaaDoor.W

def SymP (w : World) (B rb : Nat) (S : Sr) (s0 : RS) (D : Dy) (f row : List Nat) (e : Ending) (w' : World) : Prop :=
  ∃ (y : Nat) (s3 : RS), e = .returned (.int .i64 (y : Nat)) ∧ Rn w' B rb S s3 ∧ Kp [rb] w w' ∧ Rw rb w w' ∧ (En S s3 ∨ (s3.why = 0 ∧ s3.en = false ∧ y ≤ 18 ∧ s0.bit ≤ s3.bit ∧ Rep S s0 D f row y s3))
theorem r_sym2 (w : World) (B rb : Nat) (S : Sr) (s0 s : RS) (D : Dy) (f row : List Nat) (p : Nat) (m : M) (h : Rn w B rb S s) (ht : Tr w p f) (htab : Tab f) (hlen : f.length = 19) (hk : kraft f = 32768) (hb : 0 < s.bit) (hb0 : s0.bit ≤ s.bit) (hM : Mc S s m) (hl : lenR D m f row) (hr : ∀ y ∈ row, y ≤ 15) :
    Calls Tryd.prog 45 #[.pointer (some ⟨rb, 0, none⟩), .pointer (some ⟨p, 0, none⟩)] w (SymP w B rb S s0 D f row) := by
  refine (r_symbol w B rb S s p f h ht htab (by omega) hb).mono ?_
  rintro e w' ⟨rfl, h1, h2, h3⟩
  have hs := step_len (out := s.out) (bs := (bits8 S.l).drop s.bit) hl.1
  rw [hl.2.1] at hs
  unfold RS.sym symV at *
  cases hd : dec f ((bits8 S.l).drop s.bit) with
  | more =>
    rw [hd] at h1 hs
    exact ⟨_, _, rfl, h1, h2, h3, .inl (hM.cut hl.2.2.2.2.2.2 hs)⟩
  | bad j => exact absurd hd (dec_full htab hk _ j)
  | got y k =>
    rw [hd] at h1
    have hy := dec_lt hd
    exact ⟨y, _, rfl, h1, h2, h3, .inr ⟨hM.why, hM.en, by omega, by show s0.bit ≤ s.bit + k; omega, Len.sym hb0 hM hr hl (by omega) hd⟩⟩
def RepP (w : World) (B rb : Nat) (S : Sr) (s0 : RS) (D : Dy) (f row : List Nat) (e : Ending) (w' : World) : Prop :=
  ∃ (n x : Nat) (s4 : RS), e = .returned (.tuple #[.int .i64 (n : Nat), .int .i64 (x : Nat)]) ∧ Rn w' B rb S s4 ∧ Kp [rb] w w' ∧ Rw rb w w' ∧
    (En S s4 ∨ (s4.why = 0 ∧ s4.en = false ∧ s0.bit ≤ s4.bit ∧ 1 ≤ n ∧ n ≤ 200 ∧ ((D.a + D.b < row.length + n ∧ En S (s4.stop 12)) ∨ (row.length + n ≤ D.a + D.b ∧ Len S s0 D f (row ++ List.replicate n x) s4))))
theorem r_rep2 (w : World) (B rb : Nat) (S : Sr) (s0 s : RS) (D : Dy) (f row : List Nat) (y : Nat) (A : Option Addr) (n c : Nat) (h : Rn w B rb S s) (hb : 0 < s.bit) (hb0 : s0.bit ≤ s.bit) (hn : row.length = n) (hn2 : n ≤ 400) (hr : W.RS w [rb] A (ints row)) (h15 : ∀ v ∈ row, v ≤ 15) (hy : y ≤ 18) (hw : s.why = 0) (he : s.en = false) (hR : Rep S s0 D f row y s) :
    Calls Tryd.prog 48 #[.pointer (some ⟨rb, 0, none⟩), .int .i64 (y : Nat), .slice A n c] w (RepP w B rb S s0 D f row) := by
  refine (r_repeated w B rb S s y A n c row h hb hn hn2 hr h15 hy).mono ?_
  intro e w' hp
  unfold Rep at hR
  by_cases h16 : y < 16
  · rw [if_pos h16] at hR hp
    obtain ⟨rfl, h1, h2, h3⟩ := hp
    exact ⟨_, _, _, rfl, h1, h2, h3, .inr ⟨hw, he, hb0, Nat.le_refl _, by omega, hR⟩⟩
  rw [if_neg h16] at hR hp
  by_cases hz : y = 16 ∧ n = 0
  · rw [if_pos hz] at hp
    rw [if_pos ⟨hz.1, hn.trans hz.2⟩] at hR
    obtain ⟨rfl, h1, h2, h3⟩ := hp
    exact ⟨_, _, _, rfl, h1, h2, h3, .inl hR⟩
  rw [if_neg hz] at hp
  rw [if_neg (fun h => hz ⟨h.1, hn.symm.trans h.2⟩)] at hR
  obtain ⟨rfl, h1, h2, h3⟩ := hp
  refine ⟨_, _, _, rfl, h1, h2, h3, ?_⟩
  by_cases hA : s.bit + repMore y ≤ 8 * S.l.length
  · rw [if_pos hA] at hR
    have hv := (num_on hA).2
    have hv2 := num_take_lt ((bits8 S.l).drop s.bit) (n := repMore y)
    have hm7 : repMore y ≤ 7 := by unfold repMore; split <;> (try split) <;> omega
    have hp7 : 2 ^ repMore y ≤ 2 ^ 7 := Nat.pow_le_pow_right (by omega) hm7
    have hp8 : (2 : Nat) ^ 7 = 128 := by decide
    have hl3 : 3 ≤ repLeast y ∧ repLeast y ≤ 11 := by unfold repLeast; split <;> (try split) <;> omega
    rw [← hv] at hv2
    rw [(num_on hA).1]
    exact .inr ⟨hw, he, by show s0.bit ≤ s.bit + repMore y; omega, by omega, by omega, hR⟩
  · rw [if_neg hA] at hR
    rw [(num_cut hA).1]
    exact .inl hR
theorem RfNew.yes {w w' : World} {ls : List Nat} {e : Ending} (h : RfNew w ls e w') (hok : newOk ls = true) : ∃ t, e = .returned (.tuple #[.pointer (some ⟨t, 0, none⟩), .int .i64 0]) ∧ Tr w' t ls ∧ Kp [] w w' := by
  obtain ⟨pt, er, rfl, h1, _, h3⟩ := h
  obtain ⟨rfl, t, rfl, h4⟩ := h1 hok
  exact ⟨t, rfl, h4, h3⟩
theorem RfNew.not {w w' : World} {ls : List Nat} {e : Ending} (h : RfNew w ls e w') (hok : newOk ls = false) : ∃ pt er, e = .returned (.tuple #[.pointer pt, .int .i64 er]) ∧ (er == 0) = false ∧ (er != 0) = true ∧ Kp [] w w' := by
  obtain ⟨pt, er, rfl, _, h1, h3⟩ := h
  exact ⟨pt, er, rfl, W.eqF (h1 hok), W.neT (h1 hok), h3⟩
theorem RfNew.any {w w' : World} {ls : List Nat} {e : Ending} (h : RfNew w ls e w') : ∃ pt er, e = .returned (.tuple #[.pointer pt, .int .i64 er]) ∧ Kp [] w w' := by
  obtain ⟨pt, er, rfl, _, _, h3⟩ := h
  exact ⟨pt, er, rfl, h3⟩
/-- A row of the call's own that grows. -/
theorem grown_kpe {w w2 : World} {base : Nat} {t : TypeId} {v : Value} {nn : Nat} {xs : List Value} (hown : w.ownsRow base t 1 v nn xs) (hg : w.grownBy w2 v.ownBlock) : ∃ T, Kp T w w2 ∧ (∀ k ∈ T, base ≤ k ∧ ∃ cs, w.heap[k]? = some (.cells cs t (0, 0))) := by
  rcases hown.2 with ⟨hv, _⟩ | ⟨g', cap', cur, hv, hb, hg', rest⟩
  · refine ⟨[], Kp.of_grown hg (fun k hk => ?_), fun k hk => (by cases hk)⟩
    rw [hv] at hk
    cases hk
  · refine ⟨[g'], Kp.of_grown hg (fun k hk => ?_), fun k hk => ?_⟩
    · rw [hv] at hk
      exact .inl (by rw [← Option.some.inj hk]; exact List.mem_cons_self ..)
    · rw [List.mem_singleton.1 hk]
      exact ⟨hb, cur, hg'⟩
/-- While the lengths are laid. -/
structure Rlw (w wx : World) (B rb : Nat) (S : Sr) (s : RS) (N N6 : Nat) (f row : List Nat) (tc : Nat) (A : Option Addr) (c : Nat) : Prop where
  dw : Dw w wx B rb S s N f
  own : wx.ownsRow N6 3 1 (.slice A row.length c) row.length (ints row)
  tr : Tr wx tc f
  ge : N + 2 ≤ N6
  sz : N6 ≤ wx.heap.size
  bge : B ≤ N
section
variable {w wx w' : World} {B rb : Nat} {S : Sr} {s s' : RS} {N N6 : Nat} {f row : List Nat} {tc : Nat} {A : Option Addr} {c : Nat}
theorem Rlw.call (h : Rlw w wx B rb S s N N6 f row tc A c) (hr : Rn w' B rb S s') (hk : Kp [rb] wx w') (hw : Rw rb wx w') : Rlw w w' B rb S s' N N6 f row tc A c :=
  ⟨h.dw.call hr hk hw, own_same h.own fun k hk2 => hk.block k (h.own.lt k hk2).2 (by have := (h.own.lt k hk2).1; have := h.dw.lt; have := h.ge; simp; omega), h.tr.fr (h.dw.rn.fr hk), h.ge, Nat.le_trans h.sz hk.size, h.bge⟩
theorem Rlw.rs (h : Rlw w wx B rb S s N N6 f row tc A c) : W.RS wx [rb] A (ints row) := by
  refine RV.avoids (RV.own h.own) fun ad hA => ?_
  have := (RV.own_block h.own hA).1
  have := h.dw.lt
  have := h.ge
  simp
  omega
theorem Rlw.app (h : Rlw w wx B rb S s N N6 f row tc A c) {o : Obj} {A' : Option Addr} {c' x : Nat} (hown : w'.ownsRow N6 3 1 (.slice A' (row.length + 1) c') (row.length + 1) (ints row ++ [Value.int .i64 (x : Nat)])) (hg : (wx.alloc o).grownBy w' (Value.slice A row.length c).ownBlock) :
    Rlw w w' B rb S s N N6 f (row ++ [x]) tc A' c' := by
  have hal : Kp [] wx (wx.alloc o) := (Kp.refl _ _).alloc _
  have ho2 : (wx.alloc o).ownsRow N6 3 1 (.slice A row.length c) row.length (ints row) := h.own.alloc _
  obtain ⟨T, hT1, hT2⟩ := grown_kpe ho2 hg
  have hd1 := h.dw.keep hal
  have hlen : (row ++ [x]).length = row.length + 1 := by rw [List.length_append]; rfl
  refine ⟨hd1.apart hT1 (fun k hm => by have := (hT2 k hm).1; have := h.ge; omega), ?_, ?_, h.ge, Nat.le_trans h.sz (Nat.le_trans hal.size hT1.size), h.bge⟩
  · rw [hlen, show ints (row ++ [x]) = ints row ++ [Value.int .i64 (x : Nat)] by simp [ints]]
    exact hown
  · refine (h.tr.fr (Fr.of_kp (B := B) hal (by simp))).fr (Fr.of_kp (B := B) hT1 fun k hm => .inr ?_)
    obtain ⟨h1, cs, h2⟩ := hT2 k hm
    exact ⟨by have := h.ge; have := h.bge; omega, cs, _, h2, by decide, by decide, by decide⟩
end
end Go.Proofs.YtdpnlmofkkdioaaDoor.Hf
/- The reference's run: dynamic. -/
namespace Go.Proofs.YtdpnlmofkkdioaaDoor.Hf
set_option linter.unusedVariables false
set_option linter.unusedSimpArgs false
open Go.RowKit Go.Proofs.YtdpnlmofkkdioaaDoor.W
attribute [local go_sem ↓] Go.wp_at_zero Go.wp_at_succ

theorem SyEnd.from {S : Sr} {s s2 s' : RS} {last : Bool} (h : SyEnd S s2 last s') (hb : s.bit ≤ s2.bit) : SyEnd S s last s' := by
  rcases h with ⟨m', h1, h2, h3, h4, h5⟩ | h
  · exact .inl ⟨m', h1, h2, h3, h4, Nat.le_trans hb h5⟩
  · exact .inr h
set_option maxHeartbeats 8000000 in
set_option maxRecDepth 100000 in
theorem r_dynamic (w : World) (B rb : Nat) (S : Sr) (s : RS) (m : M) (h : Rn w B rb S s) (hM : Mc S s m) (hph : m.ph = .cts) (hf : m.fin = false) (hb : 0 < s.bit) (hm : S.most ≤ 1048576) :
    Calls Tryd.prog 29 #[.pointer (some ⟨rb, 0, none⟩)] w (SyPost w B rb S s m.last) := by
  have hstep := step_cts (out := s.out) (bs := (bits8 S.l).drop s.bit) hph
  rw [bs_len] at hstep
  have cN := r_number w B rb S s 14 h (by omega)
  have H := Lib.hid h
  have HM := Lib.hid hM
  have HF := Lib.hid hf
  have HB0 := Lib.hid hb
  clear h hM hph hf hb
  by_cases hA : s.bit + 14 ≤ 8 * S.l.length
  · obtain ⟨e1, e2⟩ := num_on hA
    rw [e1, e2] at cN
    rw [if_pos (by omega)] at hstep
    obtain ⟨V, hVV⟩ : ∃ V, Hf.num (((bits8 S.l).drop s.bit).take 14) = V := ⟨_, rfl⟩
    have hV := num_take_lt ((bits8 S.l).drop s.bit) (n := 14)
    have hp14 : (2 : Nat) ^ 14 = 16384 := by decide
    rw [hVV, hp14] at hV
    rw [hVV] at cN hstep
    have CN := Lib.hid cN
    unfold ctsM at hstep
    dsimp only at hstep
    obtain ⟨a, ha⟩ : ∃ a, 257 + V % 32 = a := ⟨_, rfl⟩
    obtain ⟨b, hb⟩ : ∃ b, 1 + V / 32 % 32 = b := ⟨_, rfl⟩
    obtain ⟨c, hc⟩ : ∃ c, 4 + V / 1024 = c := ⟨_, rfl⟩
    rw [ha, hb, hc] at hstep
    have ea : 257 + (V : Int) % 32 = (a : Int) := by omega
    have eb : 1 + (V : Int) / 32 % 32 = (b : Int) := by omega
    have ec : 4 + (V : Int) / 1024 = (c : Int) := by omega
    have qa : 257 ≤ a ∧ a ≤ 288 := by omega
    have qb : 1 ≤ b ∧ b ≤ 32 := by omega
    have qc : 4 ≤ c ∧ c ≤ 19 := by omega
    have HB1 := Lib.hid (show 0 < (s.on 14).bit by show 0 < s.bit + 14; omega)
    clear cN e1 e2 hVV ha hb hc
    by_cases hbad : a > 286 ∨ b > 30
    · rw [if_pos hbad] at hstep
      have HE := Lib.hid (HM.out.halt HF.out hstep (by show (12 : Nat) ≠ 0; decide) HF.out)
      have i1 : (286 : Int) < (a : Int) ∨ ¬ (286 : Int) < (a : Int) ∧ (30 : Int) < (b : Int) := by omega
      clear hstep hbad
      rcases i1 with i1 | ⟨i1, i2⟩
      all_goals
        go_enter Tryd.func29, Tryd.ntmps29
        go_wp2_with (first
          | (go_at_call 24; go_must (refine CN.out.mono ?_); rintro e w2 ⟨rfl, hr2, hk2, -⟩; have HR2 := Lib.hid hr2; have HK2 := Lib.hid hk2; clear hr2 hk2)
          | (go_at_call 23; go_must (refine (r_open w2 B rb S (s.on 14) HR2.out HM.out.why HM.out.en).mono ?_); rintro e w3 ⟨rfl, rfl⟩)
          | (go_at_call 30; go_must (refine (r_stop w2 B rb S _ 12 HR2.out HB1.out).mono ?_); rintro e w5 ⟨rfl, hr5, hk5, -⟩))
        refine bodyPost_ret (results_none rfl _ _ _) rfl ?_
        exact ⟨rfl, _, hr5, (H.out.fr HK2.out).trans (HR2.out.fr hk5), .inr HE.out⟩
    · rw [if_neg hbad] at hstep
      have i1 : ¬ (286 : Int) < (a : Int) := by omega
      have i2 : ¬ (30 : Int) < (b : Int) := by omega
      obtain ⟨D, hD⟩ : ∃ D : Dy, D = ⟨a, b, c, m.last⟩ := ⟨_, rfl⟩
      have HD := Lib.hid (show D.a = a ∧ D.b = b ∧ D.c = c ∧ D.last = m.last by rw [hD]; exact ⟨rfl, rfl, rfl, rfl⟩)
      have hM1 := HM.out.next HF.out hstep HM.out.mw
      have HL0 := Lib.hid (show Lol S s D 0 (List.replicate 19 0) (s.on 14) from ⟨by simp, fun x hx => by rw [(List.mem_replicate.1 hx).2]; omega, .inl ⟨by rw [HD.out.2.2.1]; omega, Nat.le_add_right _ _, _, hM1, rfl, rfl, rfl, HD.out.2.2.1.symm, HD.out.1.symm, by rw [HD.out.1, HD.out.2.1], HD.out.2.2.2.symm, HF.out⟩⟩)
      clear hstep hbad hM1 hD
      obtain ⟨cs0, hcs0⟩ : ∃ cs0, (ints (List.replicate 19 0)).toArray = cs0 := ⟨_, rfl⟩
      have HCS0 := Lib.hid hcs0
      have hmk : ∀ w, (Instr.makeSlice 29 (.int .i64 19) (.int .i64 19)).run Tryd.prog w = .ok (.slice (some ⟨w.heap.size, 0, none⟩) 19 19) (w.alloc (.cells cs0 3)) := fun w => by
        have h9 := run_mk (P := Tryd.prog) int8 .i64 .i64 (Nat.le_refl 19) (by omega) (by omega) w
        rw [show madeCells (Value.int .i64 0).cells 19 = cs0 by rw [← hcs0]; kernel_rfl] at h9
        exact h9
      clear hcs0
      go_enter Tryd.func29, Tryd.ntmps29
      go_upto_block 0 with (first
        | (go_at_call 24; go_must (refine CN.out.mono ?_); rintro e w2 ⟨rfl, hr2, hk2, -⟩; have HR2 := Lib.hid hr2; have HK2 := Lib.hid hk2; clear hr2 hk2)
        | (go_at_call 23; go_must (refine (r_open w2 B rb S (s.on 14) HR2.out HM.out.why HM.out.en).mono ?_); rintro e w3 ⟨rfl, rfl⟩)
        | (go_at_call 47; go_must (refine (r_order w2).mono ?_); rintro e w3 ⟨rfl, rfl⟩))
      have hrb2 := HR2.out.lt
      have HDW := Lib.hid (show Dw w ((w2.alloc (.cells (ints ord).toArray 3)).alloc (.cells cs0 3)) B rb S (s.on 14) w2.heap.size (List.replicate 19 0) from by
        have k1 : Kp [] w2 (w2.alloc (.cells (ints ord).toArray 3)) := (Kp.refl _ _).alloc _
        have k2 : Kp [] (w2.alloc (.cells (ints ord).toArray 3)) ((w2.alloc (.cells (ints ord).toArray 3)).alloc (.cells cs0 3)) := (Kp.refl _ _).alloc _
        have k3 := k1.trans k2
        have s1 : (w2.alloc (.cells (ints ord).toArray 3)).heap.size = w2.heap.size + 1 := by simp
        refine ⟨HR2.out.below k3, HR2.out.hi.rw (Rw.kp k3 HR2.out.lt), (H.out.fr HK2.out).new k3 (by simp), (k2.block _ (by omega) (by simp)).trans (heap_alloc_new w2 _), ?_, hrb2, HK2.out.size⟩
        have h9 := heap_alloc_new (w2.alloc (.cells (ints ord).toArray 3)) (.cells cs0 3)
        rw [s1] at h9
        rw [h9, ← HCS0.out])
      have es1 : (w2.alloc (.cells (ints ord).toArray 3)).heap.size = w2.heap.size + 1 := by simp
      try rw [es1]
      change Code.wp _ _ _ _ ((w2.alloc (.cells (ints ord).toArray 3)).alloc (.cells cs0 3))
      generalize (w2.alloc (.cells (ints ord).toArray 3)).alloc (.cells cs0 3) = w4 at *
      generalize w2.heap.size = N at *
      clear es1 hmk HCS0
      obtain ⟨s1, hs1⟩ : ∃ s1, s.on 14 = s1 := ⟨_, rfl⟩
      have HS1 := Lib.hid (show s.bit ≤ s1.bit from by rw [← hs1]; exact Nat.le_add_right _ _)
      rw [hs1] at HDW HL0 HB1
      clear hs1
      go_cut [] (fun wz => ∃ f s', Dw w wz B rb S s' N f ∧ Hid (Lol S s D c f s' ∨ En S s'))
      case first =>
        go_wp2_with (fail)
        go_loopg [8] c (fun g s8 wx => ∃ i f s', i + g = c ∧ s8 = .int .i64 (i : Nat) ∧ Dw w wx B rb S s' N f ∧ Hid (Lol S s D i f s'))
        case atStart => exact ⟨0, _, s1, by omega, rfl, HDW.out, Lib.hid HL0.out⟩
        case round =>
          obtain ⟨i, f, s', hig, rfl, hdw, hL⟩ := hrel
          have HDr := Lib.hid hdw
          clear hdw HDW HL0
          cases gk with
          | zero =>
            obtain rfl : i = c := by omega
            have hk : ¬ (i : Int) < (i : Int) := by omega
            go_wp2_with (fail)
            go_meet
            exact ⟨f, s', HDr.out, Lib.hid (.inl hL.out)⟩
          | succ g =>
            have hk : (i : Int) < (c : Int) := by omega
            obtain ⟨hfl, hf7, hcs⟩ := hL.out
            rcases hcs with ⟨hic, hbb, m', hM', hd'⟩ | ⟨hic, _⟩ | hE
            · have HM' := Lib.hid hM'
              have HOP := Lib.hid (show s'.why = 0 ∧ s'.en = false from ⟨hM'.why, hM'.en⟩)
              have HST := Lib.hid (Lol.stp (by rw [HD.out.2.2.1]; omega) hfl hf7 hic hbb hM' hd')
              obtain ⟨v, hv⟩ : ∃ v, numV s' S 3 = v := ⟨_, rfl⟩
              obtain ⟨j, hj⟩ : ∃ j, ord.getD i 0 = j := ⟨_, rfl⟩
              have hj19 : j < 19 := by rw [← hj]; exact (show ∀ i : _root_.Fin 19, ord.getD i.val 0 < 19 by decide +kernel) ⟨i, by omega⟩
              have hoi : ord[i]? = some j := by
                rw [List.getD_eq_getElem?_getD] at hj
                rw [List.getElem?_eq_getElem (show i < ord.length by show i < 19; omega)] at hj ⊢
                exact congrArg some hj
              rw [hv, hj] at HST
              clear hM' hd' hj
              go_upto_region 10 with (first
                | (go_at_call 23; go_must (refine (r_open _ B rb S s' HDr.out.rn HOP.out.1 HOP.out.2).mono ?_); rintro e w5 ⟨rfl, rfl⟩))
              have z1 : wr.cell? ⟨N, i, none⟩ = some (.int .i64 (j : Nat)) := HDr.out.at_ hoi
              have z2 : wr.drew.cell? ⟨N, i, none⟩ = some (.int .i64 (j : Nat)) := z1
              have hkd : Kp [] wr wr.drew := (Kp.refl _ _).drew
              have HDd := Lib.hid (HDr.out.keep hkd)
              have cN3 := r_number wr.drew B rb S s' 3 HDd.out.rn (by omega)
              rw [hv] at cN3
              have CN3 := Lib.hid cN3
              have b1 : (0 : Int) ≤ (i : Int) := by omega
              have b2 : (i : Int) < 19 := by omega
              have b3 : (0 : Int) ≤ (j : Int) := by omega
              have b4 : (j : Int) < 19 := by omega
              obtain ⟨x, hx⟩ : ∃ x, f[j]? = some x := ⟨_, List.getElem?_eq_getElem (by omega)⟩
              have HX := Lib.hid hx
              clear cN3 hkd hv hfl hf7 hx
              have HOI := Lib.hid hoi
              clear hoi
              go_region_held3 (fun w' => w'.cell? ⟨N, i, none⟩ = some (.int .i64 (j : Nat))) (first | exact z2 | exact z1 | exact g8 | (rw [World.cell?_setCell_far _ _ _ _ (by simp)]; exact g8))
                (first
                  | (go_at_call 24; go_must (refine CN3.out.mono ?_); rintro e w5 ⟨rfl, hr5, hk5, hw5⟩; have hd5 := HDd.out.call hr5 hk5 hw5; have g8 := hd5.at_ HOI.out; have g9 := hd5.fat HX.out; have g10 := hd5.ffz; have g11 := hd5.flt; have HD5 := Lib.hid hd5; clear hr5 hk5 hw5 hd5))
              go_wp2_with (fail)
              go_roundg g
              case measure => omega
              case rel => exact ⟨i + 1, _, _, by omega, by go_num, HD5.out.set j v, HST⟩
            · have := HD.out.2.2.1
              omega
            · have HE := Lib.hid hE
              clear hE
              go_wp2_with (first
                | (go_at_call 23; go_must (refine (r_shut _ B rb S s' HDr.out.rn HE.out.2).mono ?_); rintro e w5 ⟨rfl, rfl⟩))
              go_meet
              exact ⟨f, s', HDr.out, Lib.hid (.inr HE.out)⟩
      case rest =>
        obtain ⟨f, s', hdw, hL⟩ := hcut
        have HDw := Lib.hid hdw
        have hcases : En S s' ∨ (s.bit ≤ s'.bit ∧ s'.why = 0 ∧ s'.en = false ∧ f.length = 19 ∧ (∀ x ∈ f, x ≤ 7) ∧ ((kraft f = 32768 ∧ ∃ m, Mc S s' m ∧ lenR D m f []) ∨ (kraft f ≠ 32768 ∧ En S (s'.stop 12)))) := by
          rcases hL.out with ⟨h1, h2, h3⟩ | h
          · rcases h3 with ⟨h4, _⟩ | ⟨_, h5, h6, h7, h8⟩ | h
            · have := HD.out.2.2.1; omega
            · exact .inr ⟨h5, h6, h7, h1, h2, h8⟩
            · exact .inl h
          · exact .inl h
        clear hdw hL HDW HL0
        rcases hcases with hE | ⟨hbb, hw0, hen, hfl, hf7, hkr⟩
        · have HE := Lib.hid hE
          clear hE
          go_wp2_with (first
            | (go_at_call 23; go_must (refine (r_shut _ B rb S s' HDw.out.rn HE.out.2).mono ?_); rintro e w5 ⟨rfl, rfl⟩))
          refine bodyPost_ret (results_none rfl _ _ _) rfl ?_
          exact ⟨rfl, s', HDw.out.rn, HDw.out.fr, .inr HE.out⟩
        have HOP := Lib.hid (show s'.why = 0 ∧ s'.en = false from ⟨hw0, hen⟩)
        have HBs := Lib.hid (show 0 < s'.bit by have := HB0.out; omega)
        have hRV := HDw.out.rvF
        have cK := r_kraft (some ⟨N + 1, 0, none⟩) 19 19 f _ hfl (by omega) (fun n hn => by have := hf7 n hn; omega) hRV
        unfold KraftPost at cK
        rcases hkr with ⟨hk1, m1, hM1, hl1⟩ | ⟨hk1, hE⟩
        · rw [hk1] at cK
          have CK := Lib.hid cK
          have HM1 := Lib.hid hM1
          have HL1 := Lib.hid hl1
          have cNw := r_new (some ⟨N + 1, 0, none⟩) 19 19 f _ hfl (by omega) (fun n hn => by have := hf7 n hn; omega) hRV
          have CNW := Lib.hid cNw
          have HOKF := Lib.hid (newOk_full hk1)
          have HTABF := Lib.hid (show Tab f from newOk_tab (newOk_full hk1) (fun n hn => by have := hf7 n hn; omega))
          have HFL := Lib.hid hfl
          have HKF := Lib.hid hk1
          clear hM1 hl1 cNw cK hk1 hRV hfl hf7 hw0 hen
          go_upto_block 2 with (first
            | (go_at_call 23; go_must (refine (r_open _ B rb S s' HDw.out.rn HOP.out.1 HOP.out.2).mono ?_); rintro e w5 ⟨rfl, rfl⟩)
            | (go_at_call 44; go_must (refine CK.out.mono ?_); rintro e w5 ⟨rfl, rfl⟩)
            | (go_at_call 27; go_must (refine CNW.out.mono ?_); rintro e w6 ⟨pt, er, rfl, hok6, -, hk6⟩; obtain ⟨rfl, tc, rfl, htr⟩ := hok6 HOKF.out; have HTR := Lib.hid htr; have HK6 := Lib.hid hk6; clear hok6 htr hk6))
          have HLW := Lib.hid (show Rlw w w6 B rb S s' N w6.heap.size f [] tc none 0 from ⟨HDw.out.keep HK6.out, World.ownsRow_nil _ _ _ _, HTR.out, (HDw.out.keep HK6.out).flt, Nat.le_refl _, by have h1 := H.out.sz; have h2 := HDw.out.ge; omega⟩)
          have HLE0 := Lib.hid (show Len S s D f [] s' from ⟨hbb, HOP.out.1, HOP.out.2, fun x hx => (by cases hx), .inl ⟨by rw [HD.out.1, HD.out.2.1]; show 0 < _; omega, _, HM1.out, HL1.out⟩⟩)
          clear HTR HK6 CNW CK HM1 HL1 HDw
          generalize w6.heap.size = N6 at *
          go_wp2_with (fail)
          go_loopg [13] (a + b) (fun g s13 wx => ∃ (A : Option Addr) (cc n : Nat) (row : List Nat) (s2 : RS), n ≤ a + b ∧ a + b - n = g ∧ s13 = .slice A n cc ∧ Hid (row.length = n) ∧ Rlw w wx B rb S s2 N N6 f row tc A cc ∧ Hid (Len S s D f row s2))
          case atStart => exact ⟨none, 0, 0, [], s', by omega, by omega, rfl, Lib.hid rfl, HLW.out, Lib.hid HLE0.out⟩
          case round =>
            obtain ⟨A, cc, n, row, s2, hnl, hng, rfl, hrl, hlw, hlen⟩ := hrel
            have HLw := Lib.hid hlw
            clear hlw HLW HLE0
            obtain ⟨hb2, hw2, hen2, h15, hcs⟩ := hlen.out
            have HBs2 := Lib.hid (show 0 < s2.bit by have := HB0.out; omega)
            have HO2 := Lib.hid (show s2.why = 0 ∧ s2.en = false ∧ s.bit ≤ s2.bit from ⟨hw2, hen2, hb2⟩)
            have H15 := Lib.hid h15
            by_cases hlt : n < a + b
            · have hli : (n : Int) < (a : Int) + (b : Int) := by omega
              obtain ⟨m2, hM2, hl2⟩ : ∃ m, Mc S s2 m ∧ lenR D m f row := by
                rcases hcs with ⟨_, h⟩ | ⟨h, _⟩
                · exact h
                · have h1 := hrl.out; have h2 := HD.out.1; have h3 := HD.out.2.1; omega
              have cS := r_sym2 _ B rb S s s2 D f row tc m2 HLw.out.dw.rn HLw.out.tr HTABF.out HFL.out HKF.out HBs2.out HO2.out.2.2 hM2 hl2 h15
              unfold SymP at cS
              have CS := Lib.hid cS
              have tk1 : True := trivial
              have tk2 : True := trivial
              clear hM2 hl2 cS hb2 hw2 hen2 h15 hcs hlen
              go_upto_region 19 with (first
                | (go_at_call 45; go_must (refine CS.out.mono ?_); rintro e w8 ⟨y, s3, rfl, hr3, hk3, hw3, hcs3⟩; have HR3 := Lib.hid hr3; have HL8 := Lib.hid (HLw.out.call hr3 hk3 hw3); clear hr3 hk3 hw3))
              rcases hcs3 with hE | ⟨hw3, he3, hy18, hb3, hrep⟩
              · have HE := Lib.hid hE
                clear hE
                go_wp2_with (first
                  | (go_at_call 23; go_must (refine (r_shut _ B rb S s3 HR3.out HE.out.2).mono ?_); rintro e w9 ⟨rfl, rfl⟩))
                refine bodyPost_ret (results_none rfl _ _ _) rfl ?_
                exact ⟨rfl, s3, HR3.out, HL8.out.dw.fr, .inr HE.out⟩
              have HO3 := Lib.hid (show s3.why = 0 ∧ s3.en = false ∧ s.bit ≤ s3.bit from ⟨hw3, he3, hb3⟩)
              have cR := r_rep2 w8 B rb S s s3 D f row y A n cc HR3.out (by have := HB0.out; omega) hb3 hrl.out (by omega) HL8.out.rs H15.out hy18 hw3 he3 hrep
              unfold RepP at cR
              have CR := Lib.hid cR
              clear cR hw3 he3 hb3 hrep
              go_upto_region 21 with (first
                | (go_at_call 23; go_must (refine (r_open _ B rb S s3 HR3.out HO3.out.1 HO3.out.2.1).mono ?_); rintro e w9 ⟨rfl, rfl⟩)
                | (go_at_call 48; go_must (refine CR.out.mono ?_); rintro e w9 ⟨k, x, s4, rfl, hr4, hk4, hw4, hcs4⟩; have HR4 := Lib.hid hr4; have HL9 := Lib.hid (HL8.out.call hr4 hk4 hw4); clear hr4 hk4 hw4))
              rcases hcs4 with hE | ⟨hw4, he4, hb4, hk1, hk2, hcs5⟩
              · have HE := Lib.hid hE
                clear hE
                go_wp2_with (first
                  | (go_at_call 23; go_must (refine (r_shut _ B rb S s4 HR4.out HE.out.2).mono ?_); rintro e w9 ⟨rfl, rfl⟩))
                refine bodyPost_ret (results_none rfl _ _ _) rfl ?_
                exact ⟨rfl, s4, HR4.out, HL9.out.dw.fr, .inr HE.out⟩
              have HO4 := Lib.hid (show s4.why = 0 ∧ s4.en = false ∧ s.bit ≤ s4.bit from ⟨hw4, he4, hb4⟩)
              have HB4 := Lib.hid (show 0 < s4.bit by have := HB0.out; omega)
              clear hw4 he4 hb4
              rw [hrl.out, HD.out.1, HD.out.2.1] at hcs5
              rcases hcs5 with ⟨hov, hE⟩ | ⟨hov, hL5⟩
              · have HE := Lib.hid hE
                have i5 : (a : Int) + (b : Int) < (n : Int) + (k : Int) := by omega
                clear hE
                go_wp2_with (first
                  | (go_at_call 23; go_must (refine (r_open _ B rb S s4 HR4.out HO4.out.1 HO4.out.2.1).mono ?_); rintro e wa ⟨rfl, rfl⟩)
                  | (go_at_call 30; go_must (refine (r_stop _ B rb S s4 12 HR4.out HB4.out).mono ?_); rintro e wa ⟨rfl, hra, hka, -⟩))
                refine bodyPost_ret (results_none rfl _ _ _) rfl ?_
                exact ⟨rfl, _, hra, HL9.out.dw.fr.trans (HR4.out.fr hka), .inr HE.out⟩
              have HL5 := Lib.hid hL5
              have i5 : ¬ (a : Int) + (b : Int) < (n : Int) + (k : Int) := by omega
              clear hL5
              go_upto_block 4 with (first
                | (go_at_call 23; go_must (refine (r_open _ B rb S s4 HR4.out HO4.out.1 HO4.out.2.1).mono ?_); rintro e wa ⟨rfl, rfl⟩))
              go_wp2_with (fail)
              go_loopg [13, 17] k (fun g s13 s17 wx => ∃ (i n' : Nat) (A' : Option Addr) (c' : Nat), i + g = k ∧ (n' ≤ n + i ∧ n + i ≤ n') ∧ s17 = .int .i64 (i : Nat) ∧ s13 = .slice A' n' c' ∧ Hid ((row ++ List.replicate i x).length = n') ∧ Rlw w wx B rb S s4 N N6 f (row ++ List.replicate i x) tc A' c')
              case atStart => exact ⟨0, n, A, cc, by omega, by omega, rfl, rfl, Lib.hid (by rw [List.replicate_zero, List.append_nil]; exact hrl.out), by rw [List.replicate_zero, List.append_nil]; exact HL9.out⟩
              case round =>
                obtain ⟨i, n', A', c', hik, ⟨hn', hn2'⟩, rfl, rfl, hri, hli⟩ := hrel
                have HLi := Lib.hid hli
                clear hli
                cases gk with
                | zero =>
                  obtain rfl : i = k := by omega
                  have hk : ¬ (i : Int) < (i : Int) := by omega
                  go_wp2_with (fail)
                  go_roundg (a + b - n')
                  case measure => omega
                  case rel => exact ⟨A', c', n', _, s4, by omega, rfl, rfl, hri, HLi.out, HL5⟩
                | succ g' =>
                  have hk : (i : Int) < (k : Int) := by omega
                  have HOi := Lib.hid (show (wr.alloc (.cells #[.int .i64 (x : Nat)] 3)).ownsRow N6 3 1 (.slice A' n' c') n' (ints (row ++ List.replicate i x)) from by have h9 := HLi.out.own; rw [hri.out] at h9; exact h9.alloc _)
                  have HNW := Lib.hid (RV.new (w := wr) #[Value.int .i64 (x : Nat)] 3)
                  have HON := Lib.hid (show ∀ u ∈ [Value.int .i64 (x : Nat)], u.oneCell' = true from by intro u hu; rw [List.mem_singleton.1 hu]; rfl)
                  have hsz := HLi.out.sz
                  go_wp2_with (first
                    | (at_builtin; go_must (refine wpList_ap int8 rfl _ _ rfl rfl HOi.out rfl (m := 1) (news := [Value.int .i64 (x : Nat)]) rfl HNW.out HON.out (by unfold maxLen; omega) (by omega) (by simp; omega) ?_); intro A3 c3' w3 hown hgrow hob hcap; have hgrow2 : (wr.alloc (.cells #[.int .i64 (x : Nat)] 3)).grownBy w3 (Value.slice A' n' c').ownBlock := hgrow; have HOW := Lib.hid hown; have HGR := Lib.hid hgrow2; clear hown hgrow hgrow2 hob))
                  go_roundg g'
                  case measure => omega
                  case rel =>
                    refine ⟨i + 1, n' + 1, A3, c3', by omega, by omega, by go_num, rfl, Lib.hid ?_, ?_⟩
                    · rw [List.replicate_succ', ← List.append_assoc, List.length_append, hri.out]; rfl
                    · rw [List.replicate_succ', ← List.append_assoc]
                      refine HLi.out.app (c' := c3') (A' := A3) ?_ (by rw [hri.out]; exact HGR.out)
                      rw [hri.out]
                      exact HOW.out
            · obtain rfl : n = a + b := by omega
              have hlf : ¬ ((a + b : Nat) : Int) < (a : Int) + (b : Int) := by omega
              have hend : ((newOk (row.take D.a) && (newOk (row.drop D.a) && decide (row.getD 256 0 ≠ 0))) = true ∧ ∃ m, Mc S s2 m ∧ m.ph = .lit ∧ m.lt = row.take D.a ∧ m.ds = row.drop D.a ∧ m.last = D.last ∧ m.fin = false) ∨ ((newOk (row.take D.a) && (newOk (row.drop D.a) && decide (row.getD 256 0 ≠ 0))) = false ∧ En S (s2.stop 12)) := by
                rcases hcs with ⟨h, _⟩ | ⟨_, h⟩
                · have h1 := hrl.out; have h2 := HD.out.1; have h3 := HD.out.2.1; omega
                · exact h
              rw [HD.out.1] at hend
              obtain ⟨g, rfl⟩ : ∃ g, A = some ⟨g, 0, none⟩ := by
                rcases HLw.out.own.2 with ⟨h1, h2⟩ | ⟨g, cap, cur, h1, _⟩
                · have h9 := hrl.out; have h10 : (ints row).length = row.length := List.length_map ..; rw [h2] at h10; simp at h10; omega
                · injection h1 with h1; exact ⟨g, h1⟩
              have hcc : a + b ≤ cc := by have h9 := (own_cap HLw.out.own).1; rw [hrl.out] at h9; exact h9
              have hccm : cc ≤ 9223372036854775807 := (own_cap HLw.out.own).2
              obtain ⟨n, hn⟩ : ∃ n, a + b = n := ⟨_, rfl⟩
              rw [hn] at hcc hlf hrl ⊢
              have q1 : (0 : Int) ≤ (a : Int) := by omega
              have q2 : (a : Int) ≤ (cc : Int) := by omega
              have q3 : (a : Int) ≤ (n : Int) := by omega
              have q4 : (n : Int) ≤ (cc : Int) := by omega
              clear hcs hlen hb2 hw2 hen2
              have hLn : ints row = ints row := rfl
              have hRVa : RV wr (some ⟨g, 0, none⟩) (ints (row.take a)) := by
                rw [show ints (row.take a) = (ints row).take a by simp [ints]]
                exact (RV.own HLw.out.own).take a
              have hRVb : RV wr (some ⟨g, a, none⟩) (ints (row.drop a)) := by
                rw [show ints (row.drop a) = (ints row).drop a by simp [ints]]
                have h9 := (RV.own HLw.out.own).drop a
                rw [Nat.zero_add] at h9
                exact h9
              have hla : (row.take a).length = a := by rw [List.length_take, hrl.out]; omega
              have hlb : (row.drop a).length = n - a := by rw [List.length_drop, hrl.out]
              have CA := Lib.hid (r_new (some ⟨g, 0, none⟩) a cc (row.take a) wr hla (by omega) (fun x hx => H15.out x (List.mem_of_mem_take hx)) hRVa)
              have CB := Lib.hid (fun (w' : World) (hk : Kp [] wr w') => r_new (some ⟨g, a, none⟩) (n - a) (cc - a) (row.drop a) w' hlb (by omega) (fun x hx => H15.out x (List.mem_of_mem_drop hx)) (hRVb.below (hk.below (Nat.le_refl _) (by simp))))
              obtain ⟨z, hz⟩ : ∃ z, row[256]? = some z := ⟨_, List.getElem?_eq_getElem (by rw [hrl.out]; omega)⟩
              have HZ := Lib.hid hz
              have hz1 : row.getD 256 0 = z := by rw [List.getD_eq_getElem?_getD, hz]; rfl
              rw [hz1] at hend
              have HEND := Lib.hid hend
              clear hLn hRVa hRVb hla hlb hz hz1 hend
              have HC := Lib.hid (fun (w' : World) (hk : Kp [] wr w') => show w'.cell? ⟨g, 256, none⟩ = some (.int .i64 (z : Nat)) from by
                have h9 := own_elem HLw.out.own (j := 256) (v := .int .i64 (z : Nat)) (by simp [ints, HZ.out])
                exact (World.cell?_of_block (a := ⟨g, 256, none⟩) (hk.block g (own_lt HLw.out.own) (by simp))).trans h9)
              have q5 : (256 : Int) < (n : Int) := by omega
              by_cases hz0 : z = 0
              · have HEN := Lib.hid (show En S (s2.stop 12) from by
                  rcases HEND.out with ⟨h, _⟩ | ⟨_, h⟩
                  · rw [hz0] at h; simp at h
                  · exact h)
                have i6 : ((z : Int) == 0) = true := W.eqT (by omega)
                clear hz0
                have tk3 : True := trivial
                go_wp2_with (first
                  | (go_at_call 27; have _t := tk3; go_must (refine CA.out.mono ?_); rintro e wa ha; obtain ⟨pa, ea, rfl, hka⟩ := ha.any; have HKa := Lib.hid hka; clear hka; clear tk3 _t)
                  | (go_at_call 27; go_must (refine (CB.out _ HKa.out).mono ?_); rintro e wb hb; obtain ⟨pb, eb, rfl, hkb⟩ := hb.any; have HKb := Lib.hid hkb; clear hkb; have HKc := Lib.hid (HKa.out.trans HKb.out); have z256 := HC.out wb HKc.out)
                  | (go_at_call 30; go_must (refine (r_stop _ B rb S s2 12 (HLw.out.dw.keep HKc.out).rn HBs2.out).mono ?_); rintro e wc ⟨rfl, hrc, hkc, -⟩))
                refine bodyPost_ret (results_none rfl _ _ _) rfl ?_
                exact ⟨rfl, _, hrc, (HLw.out.dw.keep HKc.out).fr.trans ((HLw.out.dw.keep HKc.out).rn.fr hkc), .inr HEN.out⟩
              have i6 : ((z : Int) == 0) = false := W.eqF (by omega)
              cases hb1 : newOk (row.take a) with
              | false =>
                have HEN := Lib.hid (show En S (s2.stop 12) from by
                  rcases HEND.out with ⟨h, _⟩ | ⟨_, h⟩
                  · rw [hb1] at h; simp at h
                  · exact h)
                have HNa := Lib.hid hb1
                clear hb1 hz0
                have tk3 : True := trivial
                go_wp2_with (first
                  | (go_at_call 27; have _t := tk3; go_must (refine CA.out.mono ?_); rintro e wa ha; obtain ⟨pa, ea, rfl, fa1, fa2, hka⟩ := ha.not HNa.out; have HKa := Lib.hid hka; clear hka; clear tk3 _t)
                  | (go_at_call 27; go_must (refine (CB.out _ HKa.out).mono ?_); rintro e wb hb; obtain ⟨pb, eb, rfl, hkb⟩ := hb.any; have HKb := Lib.hid hkb; clear hkb; have HKc := Lib.hid (HKa.out.trans HKb.out); have z256 := HC.out wb HKc.out)
                  | (go_at_call 30; go_must (refine (r_stop _ B rb S s2 12 (HLw.out.dw.keep HKc.out).rn HBs2.out).mono ?_); rintro e wc ⟨rfl, hrc, hkc, -⟩))
                refine bodyPost_ret (results_none rfl _ _ _) rfl ?_
                exact ⟨rfl, _, hrc, (HLw.out.dw.keep HKc.out).fr.trans ((HLw.out.dw.keep HKc.out).rn.fr hkc), .inr HEN.out⟩
              | true =>
                cases hb2 : newOk (row.drop a) with
                | false =>
                  have HEN := Lib.hid (show En S (s2.stop 12) from by
                    rcases HEND.out with ⟨h, _⟩ | ⟨_, h⟩
                    · rw [hb2] at h; simp at h
                    · exact h)
                  have HNa := Lib.hid hb1
                  have HNb := Lib.hid hb2
                  clear hb1 hb2 hz0
                  have tk3 : True := trivial
                  go_wp2_with (first
                    | (go_at_call 27; have _t := tk3; go_must (refine CA.out.mono ?_); rintro e wa ha; obtain ⟨ta, rfl, hta, hka⟩ := ha.yes HNa.out; have HTa := Lib.hid hta; have HKa := Lib.hid hka; clear hta hka; clear tk3 _t)
                    | (go_at_call 27; go_must (refine (CB.out _ HKa.out).mono ?_); rintro e wb hb; obtain ⟨pb, eb, rfl, fb1, fb2, hkb⟩ := hb.not HNb.out; have HKb := Lib.hid hkb; clear hkb; have HKc := Lib.hid (HKa.out.trans HKb.out); have z256 := HC.out wb HKc.out)
                    | (go_at_call 30; go_must (refine (r_stop _ B rb S s2 12 (HLw.out.dw.keep HKc.out).rn HBs2.out).mono ?_); rintro e wc ⟨rfl, hrc, hkc, -⟩))
                  refine bodyPost_ret (results_none rfl _ _ _) rfl ?_
                  exact ⟨rfl, _, hrc, (HLw.out.dw.keep HKc.out).fr.trans ((HLw.out.dw.keep HKc.out).rn.fr hkc), .inr HEN.out⟩
                | true =>
                  obtain ⟨m9, hM9, hp9, hl9, hd9, hla9, hf9⟩ : ∃ m, Mc S s2 m ∧ m.ph = .lit ∧ m.lt = row.take a ∧ m.ds = row.drop a ∧ m.last = D.last ∧ m.fin = false := by
                    rcases HEND.out with ⟨_, h⟩ | ⟨h, _⟩
                    · exact h
                    · rw [hb1, hb2] at h; simp at h; exact absurd h hz0
                  have HNa := Lib.hid hb1
                  have HNb := Lib.hid hb2
                  have CS := Lib.hid (fun (w' : World) (hk : Kp [] wr w') (pa pb : Nat) (hta : Tr w' pa (row.take a)) (htb : Tr w' pb (row.drop a)) => r_symbols w' B rb S s2 m9 pa pb (HLw.out.dw.keep hk).rn hM9 hp9 hf9 (by rw [hl9]; exact hta) (by rw [hd9]; exact htb) HBs2.out hm)
                  rw [hla9, HD.out.2.2.2] at CS
                  clear hb1 hb2 hz0 hM9 hp9 hl9 hd9 hla9 hf9
                  have tk3 : True := trivial
                  go_wp2_with (first
                    | (go_at_call 27; have _t := tk3; go_must (refine CA.out.mono ?_); rintro e wa ha; obtain ⟨ta, rfl, hta, hka⟩ := ha.yes HNa.out; have HTa := Lib.hid hta; have HKa := Lib.hid hka; clear hta hka; clear tk3 _t)
                    | (go_at_call 27; go_must (refine (CB.out _ HKa.out).mono ?_); rintro e wb hb; obtain ⟨tb, rfl, htb, hkb⟩ := hb.yes HNb.out; have HTb := Lib.hid htb; have HKb := Lib.hid hkb; clear htb hkb; have HKc := Lib.hid (HKa.out.trans HKb.out); have z256 := HC.out wb HKc.out)
                    | (go_at_call 28; go_must (refine (CS.out wb HKc.out _ _ (HTa.out.fr (Fr.of_kp (B := B) HKb.out (by simp))) HTb.out).mono ?_); rintro e wc ⟨rfl, s9, hr9, hf9, he9⟩))
                  refine bodyPost_end (results_none rfl _ _ _) rfl ?_
                  exact ⟨rfl, s9, hr9, (HLw.out.dw.keep HKc.out).fr.trans hf9, he9.from HO2.out.2.2⟩
        · have HE := Lib.hid hE
          obtain ⟨K, hK⟩ : ∃ K, kraft f = K := ⟨_, rfl⟩
          rw [hK] at cK hk1
          have CK := Lib.hid cK
          have i3 : ((K : Int) == 32768) = false := W.eqF (by omega)
          have i4 : ((K : Int) != 32768) = true := W.neT (by omega)
          clear hE cK hK hRV hfl hf7 hw0 hen
          go_wp2_with (first
            | (go_at_call 23; go_must (refine (r_open _ B rb S s' HDw.out.rn HOP.out.1 HOP.out.2).mono ?_); rintro e w5 ⟨rfl, rfl⟩)
            | (go_at_call 44; go_must (refine CK.out.mono ?_); rintro e w5 ⟨rfl, rfl⟩)
            | (go_at_call 30; go_must (refine (r_stop _ B rb S _ 12 HDw.out.rn HBs.out).mono ?_); rintro e w5 ⟨rfl, hr5, hk5, -⟩))
          refine bodyPost_ret (results_none rfl _ _ _) rfl ?_
          exact ⟨rfl, _, hr5, HDw.out.fr.trans (HDw.out.rn.fr hk5), .inr HE.out⟩
  · obtain ⟨e1, e2⟩ := num_cut hA
    rw [e1, e2] at cN
    have CN := Lib.hid cN
    rw [if_neg (by omega)] at hstep
    have HE := Lib.hid (HM.out.cut HF.out hstep)
    clear cN e1 e2 hstep
    go_enter Tryd.func29, Tryd.ntmps29
    go_wp2_with (first
      | (go_at_call 24; go_must (refine CN.out.mono ?_); rintro e w2 ⟨rfl, hr2, hk2, -⟩; have HR2 := Lib.hid hr2; have HK2 := Lib.hid hk2; clear hr2 hk2)
      | (go_at_call 23; go_must (refine (r_shut w2 B rb S (s.cut S) HR2.out HE.out.2).mono ?_); rintro e w3 ⟨rfl, rfl⟩))
    refine bodyPost_ret (results_none rfl _ _ _) rfl ?_
    exact ⟨rfl, _, HR2.out, H.out.fr HK2.out, .inr HE.out⟩
end Go.Proofs.YtdpnlmofkkdioaaDoor.Hf
