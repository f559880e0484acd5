/- What the reference's files computes, and that its text computes it. -/
import Derived.Test.YtbmnedgoonaneaaWords
namespace Go.Proofs.Ytbmnedgoonaneaa.Sn
open Go.RowKit Go.Proofs.Ytbmnedgoonaneaa.W

theorem el8 : El Try.prog 22 5 (.int .u8 0) 1 := ⟨Try.underlying22, by kernel_rfl, rfl⟩
theorem el88 : El Try.prog 28 22 (.slice none 0 0) 24 := ⟨Try.underlying28, by kernel_rfl, rfl⟩

def padTo (l m : List Int) : List Int := l ++ m.drop l.length
def fill (l : List Int) : List Int := l ++ List.replicate (257 - l.length) 255
def ust (l : List Int) : List Int := l ++ ([117, 115, 116, 97, 114] : List Int).drop (l.length - 257)
def filesL (l : List Int) : List (List Int) := [l, padTo l [31, 139, 8], padTo l [80, 75, 3, 4], ust (fill l)]

theorem padTo_id {l m : List Int} (h : m.length ≤ l.length) : padTo l m = l := by simp [padTo, List.drop_eq_nil_of_le h]
theorem fill_id {l : List Int} (h : 257 ≤ l.length) : fill l = l := by simp [fill, Nat.sub_eq_zero_of_le h]
theorem fill_step {l : List Int} (h : l.length < 257) : fill (l ++ [255]) = fill l := by
  obtain ⟨k, hk⟩ : ∃ k, 257 - l.length = k + 1 := ⟨256 - l.length, by omega⟩
  have h2 : 257 - (l ++ [255]).length = k := by simp; omega
  rw [fill, fill, h2, hk, List.replicate_succ]
  simp
theorem ust_id {l : List Int} (h : 262 ≤ l.length) : ust l = l := by rw [ust, List.drop_eq_nil_of_le (by simp; omega)]; simp

theorem ust_one {y : List Int} {j : Nat} {v : Int} (h : y.length - 257 = j) (h1 : 257 ≤ y.length) (hv : ([117, 115, 116, 97, 114] : List Int)[j]? = some v) : ust (y ++ [v]) = ust y := by
  have e1 : (y ++ [v]).length - 257 = j + 1 := by rw [List.length_append, List.length_singleton, Nat.sub_add_comm h1, h]
  obtain ⟨hj, hv⟩ := List.getElem?_eq_some_iff.1 hv
  rw [ust, ust, e1, h, List.append_assoc, List.drop_eq_getElem_cons hj, hv]
  rfl
theorem us_at (j : Nat) (hh : j < (⟨#[117, 115, 116, 97, 114]⟩ : ByteArray).size) : ([117, 115, 116, 97, 114] : List Int)[j]? = some (((⟨#[117, 115, 116, 97, 114]⟩ : ByteArray)[j]'hh).toNat : Int) := by
  have h2 : j < 5 := hh
  match j, hh, h2 with
  | 0, _, _ => rfl
  | 1, _, _ => rfl
  | 2, _, _ => rfl
  | 3, _, _ => rfl
  | 4, _, _ => rfl

/-- The two rows of marks, and where they lie. -/
def Mk (w : World) (g : Option Nat) (M : Nat) : Prop :=
  RX w g (some ⟨M + 1 + 1 + 1, 0, none⟩) [.slice (some ⟨M + 1, 0, none⟩) 3 3, .slice (some ⟨M + 1 + 1, 0, none⟩) 4 4] ∧ RX w g (some ⟨M + 1, 0, none⟩) (u8s [31, 139, 8]) ∧ RX w g (some ⟨M + 1 + 1, 0, none⟩) (u8s [80, 75, 3, 4])
theorem Mk.kept {w w' : World} {g g' row : Option Nat} {M : Nat} (h : Mk w g M) (hg : w.grownBy w' row) (hr : row = g ∨ row = none) (hg' : g' = g ∨ g' = none ∨ ∃ k, g' = some k ∧ w.heap.size ≤ k) : Mk w' g' M :=
  ⟨h.1.kept hg hr hg', h.2.1.kept hg hr hg', h.2.2.kept hg hr hg'⟩
theorem Mk.at_ {w : World} {g : Option Nat} {M : Nat} (h : Mk w g M) {l : List Int} {i : Nat} (hi : i < 2) : ∃ (m : Nat) (ms : List Int), ms.length = m ∧ 3 ≤ m ∧ m ≤ 4 ∧ ∃ b, w.cell? ⟨M + 1 + 1 + 1, i, none⟩ = some (.slice (some ⟨b, 0, none⟩) m m) ∧
    RX w g (some ⟨b, 0, none⟩) (u8s ms) ∧ (filesL l).take (i + 1 + 1) = (filesL l).take (i + 1) ++ [padTo l ms] := by
  have hi : i = 0 ∨ i = 1 := by omega
  rcases hi with rfl | rfl
  · obtain ⟨b, off, hA, _, _, hc⟩ := h.1 0 _ rfl
    cases hA
    exact ⟨3, [31, 139, 8], rfl, by omega, by omega, M + 1, hc, h.2.1, rfl⟩
  · obtain ⟨b, off, hA, _, _, hc⟩ := h.1 1 _ rfl
    cases hA
    exact ⟨4, [80, 75, 3, 4], rfl, by omega, by omega, M + 1 + 1, hc, h.2.2, rfl⟩

/-- What is known at the head of the first loop. -/
structure L1 (w wx : World) (M i : Nat) (A : Option Addr) (c : Nat) (vs : List Value) (l : List Int) : Prop where
  own : wx.ownsRow w.heap.size 22 1 (.slice A (i + 1) c) (i + 1) vs
  rows : BRows wx (Value.slice A (i + 1) c).ownBlock vs ((filesL l).take (i + 1))
  marks : Mk wx (Value.slice A (i + 1) c).ownBlock M
  below : Below w.heap.size w wx

def FilesPost (w : World) (l : List Int) (e : Ending) (w' : World) : Prop := ∃ A' c' vs, e = .returned (.slice A' 4 c') ∧ RV w' A' vs ∧ BRows w' none vs (filesL l) ∧ Below w.heap.size w w'
theorem own_em {a : Option Nat} : a = none ∨ a ≠ none := Classical.em _

/-- One row more. -/
theorem L1.step {w wr w3 w4 : World} {M i : Nat} {A' A3 A4 : Option Addr} {c' c3 c4 k : Nat} {vs : List Value} {l x : List Int} (H : L1 w wr M i A' c' vs l) (g3 : wr.grownBy w3 none) (hx : x.length = k) (hk : k ≤ c3)
    (own3 : w3.ownsRow wr.heap.size 5 1 (.slice A3 k c3) k (u8s x)) {o : Obj} (grow4 : (w3.alloc o).grownBy w4 (Value.slice A' (i + 1) c').ownBlock)
    (own4 : w4.ownsRow w.heap.size 22 1 (.slice A4 (i + 1 + 1) c4) (i + 1 + 1) (vs ++ [.slice A3 k c3]))
    (at4 : (Value.slice A4 (i + 1 + 1) c4).ownBlock = (Value.slice A' (i + 1) c').ownBlock ∨ (Value.slice A4 (i + 1 + 1) c4).ownBlock = some (w3.alloc o).heap.size)
    (htk : (filesL l).take (i + 1 + 1) = (filesL l).take (i + 1) ++ [x]) : L1 w w4 M (i + 1) A4 c4 (vs ++ [.slice A3 k c3]) l := by
  have hg' : (Value.slice A4 (i + 1 + 1) c4).ownBlock = (Value.slice A' (i + 1) c').ownBlock ∨ (Value.slice A4 (i + 1 + 1) c4).ownBlock = none ∨ ∃ k, (Value.slice A4 (i + 1 + 1) c4).ownBlock = some k ∧ (w3.alloc o).heap.size ≤ k := by
    rcases at4 with e | e
    · exact .inl e
    · exact .inr (.inr ⟨_, e, Nat.le_refl _⟩)
  refine ⟨own4, ?_, ?_, ?_⟩
  · rw [htk]
    refine BRows.kept (BRows.snoc ((H.rows.kept g3 (.inr rfl) (.inl rfl)).alloc o) hx hk ((own_apart own3 (fun k hk => .inl (H.own.lt k hk).2)).alloc o)) grow4 (.inl rfl) hg'
  · exact ((H.marks.kept g3 (.inr rfl) (.inl rfl)).kept (World.grownBy_alloc w3 o none) (.inr rfl) (.inl rfl)).kept grow4 (.inl rfl) hg'
  · have h1 := H.below.grown g3 H.below.size (by simp)
    exact (h1.alloc h1.size o).grown grow4 (by have := h1.size; simp; omega) (fun k hk => (H.own.lt k hk).1)

set_option maxHeartbeats 1000000 in
set_option maxRecDepth 100000 in
theorem files_any (A : Option Addr) (n c : Nat) (l : List Int) (w : World) (hl : l.length = n) (_hnc : n ≤ c) (hn : n ≤ 140737488355200) (hc : RB w A l) :
    Calls Try.prog 11 #[.slice A n c] w (FilesPost w l) := by
  have HC := Lib.hid hc
  have HL := Lib.hid hl
  have hn0 : (0 : Int) ≤ (n : Int) := by omega
  clear hc hl
  have m1 : 0 + n ≤ maxLen := by unfold maxLen; omega
  have m2 : (0 + n) * 1 ≤ 140737488355328 := by omega
  have hl8 : (u8s l).length = n := by rw [u8s_length]; exact HL.out
  have HL8 := Lib.hid hl8
  clear hl8
  go_enter Try.func11, Try.ntmps11
  go_wp2_with (at_builtin; go_must (refine wpList_ap el8 rfl _ _ (by rfl) (by rfl) (own_lit (n := 0) #[] rfl (Nat.le_refl w.heap.size) (Nat.zero_le _)) (by rfl) HL8.out (RV.alloc HC.out _) (u8s_one l) m1 m2 (by simp) ?_); intro A1 c1 w1 own1 grow1 at1 le1)
  simp only [Nat.zero_add, List.nil_append] at own1 grow1 at1 le1
  have hb1 : Below w.heap.size w w1 := ((Below.refl _ _).alloc (Nat.le_refl _) _).grown grow1 (by simp) (fun k hk => by simp [Value.ownBlock] at hk; omega)
  go_loopg [3, 5] 2 (fun g s3 s5 wx => ∃ (i : Nat) (A' : Option Addr) (c' : Nat) (vs : List Value), i + g = 2 ∧ s5 = .int .i64 i ∧ s3 = .slice A' (i + 1) c' ∧ L1 w wx w1.heap.size i A' c' vs l)
  case atStart =>
    refine ⟨0, _, _, [.slice A1 n c1], rfl, rfl, rfl, ⟨?_, ?_, ⟨?_, ?_, ?_⟩, ?_⟩⟩
    · exact (((own_lit (n := 1) #[.slice A1 n c1] rfl hb1.size (by unfold maxLen; omega)).alloc _).alloc _).alloc _
    · exact BRows.snoc (BRows.nil _ _) HL.out le1 (((((own_apart own1 (fun k hk => by cases hk; right; exact Nat.le_refl _)).alloc _).alloc _).alloc _).alloc _)
    · exact RX.new' (by simp) rfl (by simp [Value.ownBlock]; omega)
    · exact ((RX.new' (by simp) rfl (by simp [Value.ownBlock])).alloc _).alloc _
    · exact (RX.new' (by simp) rfl (by simp [Value.ownBlock]; omega)).alloc _
    · exact (((hb1.alloc hb1.size _).alloc (by simp; have := hb1.size; omega) _).alloc (by simp; have := hb1.size; omega) _).alloc (by simp; have := hb1.size; omega) _
  case round =>
    obtain ⟨i, A', c', vs, hig, rfl, rfl, H⟩ := hrel
    cases gk with
    | zero =>
      obtain rfl : i = 2 := by omega
      have hcA : RV wr A (u8s l) := HC.out.below H.below
      go_wp2_with (at_builtin; go_must (refine wpList_ap el8 rfl (.tmp 45) _ (by rfl) (by rfl) (own_lit (n := 0) #[] rfl (Nat.le_refl wr.heap.size) (Nat.zero_le _)) (by rfl) HL8.out (RV.alloc hcA _) (u8s_one l) m1 m2 (by simp) ?_); intro A2 c2 w2 own2 grow2 at2 le2; go_must (simp only [Nat.zero_add, List.nil_append] at own2 le2 ⊢; have g2 := grow_new' grow2))
      clear HL8
      obtain ⟨N7, h7a, h7b, h7c⟩ : ∃ N7 : Nat, n ≤ N7 ∧ 257 ≤ N7 ∧ (N7 = n ∨ N7 = 257) := ⟨max n 257, by omega, by omega, by omega⟩
      obtain ⟨N8, h8a, h8b, h8c⟩ : ∃ N8 : Nat, N7 ≤ N8 ∧ 262 ≤ N8 ∧ (N8 = N7 ∨ N8 = 262) := ⟨max N7 262, by omega, by omega, by omega⟩
      have X7 := Lib.hid h7c
      have X8 := Lib.hid h8c
      have hN : N8 ≤ 140737488355210 := by omega
      clear h7c h8c
      obtain ⟨wo, rfl⟩ : ∃ wo : World, wo = wr := ⟨_, rfl⟩
      go_loopg [7] (N7 - n) (fun g7 s7 wy => ∃ (k : Nat) (x : List Int) (Ax : Option Addr) (cx : Nat), k + g7 = N7 ∧ n ≤ k ∧ k ≤ cx ∧ s7 = .slice Ax k cx ∧ Hid (x.length = k) ∧ Hid (fill x = fill l) ∧ wy.ownsRow wo.heap.size 5 1 (.slice Ax k cx) k (u8s x) ∧ wo.grownBy wy none)
      case atStart => exact ⟨n, l, A2, c2, by omega, Nat.le_refl _, le2, rfl, HL.out, rfl, own2, g2⟩
      case round =>
        obtain ⟨k, x, Ax, cx, hkg, hnk, hkx, rfl, HX, HF, ownx, gx⟩ := hrel
        cases gk with
        | succ g7 =>
          have h257 : k < 257 := by rcases X7.out with h | h <;> omega
          have h257i : (k : Int) < 257 := by omega
          go_wp2_with (at_builtin; go_must (refine wpList_ap el8 rfl (.tmp 51) _ (by rfl) (by rfl) (ownx.alloc _) (by rfl) (m := 1) (news := [.int .u8 255]) rfl (RV.new _ _) (by simp [Value.oneCell']) (by unfold maxLen; omega) (by omega) (by have := gx.size; simp; omega) ?_); intro A3 c3 w3 own3 grow3 at3 le3)
          have hfs : fill (x ++ [255]) = fill l := by rw [fill_step (by rw [HX.out]; exact h257), HF.out]
          have hgr : wo.grownBy w3 none := grow_row (gx.trans (World.grownBy_alloc _ _ none)) grow3 (fun q hq => (ownx.lt q hq).1)
          go_roundg g7
          case measure => omega
          case rel => exact ⟨k + 1, x ++ [255], A3, c3, by omega, by omega, le3, rfl, (by show _ = _; simp [HX.out]), hfs, (by rw [u8s_append]; exact own3), hgr⟩
        | zero =>
          have hk7 : ¬ (k : Int) < 257 := by omega
          have hxf : ust (fill l) = ust x := by rw [← HF.out, fill_id (by rw [HX.out]; omega)]
          have HU := Lib.hid hxf
          clear hxf
          obtain ⟨w7, rfl⟩ : ∃ w7 : World, w7 = wr := ⟨_, rfl⟩
          go_wp2
          go_loopg [7] (N8 - k) (fun g8 s7 wy => ∃ (q : Nat) (y : List Int) (Ay : Option Addr) (cy : Nat), q + g8 = N8 ∧ k ≤ q ∧ q ≤ cy ∧ s7 = .slice Ay q cy ∧ Hid (y.length = q) ∧ Hid (ust y = ust x) ∧ wy.ownsRow wo.heap.size 5 1 (.slice Ay q cy) q (u8s y) ∧ wo.grownBy wy none)
          case atStart => exact ⟨k, x, Ax, cx, by omega, Nat.le_refl _, hkx, rfl, HX, rfl, ownx, gx⟩
          case round =>
            obtain ⟨q, y, Ay, cy, hqg, hkq, hqy, rfl, HY, HV, owny, gy⟩ := hrel
            cases gk with
            | succ g8 =>
              have h262 : q < 262 := by rcases X8.out with h | h <;> omega
              have hq7 : 257 ≤ q := by omega
              have hq7i : (257 : Int) ≤ (q : Int) := by omega
              go_wp2_with (at_builtin; go_must (refine wpList_ap el8 rfl (.tmp 57) _ (by rfl) (by rfl) (owny.alloc _) (by rfl) (m := 1) (news := _) rfl (RV.new _ _) (by simp [Value.oneCell']) (by unfold maxLen; omega) (by omega) (by have := gy.size; simp; omega) ?_); intro A3 c3 w3 own3 grow3 at3 le3)
              have hus := (ust_one (by rw [HY.out]) (by rw [HY.out]; exact hq7) (us_at (q - 257) (by show _ < 5; omega))).trans HV.out
              have hgr : wo.grownBy w3 none := grow_row (gy.trans (World.grownBy_alloc _ _ none)) grow3 (fun q hq => (owny.lt q hq).1)
              go_roundg g8
              case measure => omega
              case rel => exact ⟨q + 1, _, A3, c3, by omega, by omega, le3, rfl, (by show _ = _; simp [HY.out]), hus, (by rw [u8s_append]; exact own3), hgr⟩
            | zero =>
              have hq8 : ¬ (q : Int) < 262 := by omega
              have hyl : ust (fill l) = y := by rw [HU.out, ← HV.out, ust_id (by rw [HY.out]; omega)]
              have HE := Lib.hid hyl
              clear hyl
              go_wp2_with (at_builtin; go_must (refine wpList_ap el88 rfl (.tmp 64) _ (by rfl) (by rfl) ((H.own.kept gy own_em).alloc _) (by rfl) (m := 1) (news := [.slice Ay q cy]) rfl (RV.new _ _) (by simp [Value.oneCell']) (by unfold maxLen; omega) (by omega) (by have := gy.size; have := H.below.size; simp; omega) ?_); intro A4 c4 w4 own4 grow4 at4 le4)
              have hst := H.step gy HY.out hqy owny grow4 own4 at4 (by rw [← HE.out]; rfl)
              go_ret
              exact ⟨A4, c4, _, rfl, RV.own hst.own, hst.rows.kept (World.grownBy.refl _ none) (.inr rfl) (.inr (.inl rfl)), hst.below⟩
    | succ g =>
      obtain ⟨m, ms, hms, hm3, hm4, b, hcm, hrm, htk⟩ := H.marks.at_ (l := l) (i := i) (by omega)
      have HM := Lib.hid hms
      have HT := Lib.hid htk
      have i2 : (i : Int) < 2 := by omega
      have i0 : (0 : Int) ≤ (i : Int) := by omega
      have m0 : (0 : Int) < (m : Int) := by omega
      clear hms htk
      have hcA : RV wr A (u8s l) := HC.out.below H.below
      have hmn : ms.length = m := HM.out
      have hM3 : (u8s (ms.drop n)).length = m - n := by rw [u8s_length]; simp [hmn]
      have HM3 := Lib.hid hM3
      have m3 : n + (m - n) ≤ maxLen := by unfold maxLen; omega
      have m4 : (n + (m - n)) * 1 ≤ 140737488355328 := by omega
      clear hM3 hmn
      by_cases hnm : n < m
      · have hnm1 : (n : Int) < (m : Int) := by omega
        have tk1 : True := trivial
        have tk2 : True := trivial
        have tk3 : True := trivial
        go_wp2_with (first
          | (at_builtin; have _t := tk1; go_must (refine wpList_ap el8 rfl (.tmp 21) _ (by rfl) (by rfl) (own_lit (n := 0) #[] rfl (Nat.le_refl wr.heap.size) (Nat.zero_le _)) (by rfl) HL8.out (RV.alloc hcA _) (u8s_one l) m1 m2 (by simp) ?_); intro A2 c2 w2 own2 grow2 at2 le2; go_must (simp only [Nat.zero_add, List.nil_append] at own2 le2 ⊢; have g2 := grow_new' grow2; have hcm2 := g2.cell hcm (by simp)); clear tk1 _t)
          | (at_builtin; have _t := tk2; go_must (have hrm2 : RV w2 (some ⟨b, n, none⟩) (u8s (ms.drop n)) := (by have h := (RX.reads (hrm.kept g2 (.inr rfl) (.inl rfl))).drop n; rw [Nat.zero_add] at h; rw [u8s, List.map_drop]; exact h); refine wpList_ap el8 rfl (.tmp 32) _ (by rfl) (by rfl) own2 (by rfl) HM3.out hrm2 (u8s_one _) m3 m4 g2.size ?_); intro A3 c3 w3 own3 grow3 at3 le3; go_must (have g3 := grow_row g2 grow3 (fun k hk => (own2.lt k hk).1); have ownA := H.own.kept g3 own_em); clear tk2 _t)
          | (at_builtin; have _t := tk3; go_must (refine wpList_ap el88 rfl (.tmp 41) _ (by rfl) (by rfl) (ownA.alloc _) (by rfl) (m := 1) (news := [.slice A3 (n + (m - n)) c3]) rfl (RV.new _ _) (by simp [Value.oneCell']) (by unfold maxLen; omega) (by omega) (by have := g3.size; have := H.below.size; simp; omega) ?_); intro A4 c4 w4 own4 grow4 at4 le4; clear tk3 _t))
        rw [← u8s_append] at own3
        have hx3 : (l ++ ms.drop n).length = n + (m - n) := by have := HM3.out; rw [u8s_length] at this; rw [List.length_append, this, HL.out]
        have hst := H.step g3 hx3 le3 own3 grow4 own4 at4 (by rw [HT.out, padTo, HL.out])
        go_roundg g
        case measure => omega
        case rel => exact ⟨i + 1, A4, c4, _, by omega, by go_num, rfl, hst⟩
      · have hnm1 : ¬ (n : Int) < (m : Int) := by omega
        have tk1 : True := trivial
        have tk3 : True := trivial
        go_wp2_with (first
          | (at_builtin; have _t := tk1; go_must (refine wpList_ap el8 rfl (.tmp 21) _ (by rfl) (by rfl) (own_lit (n := 0) #[] rfl (Nat.le_refl wr.heap.size) (Nat.zero_le _)) (by rfl) HL8.out (RV.alloc hcA _) (u8s_one l) m1 m2 (by simp) ?_); intro A2 c2 w2 own2 grow2 at2 le2; go_must (simp only [Nat.zero_add, List.nil_append] at own2 le2 ⊢; have g2 := grow_new' grow2; have hcm2 := g2.cell hcm (by simp); have ownA := H.own.kept g2 own_em); clear tk1 _t)
          | (at_builtin; have _t := tk3; go_must (refine wpList_ap el88 rfl (.tmp 41) _ (by rfl) (by rfl) (ownA.alloc _) (by rfl) (m := 1) (news := [.slice A2 n c2]) rfl (RV.new _ _) (by simp [Value.oneCell']) (by unfold maxLen; omega) (by omega) (by have := g2.size; have := H.below.size; simp; omega) ?_); intro A4 c4 w4 own4 grow4 at4 le4; clear tk3 _t))
        have hst := H.step g2 HL.out le2 own2 grow4 own4 at4 (by rw [HT.out, padTo_id]; rw [HM.out, HL.out]; omega)
        go_roundg g
        case measure => omega
        case rel => exact ⟨i + 1, A4, c4, _, by omega, by go_num, rfl, hst⟩
end Go.Proofs.Ytbmnedgoonaneaa.Sn
