/- report.Parse. -/
import Derived.Test.YtgjningfpkoooaaDoorQj
import Derived.Test.YtgjningfpkoooaaDoorQe
import Derived.Laws.ResultCell
namespace Go.Proofs.YtgjningfpkoooaaDoor.Ro
set_option linter.unusedVariables false
set_option linter.unusedSimpArgs false
open Go.RowKit Go.Proofs.YtgjningfpkoooaaDoor.W

/-- A report whose rows and paths are all the call's own, and not frozen. -/
def RepV (w : World) (B : Nat) (A : Option Addr) (n c : Nat) (A2 : Option Addr) (m c2 : Nat) (a : Rp) : Prop :=
  ∃ cs1 cs2, a.1.length = n ∧ a.2.length = m ∧ w.ownsRow B 44 3 (.slice A n c) n cs1 ∧ OP hS w B cs1 a.1 ∧ w.ownsRow B 68 2 (.slice A2 m c2) m cs2 ∧ OP vS w B cs2 a.2
theorem RepV.read {w : World} {B : Nat} {A : Option Addr} {n c : Nat} {A2 : Option Addr} {m c2 : Nat} {a : Rp} (h : RepV w B A n c A2 m c2 a) : RepAt w B A n c A2 m c2 a := by
  obtain ⟨cs1, cs2, h2, h3, h4, h5, h6, h7⟩ := h
  exact ⟨h2, slice_cap h4, h3, slice_cap h6, h5.read (by decide) h4, h7.read (by decide) h6⟩
theorem RepV.kp {w w' : World} {T : List Nat} {B : Nat} {A : Option Addr} {n c : Nat} {A2 : Option Addr} {m c2 : Nat} {a : Rp} (h : RepV w B A n c A2 m c2 a) (hk : Kp T w w') (ht : ∀ k ∈ T, ∀ cs t fr, w.heap[k]? = some (.cells cs t fr) → t = 36) : RepV w' B A n c A2 m c2 a := by
  have hn : ∀ e, e ≠ 36 → ∀ k ∈ T, ∀ cs fr, w.heap[k]? ≠ some (.cells cs e fr) := fun e he k hm cs fr hc => he (ht k hm _ _ _ hc)
  obtain ⟨cs1, cs2, h2, h3, h4, h5, h6, h7⟩ := h
  exact ⟨cs1, cs2, h2, h3, own_kp h4 hk (hn _ (by decide)), h5.kp hk (hn _ (by decide)), own_kp h6 hk (hn _ (by decide)), h7.kp hk (hn _ (by decide))⟩
theorem RepV.below {w w' : World} {B : Nat} {A : Option Addr} {n c : Nat} {A2 : Option Addr} {m c2 : Nat} {a : Rp} (h : RepV w B A n c A2 m c2 a) (hb : Below w.heap.size w w') : RepV w' B A n c A2 m c2 a :=
  h.kp (Kp.of_below (S := []) hb) (fun k hm => by cases hm)
theorem RepV.base {w : World} {B B' : Nat} {A : Option Addr} {n c : Nat} {A2 : Option Addr} {m c2 : Nat} {a : Rp} (h : RepV w B A n c A2 m c2 a) (hb : B' ≤ B) : RepV w B' A n c A2 m c2 a := by
  obtain ⟨cs1, cs2, h2, h3, h4, h5, h6, h7⟩ := h
  exact ⟨cs1, cs2, h2, h3, h4.mono hb, h5.base hb, h6.mono hb, h7.base hb⟩
theorem RepV.nil (w : World) (B : Nat) : RepV w B none 0 0 none 0 0 ([], []) :=
  ⟨[], [], rfl, rfl, World.ownsRow_nil _ _ _ _, OP.nil _ _ _, World.ownsRow_nil _ _ _ _, OP.nil _ _ _⟩
theorem RO.rep {w : World} {B b : Nat} {A : Option Addr} {n c : Nat} {A2 : Option Addr} {m c2 : Nat} {cs1 cs2 : List Value} {a : Rp} (h : RO w B b A n c A2 m c2 cs1 cs2 a) : RepV w B A n c A2 m c2 a := ⟨cs1, cs2, h.2.2⟩
def ParseRIs (w : World) (s : List UInt8) (e : Ending) (w' : World) : Prop :=
  ∃ A n c A2 m c2, e = .returned (.tuple #[.agg #[.slice A n c, .slice A2 m c2], .bool (parseR s).isSome]) ∧ Below w.heap.size w w' ∧ RepV w' w.heap.size A n c A2 m c2 ((parseR s).getD ([], []))
theorem lines_end (a : Rp) : linesR a (spc 10 []) = some a := by simp [spc, linesR]
theorem lines_no {a : Rp} {s : List UInt8} (h : Lib.index s [10] = -1) (hs : s ≠ []) : linesR a (spc 10 s) = none := by
  rw [(spc_index 10 s).1 h]
  unfold linesR
  rw [if_pos rfl, if_neg hs]
theorem lines_go {a : Rp} {s : List UInt8} {i : Nat} (h : Lib.index s [10] = i) : linesR a (spc 10 s) = (lineR a (spc 32 (s.take i))).bind fun b => linesR b (spc 10 (s.drop (i + 1))) := by
  rw [(spc_index 10 s).2 i h]
  conv => lhs; unfold linesR
  rw [if_neg (spc_ne 10 _)]
theorem spc_len (d : UInt8) : ∀ s : List UInt8, (spc d s).length ≤ s.length + 1
  | [] => by simp [spc]
  | c :: s => by
    have ih := spc_len d s
    unfold spc
    split
    · simp; omega
    · split
      · rename_i h; rw [h] at ih; simp at ih ⊢; omega
      · simp
theorem spc_word_len (d : UInt8) : ∀ (s w : List UInt8), w ∈ spc d s → w.length ≤ s.length := by
  intro s w hw
  cases h : spc d s with
  | nil => exact absurd h (spc_ne d s)
  | cons v vs =>
    have h1 := spc_join d s v vs h
    rw [h] at hw
    rw [h1, List.length_append]
    rcases List.mem_cons.1 hw with rfl | hw
    · omega
    · have : (d :: w).length ≤ (vs.flatMap (fun v => d :: v)).length := by
        obtain ⟨p, q, rfl⟩ := List.append_of_mem hw
        rw [List.flatMap_append, List.flatMap_cons, List.length_append, List.length_append]
        omega
      simp only [List.length_cons] at this
      omega
theorem cut_no {s : List UInt8} (h : Lib.index s [10] = -1) : Lib.cut s [10] = (s, [], false) := by unfold Lib.cut; rw [h]; rfl
theorem cut_yes {s : List UInt8} {i : Nat} (h : Lib.index s [10] = i) : Lib.cut s [10] = (s.take i, s.drop (i + 1), true) := by
  unfold Lib.cut
  rw [h, if_pos (by omega)]
  rfl
theorem cut_lt {s : List UInt8} {i : Nat} (h : Lib.index s [10] = i) : i < s.length := by
  have h1 := (spc_index 10 s).2 i h
  have h2 := spc_join 10 s _ _ h1
  rcases Nat.lt_or_ge i s.length with h3 | h3
  · exact h3
  · exfalso
    have h4 := congrArg List.length h2
    rw [List.take_of_length_le h3, List.length_append] at h4
    cases h5 : spc 10 (s.drop (i + 1)) with
    | nil => exact spc_ne 10 _ h5
    | cons v vs =>
      rw [h5, List.flatMap_cons, List.length_append, List.length_cons] at h4
      omega
theorem below_drawn {w w' : World} (h : ∃ n, w' = w.drewN n) : Below w.heap.size w w' := by
  obtain ⟨n, rfl⟩ := h
  exact ⟨rfl, rfl, rfl, Nat.le_refl _, fun _ _ => rfl⟩
theorem RO.rp {w : World} {B b : Nat} {a : Rp} (h : RepO w B b a) {w' : World} (hb : Below w.heap.size w w') : RepO w' B b a := by
  obtain ⟨A, n, c, A2, m, c2, cs1, cs2, h⟩ := h
  exact ⟨A, n, c, A2, m, c2, cs1, cs2, h.below hb⟩
theorem kind_1 {ws : List (List UInt8)} (h : kindW ws = 1) : ws.length = 4 := by
  unfold kindW at h
  split at h
  · rename_i h1; exact h1.2
  · split at h <;> cases h
theorem kind_2 {ws : List (List UInt8)} (h : kindW ws = 2) : ws.length = 3 := by
  unfold kindW at h
  split at h
  · cases h
  · split at h
    · rename_i h1; exact h1.2
    · cases h
theorem kind_le (ws : List (List UInt8)) : kindW ws ≤ 2 := by
  unfold kindW
  split
  · omega
  · split <;> omega
/-- What is told where a line does not stand. -/
theorem line_no {a : Rp} {ws : List (List UInt8)} {l : Nat} (hl : l ≤ 2) (ha : l = 2 ↔ a.2 ≠ []) (h : kindW ws = 0 ∨ kindW ws < l) : lineR a ws = none := by
  unfold lineR
  rcases h with h | h
  · rw [h]; rfl
  · have h1 := kind_le ws
    by_cases hk : kindW ws = 1
    · rw [if_pos hk, if_neg (ha.1 (by omega))]
    · rw [if_neg hk, if_neg (by omega)]
theorem res_cell {fn : Func} {p u : Tmp} {ty : TypeId} (h : fn.results = #[.cell p ty, .tmp u]) (tmps : Array Value) {P : Program} (w : World) (g : Nat) (t : TypeId) (cs : Array Value) (fr : Nat × Nat) (fs : Array Field)
    (hp : tmps.getD p undef = .pointer (some ⟨g, 0, none⟩)) (hg : w.heap[g]? = some (.cells cs t fr))
    (hu : P.underlying ty = some (.struct fs)) (hi : (P.info? ty).map (·.size) = some cs.size) :
    (results fn tmps).run P w = .ok (.tuple #[.agg cs, tmps.getD u undef]) w := by
  have h1 := run_loadVar_row (P := P) w g t ty cs fr _ hg hu rfl hi
  rw [results_cell_tmp h, hp]
  simp [asAddr, h1]
/-- How a reader of a report ends. -/
theorem parse_end {w wr : World} {b0 : Nat} {s : List UInt8} {r : Rp} {ok : Bool} {A : Option Addr} {n c : Nat} {A2 : Option Addr} {m c2 : Nat} {x y : Value} (hb : w.heap.size = b0) (hbk : wr.heap[b0]? = some (.cells #[x, y] 36 (0, 0))) (hbl : Below w.heap.size w wr) {B : Nat} (hB : b0 ≤ B) (hr : RepV wr B A n c A2 m c2 r) (hp : (parseR s).getD ([], []) = r) (ho : (parseR s).isSome = ok) :
    ParseRIs w s (.returned (.tuple #[.agg #[.slice A n c, .slice A2 m c2], .bool ok])) ((wr.setCell ⟨b0, 0, none⟩ (.slice A n c)).setCell ⟨b0, 1, none⟩ (.slice A2 m c2)) := by
  have K := ((Kp.refl [b0] wr).setCell (p := ⟨b0, 0, none⟩) (.inl (by simp)) (.slice A n c)).setCell (p := ⟨b0, 1, none⟩) (.inl (by simp)) (.slice A2 m c2)
  refine ⟨A, n, c, A2, m, c2, by rw [ho], (hbl.setCell (p := ⟨b0, 0, none⟩) (by rw [hb]; exact Nat.le_refl _) _).setCell (p := ⟨b0, 1, none⟩) (by rw [hb]; exact Nat.le_refl _) _, ?_⟩
  rw [hp]
  exact (hr.kp K (fun k hm cs t fr hc => by
    rw [List.mem_singleton.1 hm, hbk] at hc
    injection hc with hc
    injection hc with _ hc _
    exact hc.symm)).base (by rw [hb]; exact hB)
set_option maxHeartbeats 16000000 in
set_option maxRecDepth 100000 in
theorem c_rparse (s : ByteArray) (w : World) (hs : s.size ≤ 1000000000) (hG : Gw w) : Calls Tryd.prog 28 #[.string s] w (ParseRIs w s.data.toList) := by
  obtain ⟨w1, hw1⟩ : ∃ w1, w.alloc (.cells #[.slice none 0 0, .slice none 0 0] 36) = w1 := ⟨_, rfl⟩
  have HW1 := Lib.hid (show Below w.heap.size w w1 by rw [← hw1]; exact (Below.refl _ _).alloc (Nat.le_refl _) _)
  have HZ1 := Lib.hid (show w1.heap.size = w.heap.size + 1 by rw [← hw1]; simp)
  have HG := Lib.hid (hG.below HW1.out hG.sz)
  obtain ⟨B, hB⟩ : ∃ B, w1.heap.size = B := ⟨_, rfl⟩
  have HB := Lib.hid hB
  have HRB := Lib.hid (show ∀ wx, Below B w1 wx → wx.heap[w.heap.size]? = some (.cells #[.slice none 0 0, .slice none 0 0] 36 (0, 0)) from fun wx hb => by
    have h0 : w1.heap[w.heap.size]? = some (.cells #[.slice none 0 0, .slice none 0 0] 36 (0, 0)) := by rw [← hw1]; exact heap_alloc_new w _
    exact (hb.block w.heap.size (by rw [← hB, HZ1.out]; exact Nat.lt_succ_self _)).trans h0)
  obtain ⟨b0, hb0⟩ : ∃ b0, w.heap.size = b0 := ⟨_, rfl⟩
  have HR0 := Lib.hid (show RepO (w1.alloc (.cells #[.slice none 0 0, .slice none 0 0] 36)) B B ([], []) from ⟨none, 0, 0, none, 0, 0, [], [], Nat.le_refl _, by rw [← hB]; exact heap_alloc_new w1 _, rfl, rfl, World.ownsRow_nil _ _ _ _, OP.nil _ _ _, World.ownsRow_nil _ _ _ _, OP.nil _ _ _⟩)
  have HE0 := Lib.hid (show Below B w1 (w1.alloc (.cells #[.slice none 0 0, .slice none 0 0] 36)) from hB ▸ (Below.refl _ _).alloc (Nat.le_refl _) _)
  go_enter Tryd.func28, Tryd.ntmps28
  go_upto_region 2 with (fail)
  generalize w1.alloc (.cells #[.slice none 0 0, .slice none 0 0] 36) = w2 at *
  clear hB hw1 hG
  rw [hb0] at HRB
  have HB0 := Lib.hid hb0
  have HSZ := Lib.hid hs
  clear hb0 hs
  go_wp2_with (fail)
  go_loopg [0, 5] s.size (fun g s0 s5 wx => ∃ (S : ByteArray) (l : Nat) (a : Rp), S.size ≤ g ∧ s0 = .string S ∧ s5 = .int .i64 (l : Nat) ∧ l ≤ 2 ∧ Hid (RepO wx B B a ∧ Below B w1 wx ∧ linesR a (spc 10 S.data.toList) = parseR s.data.toList ∧ (l = 2 ↔ a.2 ≠ []) ∧ a.1.length + a.2.length + S.size ≤ s.size))
  case atStart => exact ⟨s, 0, ([], []), Nat.le_refl _, rfl, rfl, by omega, Lib.hid ⟨HR0.out, HE0.out, rfl, by simp, by simp⟩⟩
  case round =>
    obtain ⟨S, l, a, hSg, rfl, rfl, hl2, hst⟩ := hrel
    by_cases hS0 : S.data.toList = []
    · have he2 : (S.toList == []) = true := by rw [ByteArray.toList_eq, hS0]; rfl
      have HP := Lib.hid (show parseR s.data.toList = some a by have h := hst.out.2.2.1; rw [hS0, lines_end] at h; exact h.symm)
      obtain ⟨A, n, c, A2, m, c2, cs1, cs2, hro⟩ := hst.out.1
      have HRO := Lib.hid hro
      obtain ⟨d1, d2, dlt⟩ := hro.cells
      have hbk := HRB.out _ hst.out.2.1
      have f1 := cell_of_row wr b0 0 _ _ _ hbk
      have f2 := cell_of_row wr b0 1 _ _ _ hbk
      have g1 := frozen_of_row wr b0 0 _ _ hbk
      have g2 := frozen_of_row wr b0 1 _ _ hbk
      have HBK := Lib.hid hbk
      clear hS0 hro hbk
      go_wp2_with (fail)
      have h0 := heap_set (heap_set HBK.out 0 (.slice A n c)) 1 (.slice A2 m c2)
      refine bodyPost_ret (res_cell rfl _ _ b0 _ _ _ _ rfl h0 Tryd.underlying36 (by kernel_rfl)) rfl ?_
      exact parse_end HB0.out HBK.out (HW1.out.trans (hst.out.2.1.mono (by rw [← HB.out]; exact HW1.out.size))) (by rw [← HB.out, HZ1.out, HB0.out]; exact Nat.le_succ _) HRO.out.rep (by rw [HP.out]; rfl) (by rw [HP.out]; rfl)
    · have he2 : (S.toList == []) = false := by rw [ByteArray.toList_eq]; exact beq_eq_false_iff_ne.2 hS0
      obtain ⟨mm, hmm⟩ := (HG.out.below hst.out.2.1 (by rw [← HB.out]; exact HG.out.sz)).mx
      have HMM := Lib.hid hmm
      have HBS := Lib.hid (show B ≤ wr.heap.size by have h := hst.out.2.1.size; rw [HB.out] at h; exact h)
      have HFR := Lib.hid (show ∀ wx, Below B w1 wx → wx.cell? ⟨b0, 0, none⟩ = some (.slice none 0 0) ∧ wx.cell? ⟨b0, 1, none⟩ = some (.slice none 0 0) ∧ wx.frozen? ⟨b0, 0, none⟩ = false ∧ wx.frozen? ⟨b0, 1, none⟩ = false from fun wx hb => by
        have hbk := HRB.out _ hb
        exact ⟨cell_of_row wx b0 0 _ _ _ hbk, cell_of_row wx b0 1 _ _ _ hbk, frozen_of_row wx b0 0 _ _ hbk, frozen_of_row wx b0 1 _ _ hbk⟩)
      obtain ⟨t, rt, okb, hcut⟩ : ∃ t rt okb, Lib.cut S.data.toList [10] = (t, rt, okb) := ⟨_, _, _, rfl⟩
      obtain ⟨T, hT⟩ : ∃ T : ByteArray, (⟨t.toArray⟩ : ByteArray) = T := ⟨_, rfl⟩
      obtain ⟨R, hRT⟩ : ∃ T : ByteArray, (⟨rt.toArray⟩ : ByteArray) = T := ⟨_, rfl⟩
      have HCUT := Lib.hid hcut
      have HT := Lib.hid hT
      have HRT := Lib.hid hRT
      have HTD := Lib.hid (show T.data.toList = t by rw [← hT])
      have HRD := Lib.hid (show R.data.toList = rt by rw [← hRT])
      have HNE := Lib.hid (show ∀ n, (spc 32 t).length = n → 0 < n from fun n h => by have := spl_cnt 32 _ _ (Nat.le_refl t.length); omega)
      have hSz : S.size ≤ 1000000000 := by have h1 := hst.out.2.2.2.2; have h2 := HSZ.out; omega
      have hTl : t.length ≤ S.size := by
        have h1 := congrArg (fun x => x.1.length) hcut
        dsimp only at h1
        rw [← h1, Lib.size_eq]
        unfold Lib.cut
        split
        · simp only [List.length_take]; omega
        · exact Nat.le_refl _
      have HSS := Lib.hid (show S.size < 4294967281 ∧ T.size < 4294967281 ∧ t.length ≤ 1000000000 from ⟨by omega, by rw [← hT, size_str]; omega, by omega⟩)
      have HWL := Lib.hid (show ∀ v ∈ spc 32 t, v.length ≤ 1000000000 from fun v hv => Nat.le_trans (spc_word_len 32 t v hv) HSS.out.2.2)
      obtain ⟨K, hK⟩ : ∃ K, kindW (spc 32 t) = K := ⟨_, rfl⟩
      have HK := Lib.hid hK
      have HAL1 := Lib.hid (show a.1.length ≤ 1000000000 ∧ a.2.length ≤ 1000000000 from by have h1 := hst.out.2.2.2.2; have h2 := HSZ.out; omega)
      clear hT hRT hmm hTl
      by_cases hix : Lib.index S.data.toList [10] < 0
      · have hi1 : Lib.index S.data.toList [10] = -1 := by have := Lib.index_ge S.data.toList [10]; omega
        have HP := Lib.hid (show parseR s.data.toList = none by rw [← hst.out.2.2.1]; exact lines_no hi1 hS0)
        obtain rfl : okb = false := by rw [cut_no hi1] at hcut; injection hcut with _ h; injection h with _ h; exact h.symm
        clear hS0 hix hi1 hcut hK hSz
        go_wp2_with (first
          | (go_at_call 44; go_must (refine (Tryd.strings_Cut S ⟨#[10]⟩ mm wr HSS.out.1 HMM.out).mono ?_); rintro e w3 ⟨he, hd⟩; rw [show (⟨#[10]⟩ : ByteArray).data.toList = [10] from rfl, HCUT.out] at he; dsimp only at he; rw [HT.out, HRT.out] at he; subst he; have HB3 := Lib.hid (below_drawn hd); have HE3 := Lib.hid (hst.out.2.1.trans (HB3.out.mono HBS.out)); have C2 := Lib.hid (c_split32 T HSS.out.2.1 w3 (HG.out.below HE3.out (by rw [← HB.out]; exact HG.out.sz))); rw [HTD.out] at C2; clear hd)
          | (go_at_call 36; go_must (refine C2.out.mono ?_); rintro e w4 ⟨n4, he, hn4, hw4⟩;  subst he; have HRV4 := Lib.hid (show RV w4 (some ⟨w3.heap.size, 0, none⟩) (strs (spc 32 t)) by rw [hw4]; exact rv_strs _ (by simp)); have HB4 := Lib.hid (HB3.out.trans ((show Below w3.heap.size w3 w4 by rw [hw4]; exact (Below.refl _ _).alloc (Nat.le_refl _) _).mono HB3.out.size)); have HE4 := Lib.hid (hst.out.2.1.trans (HB4.out.mono HBS.out)); have C3 := Lib.hid (c_kind w3.heap.size n4 n4 (spc 32 t) w4 HRV4.out hn4 (HNE.out _ hn4)); clear hw4)
          | (go_at_call 45; go_must (refine C3.out.mono ?_); rintro e w5 ⟨he, rfl⟩; rw [HK.out] at he; subst he; obtain ⟨f1, f2, g1, g2⟩ := HFR.out _ HE4.out))
        have hbk := HRB.out _ HE4.out
        have h0 := heap_set (heap_set hbk 0 (.slice none 0 0)) 1 (.slice none 0 0)
        refine bodyPost_ret (res_cell rfl _ _ b0 _ _ _ _ rfl h0 Tryd.underlying36 (by kernel_rfl)) rfl ?_
        exact parse_end HB0.out hbk (HW1.out.trans (HE4.out.mono (by rw [← HB.out]; exact HW1.out.size))) (Nat.le_refl _) (RepV.nil _ _) (by rw [HP.out]; rfl) (by rw [HP.out]; rfl)
      · obtain ⟨i, hi⟩ : ∃ i : Nat, Lib.index S.data.toList [10] = i := ⟨_, (Int.toNat_of_nonneg (Int.not_lt.1 hix)).symm⟩
        have hc2 := cut_yes hi
        rw [hcut] at hc2
        obtain ⟨h1, h2⟩ := Prod.mk.inj hc2
        obtain ⟨h3, h4⟩ := Prod.mk.inj h2
        subst h4
        clear h2
        have h2 := h3
        have HLG := Lib.hid (show linesR a (spc 10 S.data.toList) = (lineR a (spc 32 t)).bind fun b => linesR b (spc 10 rt) by rw [lines_go hi, ← h1, ← h2])
        have HRS := Lib.hid (show R.size + 1 ≤ S.size ∧ R.size < gk from by
          have h3 := cut_lt hi
          have h4 : R.size = S.data.toList.length - (i + 1) := by rw [← HRT.out, size_str, h2, List.length_drop]
          rw [← Lib.size_eq] at h3 h4
          omega)
        clear hS0 hix hi hcut hc2 h1 h2 hSz
        by_cases hb : K = 0 ∨ K < l
        · have HP := Lib.hid (show parseR s.data.toList = none by rw [← hst.out.2.2.1, HLG.out, line_no hl2 hst.out.2.2.2.1 (by rw [hK]; exact hb)]; rfl)
          clear hK
          rcases hb with hb | hb
          · have i0 : ((K : Int) == 0) = true := W.eqT (by omega)
            clear hb
            go_wp2_with (first
              | (go_at_call 44; go_must (refine (Tryd.strings_Cut S ⟨#[10]⟩ mm wr HSS.out.1 HMM.out).mono ?_); rintro e w3 ⟨he, hd⟩; rw [show (⟨#[10]⟩ : ByteArray).data.toList = [10] from rfl, HCUT.out] at he; dsimp only at he; rw [HT.out, HRT.out] at he; subst he; have HB3 := Lib.hid (below_drawn hd); have HE3 := Lib.hid (hst.out.2.1.trans (HB3.out.mono HBS.out)); have C2 := Lib.hid (c_split32 T HSS.out.2.1 w3 (HG.out.below HE3.out (by rw [← HB.out]; exact HG.out.sz))); rw [HTD.out] at C2; clear hd)
              | (go_at_call 36; go_must (refine C2.out.mono ?_); rintro e w4 ⟨n4, he, hn4, hw4⟩;  subst he; have HRV4 := Lib.hid (show RV w4 (some ⟨w3.heap.size, 0, none⟩) (strs (spc 32 t)) by rw [hw4]; exact rv_strs _ (by simp)); have HB4 := Lib.hid (HB3.out.trans ((show Below w3.heap.size w3 w4 by rw [hw4]; exact (Below.refl _ _).alloc (Nat.le_refl _) _).mono HB3.out.size)); have HE4 := Lib.hid (hst.out.2.1.trans (HB4.out.mono HBS.out)); have C3 := Lib.hid (c_kind w3.heap.size n4 n4 (spc 32 t) w4 HRV4.out hn4 (HNE.out _ hn4)); clear hw4)
              | (go_at_call 45; go_must (refine C3.out.mono ?_); rintro e w5 ⟨he, rfl⟩; rw [HK.out] at he; subst he; obtain ⟨f1, f2, g1, g2⟩ := HFR.out _ HE4.out))
            have hbk := HRB.out _ HE4.out
            have h0 := heap_set (heap_set hbk 0 (.slice none 0 0)) 1 (.slice none 0 0)
            refine bodyPost_ret (res_cell rfl _ _ b0 _ _ _ _ rfl h0 Tryd.underlying36 (by kernel_rfl)) rfl ?_
            exact parse_end HB0.out hbk (HW1.out.trans (HE4.out.mono (by rw [← HB.out]; exact HW1.out.size))) (Nat.le_refl _) (RepV.nil _ _) (by rw [HP.out]; rfl) (by rw [HP.out]; rfl)
          · by_cases hk0 : K = 0
            · have i0 : ((K : Int) == 0) = true := W.eqT (by omega)
              clear hb hk0
              go_wp2_with (first
                | (go_at_call 44; go_must (refine (Tryd.strings_Cut S ⟨#[10]⟩ mm wr HSS.out.1 HMM.out).mono ?_); rintro e w3 ⟨he, hd⟩; rw [show (⟨#[10]⟩ : ByteArray).data.toList = [10] from rfl, HCUT.out] at he; dsimp only at he; rw [HT.out, HRT.out] at he; subst he; have HB3 := Lib.hid (below_drawn hd); have HE3 := Lib.hid (hst.out.2.1.trans (HB3.out.mono HBS.out)); have C2 := Lib.hid (c_split32 T HSS.out.2.1 w3 (HG.out.below HE3.out (by rw [← HB.out]; exact HG.out.sz))); rw [HTD.out] at C2; clear hd)
                | (go_at_call 36; go_must (refine C2.out.mono ?_); rintro e w4 ⟨n4, he, hn4, hw4⟩;  subst he; have HRV4 := Lib.hid (show RV w4 (some ⟨w3.heap.size, 0, none⟩) (strs (spc 32 t)) by rw [hw4]; exact rv_strs _ (by simp)); have HB4 := Lib.hid (HB3.out.trans ((show Below w3.heap.size w3 w4 by rw [hw4]; exact (Below.refl _ _).alloc (Nat.le_refl _) _).mono HB3.out.size)); have HE4 := Lib.hid (hst.out.2.1.trans (HB4.out.mono HBS.out)); have C3 := Lib.hid (c_kind w3.heap.size n4 n4 (spc 32 t) w4 HRV4.out hn4 (HNE.out _ hn4)); clear hw4)
                | (go_at_call 45; go_must (refine C3.out.mono ?_); rintro e w5 ⟨he, rfl⟩; rw [HK.out] at he; subst he; obtain ⟨f1, f2, g1, g2⟩ := HFR.out _ HE4.out))
              have hbk := HRB.out _ HE4.out
              have h0 := heap_set (heap_set hbk 0 (.slice none 0 0)) 1 (.slice none 0 0)
              refine bodyPost_ret (res_cell rfl _ _ b0 _ _ _ _ rfl h0 Tryd.underlying36 (by kernel_rfl)) rfl ?_
              exact parse_end HB0.out hbk (HW1.out.trans (HE4.out.mono (by rw [← HB.out]; exact HW1.out.size))) (Nat.le_refl _) (RepV.nil _ _) (by rw [HP.out]; rfl) (by rw [HP.out]; rfl)
            · have i0 : ((K : Int) == 0) = false := W.eqF (by omega)
              have i1 : (K : Int) < (l : Int) := by omega
              clear hb hk0
              go_wp2_with (first
                | (go_at_call 44; go_must (refine (Tryd.strings_Cut S ⟨#[10]⟩ mm wr HSS.out.1 HMM.out).mono ?_); rintro e w3 ⟨he, hd⟩; rw [show (⟨#[10]⟩ : ByteArray).data.toList = [10] from rfl, HCUT.out] at he; dsimp only at he; rw [HT.out, HRT.out] at he; subst he; have HB3 := Lib.hid (below_drawn hd); have HE3 := Lib.hid (hst.out.2.1.trans (HB3.out.mono HBS.out)); have C2 := Lib.hid (c_split32 T HSS.out.2.1 w3 (HG.out.below HE3.out (by rw [← HB.out]; exact HG.out.sz))); rw [HTD.out] at C2; clear hd)
                | (go_at_call 36; go_must (refine C2.out.mono ?_); rintro e w4 ⟨n4, he, hn4, hw4⟩;  subst he; have HRV4 := Lib.hid (show RV w4 (some ⟨w3.heap.size, 0, none⟩) (strs (spc 32 t)) by rw [hw4]; exact rv_strs _ (by simp)); have HB4 := Lib.hid (HB3.out.trans ((show Below w3.heap.size w3 w4 by rw [hw4]; exact (Below.refl _ _).alloc (Nat.le_refl _) _).mono HB3.out.size)); have HE4 := Lib.hid (hst.out.2.1.trans (HB4.out.mono HBS.out)); have C3 := Lib.hid (c_kind w3.heap.size n4 n4 (spc 32 t) w4 HRV4.out hn4 (HNE.out _ hn4)); clear hw4)
                | (go_at_call 45; go_must (refine C3.out.mono ?_); rintro e w5 ⟨he, rfl⟩; rw [HK.out] at he; subst he; obtain ⟨f1, f2, g1, g2⟩ := HFR.out _ HE4.out))
              have hbk := HRB.out _ HE4.out
              have h0 := heap_set (heap_set hbk 0 (.slice none 0 0)) 1 (.slice none 0 0)
              refine bodyPost_ret (res_cell rfl _ _ b0 _ _ _ _ rfl h0 Tryd.underlying36 (by kernel_rfl)) rfl ?_
              exact parse_end HB0.out hbk (HW1.out.trans (HE4.out.mono (by rw [← HB.out]; exact HW1.out.size))) (Nat.le_refl _) (RepV.nil _ _) (by rw [HP.out]; rfl) (by rw [HP.out]; rfl)
        · have hk3 : K = 1 ∨ K = 2 := by have h1 := kind_le (spc 32 t); rw [hK] at h1; omega
          have i0 : ((K : Int) == 0) = false := W.eqF (by omega)
          have i1 : ¬ (K : Int) < (l : Int) := by omega
          rcases hk3 with rfl | rfl
          · have hl1 : l ≠ 2 := by omega
            have hA2 : a.2 = [] := by
              cases h : a.2 with
              | nil => rfl
              | cons x y => exact absurd (hst.out.2.2.2.1.2 (by rw [h]; simp)) hl1
            have HKL := Lib.hid (kind_1 hK)
            have HLN := Lib.hid (show lineR a (spc 32 t) = if hitB (spc 32 t) then some (a.1 ++ [hitV (spc 32 t)], a.2) else none from by rw [← addH_iff]; unfold lineR; rw [if_pos hK, if_pos hA2])
            have HAL := Lib.hid HAL1.out.1
            have HL2A := Lib.hid (show (1 = 2 ↔ a.2 ≠ []) from ⟨fun h => absurd h (by decide), fun h => absurd hA2 h⟩)
            clear hK hb hA2 hl1
            cases hok : hitB (spc 32 t) with
            | false =>
              have HOK := Lib.hid hok
              have HP := Lib.hid (show parseR s.data.toList = none by rw [← hst.out.2.2.1, HLG.out, HLN.out, hok]; rfl)
              clear hok
              go_wp2_with (first
                | (go_at_call 44; go_must (refine (Tryd.strings_Cut S ⟨#[10]⟩ mm wr HSS.out.1 HMM.out).mono ?_); rintro e w3 ⟨he, hd⟩; rw [show (⟨#[10]⟩ : ByteArray).data.toList = [10] from rfl, HCUT.out] at he; dsimp only at he; rw [HT.out, HRT.out] at he; subst he; have HB3 := Lib.hid (below_drawn hd); have HE3 := Lib.hid (hst.out.2.1.trans (HB3.out.mono HBS.out)); have C2 := Lib.hid (c_split32 T HSS.out.2.1 w3 (HG.out.below HE3.out (by rw [← HB.out]; exact HG.out.sz))); rw [HTD.out] at C2; clear hd)
                | (go_at_call 36; go_must (refine C2.out.mono ?_); rintro e w4 ⟨n4, he, hn4, hw4⟩; obtain rfl : 4 = n4 := (by rw [← hn4]; exact HKL.out.symm); subst he; have HRV4 := Lib.hid (show RV w4 (some ⟨w3.heap.size, 0, none⟩) (strs (spc 32 t)) by rw [hw4]; exact rv_strs _ (by simp)); have HB4 := Lib.hid (HB3.out.trans ((show Below w3.heap.size w3 w4 by rw [hw4]; exact (Below.refl _ _).alloc (Nat.le_refl _) _).mono HB3.out.size)); have HE4 := Lib.hid (hst.out.2.1.trans (HB4.out.mono HBS.out)); have C3 := Lib.hid (c_kind w3.heap.size 4 4 (spc 32 t) w4 HRV4.out HKL.out (HNE.out _ HKL.out)); clear hw4)
                | (go_at_call 45; go_must (refine C3.out.mono ?_); rintro e w5 ⟨he, rfl⟩; rw [HK.out] at he; subst he; have C4 := Lib.hid (c_addHit B B w3.heap.size 4 (spc 32 t) a _ (RO.rp hst.out.1 HB4.out) HRV4.out HKL.out HWL.out HAL.out (Nat.le_trans HBS.out HB4.out.size) (HG.out.below HE4.out (by rw [← HB.out]; exact HG.out.sz))))
                | (go_at_call 46; go_must (refine C4.out.mono ?_); rintro e w6 ⟨he, hb6, hr6⟩; rw [HOK.out] at he; subst he; have HE6 := Lib.hid (HE4.out.trans hb6); have HR6 := Lib.hid hr6; obtain ⟨f1, f2, g1, g2⟩ := HFR.out _ HE6.out; clear hb6 hr6))
              have hbk := HRB.out _ HE6.out
              have h0 := heap_set (heap_set hbk 0 (.slice none 0 0)) 1 (.slice none 0 0)
              refine bodyPost_ret (res_cell rfl _ _ b0 _ _ _ _ rfl h0 Tryd.underlying36 (by kernel_rfl)) rfl ?_
              exact parse_end HB0.out hbk (HW1.out.trans (HE6.out.mono (by rw [← HB.out]; exact HW1.out.size))) (Nat.le_refl _) (RepV.nil _ _) (by rw [HP.out]; rfl) (by rw [HP.out]; rfl)
            | true =>
              have HOK := Lib.hid hok
              have HP := Lib.hid (show parseR s.data.toList = linesR (a.1 ++ [hitV (spc 32 t)], a.2) (spc 10 rt) by rw [← hst.out.2.2.1, HLG.out, HLN.out, hok]; rfl)
              clear hok
              go_wp2_with (first
                | (go_at_call 44; go_must (refine (Tryd.strings_Cut S ⟨#[10]⟩ mm wr HSS.out.1 HMM.out).mono ?_); rintro e w3 ⟨he, hd⟩; rw [show (⟨#[10]⟩ : ByteArray).data.toList = [10] from rfl, HCUT.out] at he; dsimp only at he; rw [HT.out, HRT.out] at he; subst he; have HB3 := Lib.hid (below_drawn hd); have HE3 := Lib.hid (hst.out.2.1.trans (HB3.out.mono HBS.out)); have C2 := Lib.hid (c_split32 T HSS.out.2.1 w3 (HG.out.below HE3.out (by rw [← HB.out]; exact HG.out.sz))); rw [HTD.out] at C2; clear hd)
                | (go_at_call 36; go_must (refine C2.out.mono ?_); rintro e w4 ⟨n4, he, hn4, hw4⟩; obtain rfl : 4 = n4 := (by rw [← hn4]; exact HKL.out.symm); subst he; have HRV4 := Lib.hid (show RV w4 (some ⟨w3.heap.size, 0, none⟩) (strs (spc 32 t)) by rw [hw4]; exact rv_strs _ (by simp)); have HB4 := Lib.hid (HB3.out.trans ((show Below w3.heap.size w3 w4 by rw [hw4]; exact (Below.refl _ _).alloc (Nat.le_refl _) _).mono HB3.out.size)); have HE4 := Lib.hid (hst.out.2.1.trans (HB4.out.mono HBS.out)); have C3 := Lib.hid (c_kind w3.heap.size 4 4 (spc 32 t) w4 HRV4.out HKL.out (HNE.out _ HKL.out)); clear hw4)
                | (go_at_call 45; go_must (refine C3.out.mono ?_); rintro e w5 ⟨he, rfl⟩; rw [HK.out] at he; subst he; have C4 := Lib.hid (c_addHit B B w3.heap.size 4 (spc 32 t) a _ (RO.rp hst.out.1 HB4.out) HRV4.out HKL.out HWL.out HAL.out (Nat.le_trans HBS.out HB4.out.size) (HG.out.below HE4.out (by rw [← HB.out]; exact HG.out.sz))))
                | (go_at_call 46; go_must (refine C4.out.mono ?_); rintro e w6 ⟨he, hb6, hr6⟩; rw [HOK.out] at he; subst he; have HE6 := Lib.hid (HE4.out.trans hb6); have HR6 := Lib.hid hr6; obtain ⟨f1, f2, g1, g2⟩ := HFR.out _ HE6.out; clear hb6 hr6))
              go_roundg R.size
              case measure => exact HRS.out.2
              case rel => exact ⟨R, 1, (a.1 ++ [hitV (spc 32 t)], a.2), Nat.le_refl _, rfl, rfl, by omega, Lib.hid ⟨HR6.out, HE6.out, by rw [HRD.out]; exact HP.out.symm, HL2A.out, by rw [List.length_append]; have h1 := hst.out.2.2.2.2; have h2 := HRS.out.1; simp only [List.length_cons, List.length_nil]; omega⟩⟩
          · have HKL := Lib.hid (kind_2 hK)
            have HLN := Lib.hid (show lineR a (spc 32 t) = if whyB (spc 32 t) then some (a.1, a.2 ++ [whyV (spc 32 t)]) else none from by rw [← addV_iff]; unfold lineR; rw [if_neg (by omega), if_pos hK])
            have HAL := Lib.hid HAL1.out.2
            have HL2A := Lib.hid (show (2 = 2 ↔ a.2 ++ [whyV (spc 32 t)] ≠ []) from ⟨fun _ => by simp, fun _ => rfl⟩)
            clear hK hb
            cases hok : whyB (spc 32 t) with
            | false =>
              have HOK := Lib.hid hok
              have HP := Lib.hid (show parseR s.data.toList = none by rw [← hst.out.2.2.1, HLG.out, HLN.out, hok]; rfl)
              clear hok
              go_wp2_with (first
                | (go_at_call 44; go_must (refine (Tryd.strings_Cut S ⟨#[10]⟩ mm wr HSS.out.1 HMM.out).mono ?_); rintro e w3 ⟨he, hd⟩; rw [show (⟨#[10]⟩ : ByteArray).data.toList = [10] from rfl, HCUT.out] at he; dsimp only at he; rw [HT.out, HRT.out] at he; subst he; have HB3 := Lib.hid (below_drawn hd); have HE3 := Lib.hid (hst.out.2.1.trans (HB3.out.mono HBS.out)); have C2 := Lib.hid (c_split32 T HSS.out.2.1 w3 (HG.out.below HE3.out (by rw [← HB.out]; exact HG.out.sz))); rw [HTD.out] at C2; clear hd)
                | (go_at_call 36; go_must (refine C2.out.mono ?_); rintro e w4 ⟨n4, he, hn4, hw4⟩; obtain rfl : 3 = n4 := (by rw [← hn4]; exact HKL.out.symm); subst he; have HRV4 := Lib.hid (show RV w4 (some ⟨w3.heap.size, 0, none⟩) (strs (spc 32 t)) by rw [hw4]; exact rv_strs _ (by simp)); have HB4 := Lib.hid (HB3.out.trans ((show Below w3.heap.size w3 w4 by rw [hw4]; exact (Below.refl _ _).alloc (Nat.le_refl _) _).mono HB3.out.size)); have HE4 := Lib.hid (hst.out.2.1.trans (HB4.out.mono HBS.out)); have C3 := Lib.hid (c_kind w3.heap.size 3 3 (spc 32 t) w4 HRV4.out HKL.out (HNE.out _ HKL.out)); clear hw4)
                | (go_at_call 45; go_must (refine C3.out.mono ?_); rintro e w5 ⟨he, rfl⟩; rw [HK.out] at he; subst he; have C4 := Lib.hid (c_addWhy B B w3.heap.size 3 (spc 32 t) a _ (RO.rp hst.out.1 HB4.out) HRV4.out HKL.out HWL.out HAL.out (Nat.le_trans HBS.out HB4.out.size) (HG.out.below HE4.out (by rw [← HB.out]; exact HG.out.sz))))
                | (go_at_call 47; go_must (refine C4.out.mono ?_); rintro e w6 ⟨he, hb6, hr6⟩; rw [HOK.out] at he; subst he; have HE6 := Lib.hid (HE4.out.trans hb6); have HR6 := Lib.hid hr6; obtain ⟨f1, f2, g1, g2⟩ := HFR.out _ HE6.out; clear hb6 hr6))
              have hbk := HRB.out _ HE6.out
              have h0 := heap_set (heap_set hbk 0 (.slice none 0 0)) 1 (.slice none 0 0)
              refine bodyPost_ret (res_cell rfl _ _ b0 _ _ _ _ rfl h0 Tryd.underlying36 (by kernel_rfl)) rfl ?_
              exact parse_end HB0.out hbk (HW1.out.trans (HE6.out.mono (by rw [← HB.out]; exact HW1.out.size))) (Nat.le_refl _) (RepV.nil _ _) (by rw [HP.out]; rfl) (by rw [HP.out]; rfl)
            | true =>
              have HOK := Lib.hid hok
              have HP := Lib.hid (show parseR s.data.toList = linesR (a.1, a.2 ++ [whyV (spc 32 t)]) (spc 10 rt) by rw [← hst.out.2.2.1, HLG.out, HLN.out, hok]; rfl)
              clear hok
              go_wp2_with (first
                | (go_at_call 44; go_must (refine (Tryd.strings_Cut S ⟨#[10]⟩ mm wr HSS.out.1 HMM.out).mono ?_); rintro e w3 ⟨he, hd⟩; rw [show (⟨#[10]⟩ : ByteArray).data.toList = [10] from rfl, HCUT.out] at he; dsimp only at he; rw [HT.out, HRT.out] at he; subst he; have HB3 := Lib.hid (below_drawn hd); have HE3 := Lib.hid (hst.out.2.1.trans (HB3.out.mono HBS.out)); have C2 := Lib.hid (c_split32 T HSS.out.2.1 w3 (HG.out.below HE3.out (by rw [← HB.out]; exact HG.out.sz))); rw [HTD.out] at C2; clear hd)
                | (go_at_call 36; go_must (refine C2.out.mono ?_); rintro e w4 ⟨n4, he, hn4, hw4⟩; obtain rfl : 3 = n4 := (by rw [← hn4]; exact HKL.out.symm); subst he; have HRV4 := Lib.hid (show RV w4 (some ⟨w3.heap.size, 0, none⟩) (strs (spc 32 t)) by rw [hw4]; exact rv_strs _ (by simp)); have HB4 := Lib.hid (HB3.out.trans ((show Below w3.heap.size w3 w4 by rw [hw4]; exact (Below.refl _ _).alloc (Nat.le_refl _) _).mono HB3.out.size)); have HE4 := Lib.hid (hst.out.2.1.trans (HB4.out.mono HBS.out)); have C3 := Lib.hid (c_kind w3.heap.size 3 3 (spc 32 t) w4 HRV4.out HKL.out (HNE.out _ HKL.out)); clear hw4)
                | (go_at_call 45; go_must (refine C3.out.mono ?_); rintro e w5 ⟨he, rfl⟩; rw [HK.out] at he; subst he; have C4 := Lib.hid (c_addWhy B B w3.heap.size 3 (spc 32 t) a _ (RO.rp hst.out.1 HB4.out) HRV4.out HKL.out HWL.out HAL.out (Nat.le_trans HBS.out HB4.out.size) (HG.out.below HE4.out (by rw [← HB.out]; exact HG.out.sz))))
                | (go_at_call 47; go_must (refine C4.out.mono ?_); rintro e w6 ⟨he, hb6, hr6⟩; rw [HOK.out] at he; subst he; have HE6 := Lib.hid (HE4.out.trans hb6); have HR6 := Lib.hid hr6; obtain ⟨f1, f2, g1, g2⟩ := HFR.out _ HE6.out; clear hb6 hr6))
              go_roundg R.size
              case measure => exact HRS.out.2
              case rel => exact ⟨R, 2, (a.1, a.2 ++ [whyV (spc 32 t)]), Nat.le_refl _, rfl, rfl, by omega, Lib.hid ⟨HR6.out, HE6.out, by rw [HRD.out]; exact HP.out.symm, ⟨fun _ => by simp, fun _ => rfl⟩, by rw [List.length_append]; have h1 := hst.out.2.2.2.2; have h2 := HRS.out.1; simp only [List.length_cons, List.length_nil]; omega⟩⟩
end Go.Proofs.YtgjningfpkoooaaDoor.Ro
