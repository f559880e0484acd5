/- report.Text. -/
import Derived.Test.YtgjningfpkoooaaDoorQc
import Derived.Test.YtgjningfpkoooaaDoorQd
namespace Go.Proofs.YtgjningfpkoooaaDoor.Ro
set_option linter.unusedVariables false
set_option linter.unusedSimpArgs false
open Go.RowKit Go.Proofs.YtgjningfpkoooaaDoor.W

def TextRIs (w : World) (r : Rp) (e : Ending) (w' : World) : Prop := e = .returned (.tuple #[.string ⟨(textR r).toArray⟩, .bool (okR r)]) ∧ Below w.heap.size w w'
/-- Small enough to be told. -/
def Fit (r : Rp) : Prop := r.1.length ≤ 1048576 ∧ r.2.length ≤ 1048576 ∧ (∀ h ∈ r.1, h.2.1.length ≤ 1048576) ∧ ∀ v ∈ r.2, v.1.length ≤ 1048576
theorem numL_len {n : Int} (h : okN n = true) : (numL n).length ≤ 10 := by
  have := (okN_iff n).1 h
  unfold numL
  exact dec_len10 (by unfold top; omega)
theorem textP_len (l : List Int) : (textP l).length ≤ 11 * l.length + 1 := by
  cases h : okP l with
  | false => unfold textP; rw [if_neg (by simp [h])]; simp
  | true =>
    have h1 := (okP_iff l).1 h
    rw [textP_pre h1]
    split
    · simp
    · have := preT_len l h1; omega
theorem hitL_len {h : Ht} (ho : okH h = true) : (hitL h).length ≤ 11 * h.2.1.length + 40 := by
  simp only [okH, Bool.and_eq_true] at ho
  have h1 := numL_len ho.1.1
  have h2 := numL_len ho.2
  have h3 := textP_len h.2.1
  unfold hitL
  simp only [List.length_append, List.length_cons, List.length_nil]
  omega
theorem whyL_len {v : Vd} (ho : okV v = true) : (whyL v).length ≤ 11 * v.1.length + 40 := by
  simp only [okV, Bool.and_eq_true] at ho
  have h2 := numL_len ho.2
  have h3 := textP_len v.1
  unfold whyL
  simp only [List.length_append, List.length_cons, List.length_nil]
  omega
theorem flat_len {α : Type} (f : α → List UInt8) (K : Nat) : ∀ (l : List α), (∀ a ∈ l, (f a).length ≤ K) → (l.flatMap f).length ≤ K * l.length
  | [], _ => by simp
  | a :: l, h => by
    have h1 := flat_len f K l (fun b hb => h b (List.mem_cons_of_mem _ hb))
    have h2 := h a (by simp)
    rw [List.flatMap_cons, List.length_append, List.length_cons, Nat.mul_add]
    omega
theorem flat_take {α : Type} (f : α → List UInt8) {l : List α} {i : Nat} {x : α} (h : l[i]? = some x) : (l.take (i + 1)).flatMap f = (l.take i).flatMap f ++ f x := by
  obtain ⟨h1, h2⟩ := List.getElem?_eq_some_iff.1 h
  rw [List.take_succ_eq_append_getElem h1, h2, List.flatMap_append]
  simp
theorem all_take {α : Type} (p : α → Bool) {l : List α} {i : Nat} {x : α} (h : l[i]? = some x) (ha : (l.take i).all p = true) (hp : p x = true) : (l.take (i + 1)).all p = true := by
  obtain ⟨h1, h2⟩ := List.getElem?_eq_some_iff.1 h
  rw [List.take_succ_eq_append_getElem h1, h2, List.all_append, ha]
  simp [hp]
theorem all_bad {α : Type} (p : α → Bool) {l : List α} {i : Nat} {x : α} (h : l[i]? = some x) (hp : p x = false) : l.all p = false := by
  cases ha : l.all p with
  | false => rfl
  | true => rw [List.all_eq_true] at ha; rw [ha x (List.mem_of_getElem? h)] at hp; cases hp
theorem isb_keep {T e : TypeId} {B b : Nat} {bs : List Value} {w w' : World} (h : Lib.IsBuilder T e B b bs w) (hb : Below w.heap.size w w') : Lib.IsBuilder T e B b bs w' := h.imp (fun h => bd_keep h hb) (fun h => bd_keep h hb)
theorem numT_len (n : Int) : (numT n).length ≤ 10 := by
  unfold numT
  split
  · exact numL_len (by assumption)
  · simp
theorem rv_strs {w : World} {cs : Array Value} {ws : List (List UInt8)} (t : TypeId) (h : cs.toList = strs ws) : RV (w.alloc (.cells cs t)) (some ⟨w.heap.size, 0, none⟩) (strs ws) := by
  rw [← h]
  exact RV.new cs t
theorem gw_sz {w : World} (h : Gw w) : 8 ≤ w.heap.size := h.sz
def hitT (x1 : Int) (xp : List Int) (x3 : Int) : List (List UInt8) := [hitW, numT x1, textP xp, numT x3]
def whyT (xp : List Int) (x3 : Int) : List (List UInt8) := [whyW, textP xp, numT x3]
theorem hitT_len (x1 : Int) (xp : List Int) (x3 : Int) : (Lib.join (hitT x1 xp x3) [32]).length ≤ 11 * xp.length + 40 := by
  have h1 := numT_len x1
  have h2 := numT_len x3
  have h3 := textP_len xp
  unfold hitT
  rw [join_flat]
  simp only [hitW, List.flatMap_cons, List.flatMap_nil, List.length_append, List.length_cons, List.length_nil]
  omega
theorem whyT_len (xp : List Int) (x3 : Int) : (Lib.join (whyT xp x3) [32]).length ≤ 11 * xp.length + 40 := by
  have h2 := numT_len x3
  have h3 := textP_len xp
  unfold whyT
  rw [join_flat]
  simp only [whyW, List.flatMap_cons, List.flatMap_nil, List.length_append, List.length_cons, List.length_nil]
  omega
theorem hitT_ok {x1 : Int} {xp : List Int} {x3 : Int} (h1 : okN x1 = true) (h3 : okN x3 = true) : Lib.join (hitT x1 xp x3) [32] ++ [10] = hitL (x1, xp, x3) := by
  rw [hitL_join]
  unfold hitT hitS numT
  rw [if_pos h1, if_pos h3]
theorem whyT_ok {xp : List Int} {x3 : Int} (h3 : okN x3 = true) : Lib.join (whyT xp x3) [32] ++ [10] = whyL (xp, x3) := by
  rw [whyL_join]
  unfold whyT whyS numT
  rw [if_pos h3]
set_option maxHeartbeats 8000000 in
set_option maxRecDepth 100000 in
theorem c_rtext (A : Option Addr) (n c : Nat) (A2 : Option Addr) (m c2 : Nat) (r : Rp) (w : World) (h : RepAt w 0 A n c A2 m c2 r) (hf : Fit r) (hG : Gw w) :
    Calls Tryd.prog 24 #[.agg #[.slice A n c, .slice A2 m c2]] w (TextRIs w r) := by
  obtain ⟨hs, vs⟩ := r
  obtain ⟨w1, hw1⟩ : ∃ w1, w.alloc (.cells #[.slice A n c, .slice A2 m c2] 36) = w1 := ⟨_, rfl⟩
  have HW1 := Lib.hid (show Below w.heap.size w w1 by rw [← hw1]; exact (Below.refl _ _).alloc (Nat.le_refl _) _)
  have HZ1 := Lib.hid (show w1.heap.size = w.heap.size + 1 by rw [← hw1]; simp)
  have HR := Lib.hid (h.below HW1.out)
  have HG := Lib.hid (hG.below HW1.out hG.sz)
  have HF := Lib.hid hf
  clear h hG hf
  go_enter Tryd.func24, Tryd.ntmps24
  go_upto_region 2 with (fail)
  obtain ⟨B, hB⟩ : ∃ B, w1.heap.size = B := ⟨_, rfl⟩
  have HB := Lib.hid hB
  have HD0 := Lib.hid (show Bd (w1.alloc (.cells #[.pointer none, .slice none 0 0] 50)) B [] from hB ▸ Lib.fresh_isBuilder 50 5 w1)
  have HE0 := Lib.hid (show Below B w1 (w1.alloc (.cells #[.pointer none, .slice none 0 0] 50)) from hB ▸ (Below.refl _ _).alloc (Nat.le_refl _) _)
  have HC := Lib.hid (show ∀ wx, Below B w1 wx → wx.cell? ⟨w.heap.size, 0, none⟩ = some (.slice A n c) ∧ wx.cell? ⟨w.heap.size, 1, none⟩ = some (.slice A2 m c2) from fun wx hb => by
    have h0 : w1.heap[w.heap.size]? = some (.cells #[.slice A n c, .slice A2 m c2] 36 (0, 0)) := by rw [← hw1]; exact heap_alloc_new w _
    have h1 := (hb.block w.heap.size (by rw [← hB, HZ1.out]; exact Nat.lt_succ_self _)).trans h0
    exact ⟨cell_of_row wx w.heap.size 0 _ _ _ h1, cell_of_row wx w.heap.size 1 _ _ _ h1⟩)
  rw [hB]
  generalize w1.alloc (.cells #[.pointer none, .slice none 0 0] 50) = w2 at *
  clear hB hw1
  obtain ⟨b0, hb0⟩ : ∃ b0, w.heap.size = b0 := ⟨_, rfl⟩
  rw [hb0] at HC ⊢
  have HB0 := Lib.hid hb0
  clear hb0
  obtain ⟨c0, c1⟩ := HC.out _ HE0.out
  have hn : n ≤ 1048576 := by have h1 : hs.length = n := HR.out.1; have h2 : hs.length ≤ 1048576 := HF.out.1; omega
  have hm : m ≤ 1048576 := by have h1 : vs.length = m := HR.out.2.2.1; have h2 : vs.length ≤ 1048576 := HF.out.2.1; omega
  go_wp2_with (fail)
  go_loopg [26] n (fun g s26 wx => ∃ i : Nat, i + g = n ∧ s26 = .int .i64 (i : Nat) ∧ Hid (Bd wx B ((hs.take i).flatMap hitL) ∧ Below B w1 wx ∧ (hs.take i).all okH = true))
  case atStart => exact ⟨0, by omega, rfl, Lib.hid ⟨HD0.out, HE0.out, by rw [List.take_zero]; rfl⟩⟩
  case round =>
    obtain ⟨i, hig, rfl, hst⟩ := hrel
    cases gk with
    | zero =>
      obtain rfl : i = n := by omega
      have hk : ¬ (i : Int) < (i : Int) := by omega
      have HLH := Lib.hid (show hs.length = i from HR.out.1)
      have HD1 := Lib.hid (show Bd wr B (hs.flatMap hitL ++ (vs.take 0).flatMap whyL) by have h := hst.out.1; rw [← HLH.out, List.take_length] at h; rw [List.take_zero, List.flatMap_nil, List.append_nil]; exact h)
      have HALL := Lib.hid (show hs.all okH = true by have h := hst.out.2.2; rw [← HLH.out, List.take_length] at h; exact h)
      have HE1 := Lib.hid hst.out.2.1
      obtain ⟨e0, e1⟩ := HC.out _ HE1.out
      clear hst
      go_wp2_with (fail)
      go_loopg [71] m (fun g s71 wx => ∃ i : Nat, i + g = m ∧ s71 = .int .i64 (i : Nat) ∧ Hid (Bd wx B (hs.flatMap hitL ++ (vs.take i).flatMap whyL) ∧ Below B w1 wx ∧ (vs.take i).all okV = true))
      case atStart => exact ⟨0, by omega, rfl, Lib.hid ⟨HD1.out, HE1.out, by rw [List.take_zero]; rfl⟩⟩
      case round =>
        obtain ⟨j, hjg, rfl, hst⟩ := hrel
        cases gk with
        | zero =>
          obtain rfl : j = m := by omega
          have hk : ¬ (j : Int) < (j : Int) := by omega
          have HLV := Lib.hid (show vs.length = j from HR.out.2.2.1)
          have HOK := Lib.hid (show okR (hs, vs) = true by have h := hst.out.2.2; rw [← HLV.out, List.take_length] at h; unfold okR; dsimp only; rw [HALL.out, h]; rfl)
          have C2 := Lib.hid (Tryd.Builder_String_any B B _ wr hst.out.1 (by have h1 := hst.out.2.1.size; rw [HB.out] at h1; exact h1))
          go_wp2_with (first
            | (go_at_call 34; go_must (refine C2.out.mono ?_); rintro e w3 ⟨rfl, h1⟩; have HW3 := Lib.hid (hst.out.2.1.trans h1); clear h1))
          go_ret2
          refine ⟨?_, HW1.out.trans (HW3.out.mono (by rw [← HB.out]; exact HW1.out.size))⟩
          unfold textR
          rw [HOK.out, if_pos rfl, ← HLV.out, List.take_length]
          rfl
        | succ g =>
          have hk : (j : Int) < (m : Int) := by omega
          have hk0 : (0 : Int) ≤ (j : Int) := by omega
          obtain ⟨⟨xp, x3⟩, hx⟩ : ∃ x, vs[j]? = some x := ⟨_, List.getElem?_eq_getElem (by have : vs.length = m := HR.out.2.2.1; omega)⟩
          have hfr := hst.out.2.1
          have HRw := Lib.hid (HR.out.below (by rw [HB.out]; exact hfr))
          obtain ⟨gb, off, Ap, np, cp, rfl, hlt, q0, q1, q3, q4, q5, q6⟩ := HRw.out.2.2.2.2.2.verd hx
          dsimp only at q0 q1 q3 q6
          have HX := Lib.hid hx
          have HFX := Lib.hid (show xp.length ≤ 1048576 ∧ j < 1048576 ∧ (vs.take j).length ≤ j from ⟨HF.out.2.2.2 _ (List.mem_of_getElem? hx), by omega, by rw [List.length_take]; omega⟩)
          have hszr : B ≤ wr.heap.size := by have := hfr.size; rw [HB.out] at this; exact this
          obtain ⟨wa, hwa⟩ : ∃ wa, wr.alloc (.cells #[.slice Ap np cp, .int .i64 x3] 68) = wa := ⟨_, rfl⟩
          have HBA := Lib.hid (show Below wr.heap.size wr wa by rw [← hwa]; exact (Below.refl _ _).alloc (Nat.le_refl _) _)
          have HZA := Lib.hid (show wa.heap.size = wr.heap.size + 1 by rw [← hwa]; simp)
          have HCA := Lib.hid (show ∀ wx, Below wa.heap.size wa wx → wx.cell? ⟨wr.heap.size, 0, none⟩ = some (.slice Ap np cp) ∧ wx.cell? ⟨wr.heap.size, 1, none⟩ = some (.int .i64 x3) from fun wx hb => by
            have h0 : wa.heap[wr.heap.size]? = some (.cells #[.slice Ap np cp, .int .i64 x3] 68 (0, 0)) := by rw [← hwa]; exact heap_alloc_new wr _
            have h1 := (hb.block wr.heap.size (by rw [HZA.out]; exact Nat.lt_succ_self _)).trans h0
            exact ⟨cell_of_row wx _ 0 _ _ _ h1, cell_of_row wx _ 1 _ _ _ h1⟩)
          have HAL := Lib.hid (show ∀ wx, Below wa.heap.size wa wx → Gw wx ∧ RV wx Ap (is64 xp) ∧ Bd wx B (hs.flatMap hitL ++ (vs.take j).flatMap whyL) ∧ Below B w1 wx from fun wx hb => by
            have h1 : Below wr.heap.size wr wx := HBA.out.trans (hb.mono (by rw [HZA.out]; exact Nat.le_succ _))
            have h2 : Below B w1 wx := hst.out.2.1.trans (h1.mono hszr)
            exact ⟨HG.out.below h2 (by rw [← HB.out]; exact HG.out.sz), q6.below h1, isb_keep hst.out.1 h1, h2⟩)
          have HSA := Lib.hid (show ∀ wx, Below wa.heap.size wa wx → B ≤ wx.heap.size ∧ wr.heap.size < wx.heap.size from fun wx hb => by have := hb.size; rw [HZA.out] at this; exact ⟨by omega, by omega⟩)
          obtain ⟨a0, a1⟩ := HCA.out _ (Below.refl _ _)
          have HN := Lib.hid q3
          have HN6 := Lib.hid q5
          have C2 := Lib.hid (c_text Ap np cp xp wa HN.out HN6.out (HAL.out _ (Below.refl _ _)).2.1 (HAL.out _ (Below.refl _ _)).1)
          obtain ⟨o2, ho2⟩ : ∃ o, okP xp = o := ⟨_, rfl⟩
          obtain ⟨o3, ho3⟩ : ∃ o, okN x3 = o := ⟨_, rfl⟩
          have HO2 := Lib.hid ho2
          have HO3 := Lib.hid ho3
          obtain ⟨o, ho⟩ : ∃ o, (o2 && o3) = o := ⟨_, rfl⟩
          have HO := Lib.hid (show okV (xp, x3) = o by unfold okV; dsimp only; rw [ho2, ho3]; exact ho)
          clear hx hfr q3 q6 ho2 ho3 q5
          have hb3 : (o = true ∧ o2 = true ∧ o3 = true) ∨ (o = false ∧ ((o2 = true ∧ o3 = false) ∨ o2 = false)) := by
            subst ho
            cases o2 <;> cases o3 <;> simp
          clear ho
          rcases hb3 with ⟨rfl, rfl, rfl⟩ | ⟨rfl, hb3⟩
          · have HPL := Lib.hid (show (hs.flatMap hitL ++ (vs.take j).flatMap whyL).length ≤ 11534400 * 2097152 from by
              have h1 := flat_len whyL 11534400 (vs.take j) (fun a ha => by
                have h2 := whyL_len ((List.all_eq_true.1 hst.out.2.2) a ha)
                have h3 : a.1.length ≤ 1048576 := HF.out.2.2.2 a (List.mem_of_mem_take ha)
                omega)
              have h0 := flat_len hitL 11534400 hs (fun a ha => by
                have h2 := hitL_len ((List.all_eq_true.1 HALL.out) a ha)
                have h3 : a.2.1.length ≤ 1048576 := HF.out.2.2.1 a ha
                omega)
              have h4 : hs.length ≤ 1048576 := HF.out.1
              have := HFX.out
              rw [List.length_append]
              omega)
            go_wp2_with (first
              | (go_at_call 41; go_must (refine C3.out.mono ?_); rintro e w6 ⟨he, hb⟩; rw [HO3.out] at he; obtain ⟨S3, hS3⟩ : ∃ S : ByteArray, (⟨(numT x3).toArray⟩ : ByteArray) = S := ⟨_, rfl⟩; rw [hS3] at he; subst he; have HS3 := Lib.hid hS3; have HB6 := Lib.hid (HB5.out.trans (hb.mono HB5.out.size)); have C4 := Lib.hid (c_line true w6.heap.size 3 (whyT xp x3) (w6.alloc (.cells #[.string ⟨#[119, 104, 121]⟩, .string S2, .string S3] 9)) (rv_strs _ (by rw [← HS2.out, ← HS3.out]; rfl)) (by simp) rfl (by omega) (by have := whyT_len xp x3; have := HFX.out.1; omega)); clear hb hS3)
              | (go_at_call 12; go_must (refine C2.out.mono ?_); rintro e w5 ⟨he, hb⟩; rw [HO2.out] at he; obtain ⟨S2, hS2⟩ : ∃ S : ByteArray, (⟨(textP xp).toArray⟩ : ByteArray) = S := ⟨_, rfl⟩; rw [hS2] at he; subst he; have HS2 := Lib.hid hS2; have HB5 := Lib.hid hb; have C3 := Lib.hid (c_number x3 w5 (HAL.out _ HB5.out).1); obtain ⟨d4, d5⟩ := HCA.out _ HB5.out; clear hb hS2)
              | (go_at_call 42; go_must (refine C4.out.mono ?_); rintro e w7 ⟨he, hb⟩; obtain ⟨S4, hS4⟩ : ∃ S : ByteArray, (⟨(Lib.join (whyT xp x3) [32] ++ [10]).toArray⟩ : ByteArray) = S := ⟨_, rfl⟩; rw [hS4] at he; subst he; have HS4 := Lib.hid hS4; have HB7 := Lib.hid (HB6.out.trans ((((Below.refl w6.heap.size w6).alloc (Nat.le_refl _) _).trans (hb.mono (by simp))).mono HB6.out.size)); clear hb hS4; have C5 := Lib.hid (c_wstring B B (Lib.byteCells (hs.flatMap hitL ++ (vs.take j).flatMap whyL)) S4 w7 (HAL.out _ HB7.out).2.2.1 (by rw [cells_len, ← HS4.out, size_str, List.length_append (bs := [10])]; have := whyT_len xp x3; have := HFX.out.1; have := HPL.out; rw [List.length_singleton]; omega) (HSA.out _ HB7.out).1))
              | (go_at_call 32; go_must (refine C5.out.mono ?_); rintro e w8 ⟨rfl, h1, h2⟩; have HD8 := Lib.hid h1; have HE8 := Lib.hid ((HAL.out _ HB7.out).2.2.2.trans h2); clear h1 h2))
            go_roundg g
            case measure => omega
            case rel =>
              refine ⟨j + 1, by omega, by go_num, Lib.hid ⟨.inr ?_, HE8.out, all_take okV HX.out hst.out.2.2 HO.out⟩⟩
              have h9 := HD8.out
              rw [← HS4.out, cells_str, whyT_ok HO3.out, List.append_assoc, ← flat_take whyL HX.out] at h9
              exact h9
          · have HBAD := Lib.hid (all_bad okV HX.out HO.out)
            rcases hb3 with ⟨rfl, rfl⟩ | rfl
            all_goals go_wp2_with (first
              | (go_at_call 41; go_must (refine C3.out.mono ?_); rintro e w6 ⟨he, hb⟩; rw [HO3.out] at he; obtain ⟨S3, hS3⟩ : ∃ S : ByteArray, (⟨(numT x3).toArray⟩ : ByteArray) = S := ⟨_, rfl⟩; rw [hS3] at he; subst he; have HS3 := Lib.hid hS3; have HB6 := Lib.hid (HB5.out.trans (hb.mono HB5.out.size)); have C4 := Lib.hid (c_line false w6.heap.size 3 (whyT xp x3) (w6.alloc (.cells #[.string ⟨#[119, 104, 121]⟩, .string S2, .string S3] 9)) (rv_strs _ (by rw [← HS2.out, ← HS3.out]; rfl)) (by simp) rfl (by omega) (by have := whyT_len xp x3; have := HFX.out.1; omega)); clear hb hS3)
              | (go_at_call 12; go_must (refine C2.out.mono ?_); rintro e w5 ⟨he, hb⟩; rw [HO2.out] at he; obtain ⟨S2, hS2⟩ : ∃ S : ByteArray, (⟨(textP xp).toArray⟩ : ByteArray) = S := ⟨_, rfl⟩; rw [hS2] at he; subst he; have HS2 := Lib.hid hS2; have HB5 := Lib.hid hb; have C3 := Lib.hid (c_number x3 w5 (HAL.out _ HB5.out).1); obtain ⟨d4, d5⟩ := HCA.out _ HB5.out; clear hb hS2)
              | (go_at_call 42; go_must (refine C4.out.mono ?_); rintro e w7 ⟨he, hb⟩; obtain ⟨S4, hS4⟩ : ∃ S : ByteArray, (⟨(Lib.join (whyT xp x3) [32] ++ [10]).toArray⟩ : ByteArray) = S := ⟨_, rfl⟩; rw [hS4] at he; subst he; have HS4 := Lib.hid hS4; have HB7 := Lib.hid (HB6.out.trans ((((Below.refl w6.heap.size w6).alloc (Nat.le_refl _) _).trans (hb.mono (by simp))).mono HB6.out.size)); clear hb hS4))
            all_goals go_ret2
            all_goals refine ⟨?_, HW1.out.trans ((HAL.out _ HB7.out).2.2.2.mono (by rw [← HB.out]; exact HW1.out.size))⟩
            all_goals
              have hz : okR (hs, vs) = false := by unfold okR; dsimp only; rw [HBAD.out, HALL.out]; rfl
              unfold textR
              rw [hz]
              rfl
    | succ g =>
      have hk : (i : Int) < (n : Int) := by omega
      have hk0 : (0 : Int) ≤ (i : Int) := by omega
      obtain ⟨⟨x1, xp, x3⟩, hx⟩ : ∃ x, hs[i]? = some x := ⟨_, List.getElem?_eq_getElem (by have : hs.length = n := HR.out.1; omega)⟩
      have hfr := hst.out.2.1
      have HRw := Lib.hid (HR.out.below (by rw [HB.out]; exact hfr))
      obtain ⟨gb, off, Ap, np, cp, rfl, hlt, q0, q1, q2, q3, q4, q5, q6⟩ := HRw.out.2.2.2.2.1.hit hx
      dsimp only at q0 q1 q2 q3 q6
      have HX := Lib.hid hx
      have HFX := Lib.hid (show xp.length ≤ 1048576 ∧ i < 1048576 ∧ (hs.take i).length ≤ i from ⟨HF.out.2.2.1 _ (List.mem_of_getElem? hx), by have h1 : hs.length = n := HR.out.1; have h2 : hs.length ≤ 1048576 := HF.out.1; omega, by rw [List.length_take]; omega⟩)
      have hszr : B ≤ wr.heap.size := by have := hfr.size; rw [HB.out] at this; exact this
      obtain ⟨wa, hwa⟩ : ∃ wa, wr.alloc (.cells #[.int .i64 x1, .slice Ap np cp, .int .i64 x3] 44) = wa := ⟨_, rfl⟩
      have HBA := Lib.hid (show Below wr.heap.size wr wa by rw [← hwa]; exact (Below.refl _ _).alloc (Nat.le_refl _) _)
      have HZA := Lib.hid (show wa.heap.size = wr.heap.size + 1 by rw [← hwa]; simp)
      have HCA := Lib.hid (show ∀ wx, Below wa.heap.size wa wx → wx.cell? ⟨wr.heap.size, 0, none⟩ = some (.int .i64 x1) ∧ wx.cell? ⟨wr.heap.size, 1, none⟩ = some (.slice Ap np cp) ∧ wx.cell? ⟨wr.heap.size, 2, none⟩ = some (.int .i64 x3) from fun wx hb => by
        have h0 : wa.heap[wr.heap.size]? = some (.cells #[.int .i64 x1, .slice Ap np cp, .int .i64 x3] 44 (0, 0)) := by rw [← hwa]; exact heap_alloc_new wr _
        have h1 := (hb.block wr.heap.size (by rw [HZA.out]; exact Nat.lt_succ_self _)).trans h0
        exact ⟨cell_of_row wx _ 0 _ _ _ h1, cell_of_row wx _ 1 _ _ _ h1, cell_of_row wx _ 2 _ _ _ h1⟩)
      have HAL := Lib.hid (show ∀ wx, Below wa.heap.size wa wx → Gw wx ∧ RV wx Ap (is64 xp) ∧ Bd wx B ((hs.take i).flatMap hitL) ∧ Below B w1 wx from fun wx hb => by
        have h1 : Below wr.heap.size wr wx := HBA.out.trans (hb.mono (by rw [HZA.out]; exact Nat.le_succ _))
        have h2 : Below B w1 wx := hst.out.2.1.trans (h1.mono hszr)
        exact ⟨HG.out.below h2 (by rw [← HB.out]; exact HG.out.sz), q6.below h1, isb_keep hst.out.1 h1, h2⟩)
      have HSA := Lib.hid (show ∀ wx, Below wa.heap.size wa wx → B ≤ wx.heap.size ∧ wr.heap.size < wx.heap.size from fun wx hb => by have := hb.size; rw [HZA.out] at this; exact ⟨by omega, by omega⟩)
      obtain ⟨a0, a1, a2⟩ := HCA.out _ (Below.refl _ _)
      have HN := Lib.hid q3
      have HN6 := Lib.hid q5
      have tk1 : True := trivial
      have C1 := Lib.hid (c_number x1 wa (HAL.out _ (Below.refl _ _)).1)
      obtain ⟨o1, ho1⟩ : ∃ o, okN x1 = o := ⟨_, rfl⟩
      obtain ⟨o2, ho2⟩ : ∃ o, okP xp = o := ⟨_, rfl⟩
      obtain ⟨o3, ho3⟩ : ∃ o, okN x3 = o := ⟨_, rfl⟩
      have HO1 := Lib.hid ho1
      have HO2 := Lib.hid ho2
      have HO3 := Lib.hid ho3
      obtain ⟨o, ho⟩ : ∃ o, (o1 && o2 && o3) = o := ⟨_, rfl⟩
      have HO := Lib.hid (show okH (x1, xp, x3) = o by unfold okH; dsimp only; rw [ho1, ho2, ho3]; exact ho)
      clear hx hfr q3 q6 ho1 ho2 ho3 q5
      have hb3 : (o = true ∧ o1 = true ∧ o2 = true ∧ o3 = true) ∨ (o = false ∧ ((o1 = true ∧ o2 = true ∧ o3 = false) ∨ (o1 = true ∧ o2 = false) ∨ o1 = false)) := by
        subst ho
        cases o1 <;> cases o2 <;> cases o3 <;> simp
      clear ho
      rcases hb3 with ⟨rfl, rfl, rfl, rfl⟩ | ⟨rfl, hb3⟩
      · have HPL := Lib.hid (show ((hs.take i).flatMap hitL).length ≤ 11534400 * 1048576 from by
          have h1 := flat_len hitL 11534400 (hs.take i) (fun a ha => by
            have h2 := hitL_len ((List.all_eq_true.1 hst.out.2.2) a ha)
            have h3 : a.2.1.length ≤ 1048576 := HF.out.2.2.1 a (List.mem_of_mem_take ha)
            omega)
          have := HFX.out
          omega)
        go_wp2_with (first
          | (go_at_call 41; have _t := C3; go_must (refine C3.out.mono ?_); rintro e w6 ⟨he, hb⟩; rw [HO3.out] at he; obtain ⟨S3, hS3⟩ : ∃ S : ByteArray, (⟨(numT x3).toArray⟩ : ByteArray) = S := ⟨_, rfl⟩; rw [hS3] at he; subst he; have HS3 := Lib.hid hS3; have HB6 := Lib.hid (HB5.out.trans (hb.mono HB5.out.size)); have C4 := Lib.hid (c_line true w6.heap.size 4 (hitT x1 xp x3) (w6.alloc (.cells #[.string ⟨#[104, 105, 116]⟩, .string S1, .string S2, .string S3] 9)) (rv_strs _ (by rw [← HS1.out, ← HS2.out, ← HS3.out]; rfl)) (by simp) rfl (by omega) (by have := hitT_len x1 xp x3; have := HFX.out.1; omega)); clear hb hS3 _t; clear C3)
          | (go_at_call 41; have _t := tk1; go_must (refine C1.out.mono ?_); rintro e w4 ⟨he, hb⟩; rw [HO1.out] at he; obtain ⟨S1, hS1⟩ : ∃ S : ByteArray, (⟨(numT x1).toArray⟩ : ByteArray) = S := ⟨_, rfl⟩; rw [hS1] at he; subst he; have HS1 := Lib.hid hS1; have HB4 := Lib.hid hb; have C2 := Lib.hid (c_text Ap np cp xp w4 HN.out HN6.out (HAL.out _ HB4.out).2.1 (HAL.out _ HB4.out).1); obtain ⟨b4, b5, b6⟩ := HCA.out _ HB4.out; clear hb hS1 _t; clear tk1)
          | (go_at_call 12; go_must (refine C2.out.mono ?_); rintro e w5 ⟨he, hb⟩; rw [HO2.out] at he; obtain ⟨S2, hS2⟩ : ∃ S : ByteArray, (⟨(textP xp).toArray⟩ : ByteArray) = S := ⟨_, rfl⟩; rw [hS2] at he; subst he; have HS2 := Lib.hid hS2; have HB5 := Lib.hid (HB4.out.trans (hb.mono HB4.out.size)); have C3 := Lib.hid (c_number x3 w5 (HAL.out _ HB5.out).1); obtain ⟨d4, d5, d6⟩ := HCA.out _ HB5.out; clear hb hS2)
          | (go_at_call 42; go_must (refine C4.out.mono ?_); rintro e w7 ⟨he, hb⟩; obtain ⟨S4, hS4⟩ : ∃ S : ByteArray, (⟨(Lib.join (hitT x1 xp x3) [32] ++ [10]).toArray⟩ : ByteArray) = S := ⟨_, rfl⟩; rw [hS4] at he; subst he; have HS4 := Lib.hid hS4; have HB7 := Lib.hid (HB6.out.trans ((((Below.refl w6.heap.size w6).alloc (Nat.le_refl _) _).trans (hb.mono (by simp))).mono HB6.out.size)); clear hb hS4; have C5 := Lib.hid (c_wstring B B (Lib.byteCells ((hs.take i).flatMap hitL)) S4 w7 (HAL.out _ HB7.out).2.2.1 (by rw [cells_len, ← HS4.out, size_str, List.length_append]; have := hitT_len x1 xp x3; have := HFX.out.1; have := HPL.out; rw [List.length_singleton]; omega) (HSA.out _ HB7.out).1))
          | (go_at_call 32; go_must (refine C5.out.mono ?_); rintro e w8 ⟨rfl, h1, h2⟩; have HD8 := Lib.hid h1; have HE8 := Lib.hid ((HAL.out _ HB7.out).2.2.2.trans h2); clear h1 h2))
        go_roundg g
        case measure => omega
        case rel =>
          refine ⟨i + 1, by omega, by go_num, Lib.hid ⟨.inr ?_, HE8.out, all_take okH HX.out hst.out.2.2 HO.out⟩⟩
          have h9 := HD8.out
          rw [← HS4.out, cells_str, hitT_ok HO1.out HO3.out, ← flat_take hitL HX.out] at h9
          exact h9
      · have HBAD := Lib.hid (all_bad okH HX.out HO.out)
        rcases hb3 with ⟨rfl, rfl, rfl⟩ | ⟨rfl, rfl⟩ | rfl
        all_goals go_wp2_with (first
          | (go_at_call 41; have _t := C3; go_must (refine C3.out.mono ?_); rintro e w6 ⟨he, hb⟩; rw [HO3.out] at he; obtain ⟨S3, hS3⟩ : ∃ S : ByteArray, (⟨(numT x3).toArray⟩ : ByteArray) = S := ⟨_, rfl⟩; rw [hS3] at he; subst he; have HS3 := Lib.hid hS3; have HB6 := Lib.hid (HB5.out.trans (hb.mono HB5.out.size)); have C4 := Lib.hid (c_line false w6.heap.size 4 (hitT x1 xp x3) (w6.alloc (.cells #[.string ⟨#[104, 105, 116]⟩, .string S1, .string S2, .string S3] 9)) (rv_strs _ (by rw [← HS1.out, ← HS2.out, ← HS3.out]; rfl)) (by simp) rfl (by omega) (by have := hitT_len x1 xp x3; have := HFX.out.1; omega)); clear hb hS3 _t; clear C3)
          | (go_at_call 41; have _t := tk1; go_must (refine C1.out.mono ?_); rintro e w4 ⟨he, hb⟩; rw [HO1.out] at he; obtain ⟨S1, hS1⟩ : ∃ S : ByteArray, (⟨(numT x1).toArray⟩ : ByteArray) = S := ⟨_, rfl⟩; rw [hS1] at he; subst he; have HS1 := Lib.hid hS1; have HB4 := Lib.hid hb; have C2 := Lib.hid (c_text Ap np cp xp w4 HN.out HN6.out (HAL.out _ HB4.out).2.1 (HAL.out _ HB4.out).1); obtain ⟨b4, b5, b6⟩ := HCA.out _ HB4.out; clear hb hS1 _t; clear tk1)
          | (go_at_call 12; go_must (refine C2.out.mono ?_); rintro e w5 ⟨he, hb⟩; rw [HO2.out] at he; obtain ⟨S2, hS2⟩ : ∃ S : ByteArray, (⟨(textP xp).toArray⟩ : ByteArray) = S := ⟨_, rfl⟩; rw [hS2] at he; subst he; have HS2 := Lib.hid hS2; have HB5 := Lib.hid (HB4.out.trans (hb.mono HB4.out.size)); have C3 := Lib.hid (c_number x3 w5 (HAL.out _ HB5.out).1); obtain ⟨d4, d5, d6⟩ := HCA.out _ HB5.out; clear hb hS2)
          | (go_at_call 42; go_must (refine C4.out.mono ?_); rintro e w7 ⟨he, hb⟩; obtain ⟨S4, hS4⟩ : ∃ S : ByteArray, (⟨(Lib.join (hitT x1 xp x3) [32] ++ [10]).toArray⟩ : ByteArray) = S := ⟨_, rfl⟩; rw [hS4] at he; subst he; have HS4 := Lib.hid hS4; have HB7 := Lib.hid (HB6.out.trans ((((Below.refl w6.heap.size w6).alloc (Nat.le_refl _) _).trans (hb.mono (by simp))).mono HB6.out.size)); clear hb hS4))
        all_goals go_ret2
        all_goals refine ⟨?_, HW1.out.trans ((HAL.out _ HB7.out).2.2.2.mono (by rw [← HB.out]; exact HW1.out.size))⟩
        all_goals
          have hz : okR (hs, vs) = false := by unfold okR; dsimp only; rw [HBAD.out]; rfl
          unfold textR
          rw [hz]
          rfl
end Go.Proofs.YtgjningfpkoooaaDoor.Ro
