/- winkleref22.Text. -/
import Derived.Test.YtgjningfpkoooaaDoorQe
namespace Go.Proofs.YtgjningfpkoooaaDoor.Ro
set_option linter.unusedVariables false
set_option linter.unusedSimpArgs false
open Go.RowKit Go.Proofs.YtgjningfpkoooaaDoor.W

theorem hit_size (S1 S2 S3 : ByteArray) : ((⟨#[104, 105, 116, 32]⟩ : ByteArray) ++ S1 ++ ⟨#[32]⟩ ++ S2 ++ ⟨#[32]⟩ ++ S3 ++ ⟨#[10]⟩).size = 4 + S1.size + 1 + S2.size + 1 + S3.size + 1 := by simp only [ByteArray.size_append]; rfl
theorem why_size (S2 S3 : ByteArray) : ((⟨#[119, 104, 121, 32]⟩ : ByteArray) ++ S2 ++ ⟨#[32]⟩ ++ S3 ++ ⟨#[10]⟩).size = 4 + S2.size + 1 + S3.size + 1 := by simp only [ByteArray.size_append]; rfl
theorem hit_str (x1 : Int) (xp : List Int) (x3 : Int) {S1 S2 S3 : ByteArray} (h1 : (⟨(numT x1).toArray⟩ : ByteArray) = S1) (h2 : (⟨(textP xp).toArray⟩ : ByteArray) = S2) (h3 : (⟨(numT x3).toArray⟩ : ByteArray) = S3) (o1 : okN x1 = true) (o3 : okN x3 = true) :
    (⟨#[104, 105, 116, 32]⟩ : ByteArray) ++ S1 ++ ⟨#[32]⟩ ++ S2 ++ ⟨#[32]⟩ ++ S3 ++ ⟨#[10]⟩ = ⟨(hitL (x1, xp, x3)).toArray⟩ := by
  subst h1 h2 h3
  apply ByteArray.ext
  apply Array.ext'
  simp [hitL, numT, o1, o3]
theorem why_str (xp : List Int) (x3 : Int) {S2 S3 : ByteArray} (h2 : (⟨(textP xp).toArray⟩ : ByteArray) = S2) (h3 : (⟨(numT x3).toArray⟩ : ByteArray) = S3) (o3 : okN x3 = true) :
    (⟨#[119, 104, 121, 32]⟩ : ByteArray) ++ S2 ++ ⟨#[32]⟩ ++ S3 ++ ⟨#[10]⟩ = ⟨(whyL (xp, x3)).toArray⟩ := by
  subst h2 h3
  apply ByteArray.ext
  apply Array.ext'
  simp [whyL, numT, o3]
set_option maxHeartbeats 8000000 in
set_option maxRecDepth 100000 in
theorem r_rtext (A : Option Addr) (n c : Nat) (A2 : Option Addr) (m c2 : Nat) (r : Rp) (w : World) (h : RepAt w 0 A n c A2 m c2 r) (hf : Fit r) :
    Calls Tryd.prog 25 #[.agg #[.slice A n c, .slice A2 m c2]] w (TextRIs w r) := by
  obtain ⟨hs, vs⟩ := r
  obtain ⟨w1, hw1⟩ : ∃ w1, w.alloc (.cells #[.slice A n c, .slice A2 m c2] 36) = w1 := ⟨_, rfl⟩
  have HW1 := Lib.hid (show Below w.heap.size w w1 by rw [← hw1]; exact (Below.refl _ _).alloc (Nat.le_refl _) _)
  have HZ1 := Lib.hid (show w1.heap.size = w.heap.size + 1 by rw [← hw1]; simp)
  have HR := Lib.hid (h.below HW1.out)
  have HF := Lib.hid hf
  clear h hf
  go_enter Tryd.func25, Tryd.ntmps25
  go_upto_region 1 with (fail)
  obtain ⟨B, hB⟩ : ∃ B, w1.heap.size = B := ⟨_, rfl⟩
  have HB := Lib.hid hB
  have HD0 := Lib.hid (show w1.ownsRow B 5 1 (.slice none 0 0) 0 (u8s (bi [])) from World.ownsRow_nil _ _ _ _)
  have HE0 := Lib.hid (show Below B w1 w1 from Below.refl _ _)
  have HC := Lib.hid (show ∀ wx, Below B w1 wx → wx.cell? ⟨w.heap.size, 0, none⟩ = some (.slice A n c) ∧ wx.cell? ⟨w.heap.size, 1, none⟩ = some (.slice A2 m c2) from fun wx hb => by
    have h0 : w1.heap[w.heap.size]? = some (.cells #[.slice A n c, .slice A2 m c2] 36 (0, 0)) := by rw [← hw1]; exact heap_alloc_new w _
    have h1 := (hb.block w.heap.size (by rw [← hB, HZ1.out]; exact Nat.lt_succ_self _)).trans h0
    exact ⟨cell_of_row wx w.heap.size 0 _ _ _ h1, cell_of_row wx w.heap.size 1 _ _ _ h1⟩)
  clear hB hw1
  obtain ⟨b0, hb0⟩ : ∃ b0, w.heap.size = b0 := ⟨_, rfl⟩
  rw [hb0] at HC ⊢
  have HB0 := Lib.hid hb0
  clear hb0
  obtain ⟨c0, c1⟩ := HC.out _ HE0.out
  have hn : n ≤ 1048576 := by have h1 : hs.length = n := HR.out.1; have h2 : hs.length ≤ 1048576 := HF.out.1; omega
  have hm : m ≤ 1048576 := by have h1 : vs.length = m := HR.out.2.2.1; have h2 : vs.length ≤ 1048576 := HF.out.2.1; omega
  go_wp2_with (fail)
  go_loopg [4, 5] n (fun g s4 s5 wx => ∃ (i : Nat) (A4 : Option Addr) (n4 c4 : Nat), i + g = n ∧ s5 = .int .i64 (i : Nat) ∧ s4 = .slice A4 n4 c4 ∧ Hid (wx.ownsRow B 5 1 (.slice A4 n4 c4) n4 (u8s (bi ((hs.take i).flatMap hitL))) ∧ Below B w1 wx ∧ (hs.take i).all okH = true))
  case atStart => exact ⟨0, none, 0, 0, by omega, rfl, rfl, Lib.hid ⟨HD0.out, HE0.out, by rw [List.take_zero]; rfl⟩⟩
  case round =>
    obtain ⟨i, A4, n4, c4, hig, rfl, rfl, hst⟩ := hrel
    obtain ⟨c0, c1⟩ := HC.out _ hst.out.2.1
    cases gk with
    | zero =>
      obtain rfl : i = n := by omega
      have hk : ¬ (i : Int) < (i : Int) := by omega
      have HLH := Lib.hid (show hs.length = i from HR.out.1)
      have HD1 := Lib.hid (show wr.ownsRow B 5 1 (.slice A4 n4 c4) n4 (u8s (bi (hs.flatMap hitL ++ (vs.take 0).flatMap whyL))) by have h := hst.out.1; rw [← HLH.out, List.take_length] at h; rw [List.take_zero, List.flatMap_nil, List.append_nil]; exact h)
      have HALL := Lib.hid (show hs.all okH = true by have h := hst.out.2.2; rw [← HLH.out, List.take_length] at h; exact h)
      have HE1 := Lib.hid hst.out.2.1
      clear hst
      go_wp2_with (fail)
      go_loopg [4, 13] m (fun g s4 s13 wx => ∃ (i : Nat) (A4 : Option Addr) (n4 c4 : Nat), i + g = m ∧ s13 = .int .i64 (i : Nat) ∧ s4 = .slice A4 n4 c4 ∧ Hid (wx.ownsRow B 5 1 (.slice A4 n4 c4) n4 (u8s (bi (hs.flatMap hitL ++ (vs.take i).flatMap whyL))) ∧ Below B w1 wx ∧ (vs.take i).all okV = true))
      case atStart => exact ⟨0, A4, n4, c4, by omega, rfl, rfl, Lib.hid ⟨HD1.out, HE1.out, by rw [List.take_zero]; rfl⟩⟩
      case round =>
        clear c0 c1
        obtain ⟨j, A4, n4, c4, hjg, rfl, rfl, hst⟩ := hrel
        obtain ⟨c0, c1⟩ := HC.out _ hst.out.2.1
        cases gk with
        | zero =>
          obtain rfl : j = m := by omega
          have hk : ¬ (j : Int) < (j : Int) := by omega
          have HLV := Lib.hid (show vs.length = j from HR.out.2.2.1)
          have HOK := Lib.hid (show okR (hs, vs) = true by have h := hst.out.2.2; rw [← HLV.out, List.take_length] at h; unfold okR; dsimp only; rw [HALL.out, h]; rfl)
          have hcv : (convert 48 9 (.slice A4 n4 c4)).run Tryd.prog wr = .ok (.string ⟨(hs.flatMap hitL ++ (vs.take j).flatMap whyL).toArray⟩) wr := conv_own (by rw [bi_cells]; exact hst.out.1)
          go_wp2_with (fail)
          go_ret2
          refine ⟨?_, HW1.out.trans (hst.out.2.1.mono (by rw [← HB.out]; exact HW1.out.size))⟩
          unfold textR
          rw [HOK.out, if_pos rfl, ← HLV.out, List.take_length]
          rfl
        | succ g =>
          have hk : (j : Int) < (m : Int) := by omega
          have hk0 : (0 : Int) ≤ (j : Int) := by omega
          obtain ⟨⟨xp, x3⟩, hx⟩ : ∃ x, vs[j]? = some x := ⟨_, List.getElem?_eq_getElem (by have : vs.length = m := HR.out.2.2.1; omega)⟩
          have hfr := hst.out.2.1
          have HRw := Lib.hid (HR.out.below (by rw [HB.out]; exact hfr))
          obtain ⟨gb, off, Ap, np, cp, rfl, hlt, q0, q1, q3, q4, q5, q6⟩ := HRw.out.2.2.2.2.2.verd hx
          dsimp only at q0 q1 q3 q6
          have HX := Lib.hid hx
          have HFX := Lib.hid (show xp.length ≤ 1048576 ∧ j < 1048576 ∧ (vs.take j).length ≤ j from ⟨HF.out.2.2.2 _ (List.mem_of_getElem? hx), by omega, by rw [List.length_take]; omega⟩)
          have HO4 := Lib.hid hst.out.1
          have hszr : B ≤ wr.heap.size := by have := hfr.size; rw [HB.out] at this; exact this
          have HPL := Lib.hid (show n4 ≤ 11534400 * 2097152 from by
            have h1 := flat_len whyL 11534400 (vs.take j) (fun a ha => by
              have h2 := whyL_len ((List.all_eq_true.1 hst.out.2.2) a ha)
              have h3 : a.1.length ≤ 1048576 := HF.out.2.2.2 a (List.mem_of_mem_take ha)
              omega)
            have h0 := flat_len hitL 11534400 hs (fun a ha => by
              have h2 := hitL_len ((List.all_eq_true.1 HALL.out) a ha)
              have h3 : a.2.1.length ≤ 1048576 := HF.out.2.2.1 a ha
              omega)
            have h4 : hs.length ≤ 1048576 := HF.out.1
            have := HFX.out
            have h5 := HO4.out.1
            rw [u8s_length] at h5
            unfold bi at h5
            rw [List.length_map, List.length_append] at h5
            omega)
          have HSZ := Lib.hid (show ∀ S2 S3 : ByteArray, S2.size ≤ 11534400 → S3.size ≤ 10 → n4 + ((⟨#[119, 104, 121, 32]⟩ : ByteArray) ++ S2 ++ ⟨#[32]⟩ ++ S3 ++ ⟨#[10]⟩).size ≤ maxLen ∧ n4 + ((⟨#[119, 104, 121, 32]⟩ : ByteArray) ++ S2 ++ ⟨#[32]⟩ ++ S3 ++ ⟨#[10]⟩).size ≤ 140737488355328 from fun S2 S3 h2 h3 => by
            have := HPL.out
            have e : ((⟨#[119, 104, 121, 32]⟩ : ByteArray) ++ S2 ++ ⟨#[32]⟩ ++ S3 ++ ⟨#[10]⟩).size = 4 + S2.size + 1 + S3.size + 1 := by simp only [ByteArray.size_append]; rfl
            rw [e]
            unfold maxLen
            omega)
          obtain ⟨wa, hwa⟩ : ∃ wa, wr.alloc (.cells #[.slice Ap np cp, .int .i64 x3] 68) = wa := ⟨_, rfl⟩
          have HBA := Lib.hid (show Below wr.heap.size wr wa by rw [← hwa]; exact (Below.refl _ _).alloc (Nat.le_refl _) _)
          have HZA := Lib.hid (show wa.heap.size = wr.heap.size + 1 by rw [← hwa]; simp)
          have HCA := Lib.hid (show ∀ wx, Below wa.heap.size wa wx → wx.cell? ⟨wr.heap.size, 0, none⟩ = some (.slice Ap np cp) ∧ wx.cell? ⟨wr.heap.size, 1, none⟩ = some (.int .i64 x3) from fun wx hb => by
            have h0 : wa.heap[wr.heap.size]? = some (.cells #[.slice Ap np cp, .int .i64 x3] 68 (0, 0)) := by rw [← hwa]; exact heap_alloc_new wr _
            have h1 := (hb.block wr.heap.size (by rw [HZA.out]; exact Nat.lt_succ_self _)).trans h0
            exact ⟨cell_of_row wx _ 0 _ _ _ h1, cell_of_row wx _ 1 _ _ _ h1⟩)
          have HAB := Lib.hid (show ∀ wx, Below wa.heap.size wa wx → Below wr.heap.size wr wx from fun wx hb => HBA.out.trans (hb.mono (by rw [HZA.out]; exact Nat.le_succ _)))
          have HAL := Lib.hid (show ∀ wx, Below wa.heap.size wa wx → RV wx Ap (is64 xp) ∧ Below B w1 wx from fun wx hb => ⟨q6.below (HAB.out wx hb), hst.out.2.1.trans ((HAB.out wx hb).mono hszr)⟩)
          have HSA := Lib.hid (show ∀ wx, Below wa.heap.size wa wx → B ≤ wx.heap.size ∧ wr.heap.size < wx.heap.size from fun wx hb => by have := hb.size; rw [HZA.out] at this; exact ⟨by omega, by omega⟩)
          obtain ⟨a0, a1⟩ := HCA.out _ (Below.refl _ _)
          have HN := Lib.hid q3
          have HN6 := Lib.hid q5
          have C2 := Lib.hid (r_text Ap np cp xp wa HN.out HN6.out (HAL.out _ (Below.refl _ _)).1)
          obtain ⟨o2, ho2⟩ : ∃ o, okP xp = o := ⟨_, rfl⟩
          obtain ⟨o3, ho3⟩ : ∃ o, okN x3 = o := ⟨_, rfl⟩
          have HO2 := Lib.hid ho2
          have HO3 := Lib.hid ho3
          obtain ⟨o, ho⟩ : ∃ o, (o2 && o3) = o := ⟨_, rfl⟩
          have HO := Lib.hid (show okV (xp, x3) = o by unfold okV; dsimp only; rw [ho2, ho3]; exact ho)
          clear hx hfr q3 q6 ho2 ho3 q5
          have hb3 : (o = true ∧ o2 = true ∧ o3 = true) ∨ (o = false ∧ ((o2 = true ∧ o3 = false) ∨ o2 = false)) := by
            subst ho
            cases o2 <;> cases o3 <;> simp
          clear ho
          rcases hb3 with ⟨rfl, rfl, rfl⟩ | ⟨rfl, hb3⟩
          · go_wp2_with (first
              | (go_at_call 43; go_must (refine C3.out.mono ?_); rintro e w6 ⟨he, hb⟩; rw [HO3.out] at he; obtain ⟨S3, hS3⟩ : ∃ S : ByteArray, (⟨(numT x3).toArray⟩ : ByteArray) = S := ⟨_, rfl⟩; rw [hS3] at he; subst he; have HS3 := Lib.hid hS3; have HB6 := Lib.hid (HB5.out.trans (hb.mono HB5.out.size)); have z3 : S3.size ≤ 10 := (by rw [← hS3, size_str]; exact numT_len _); clear hb hS3)
              | (go_at_call 13; go_must (refine C2.out.mono ?_); rintro e w5 ⟨he, hb⟩; rw [HO2.out] at he; obtain ⟨S2, hS2⟩ : ∃ S : ByteArray, (⟨(textP xp).toArray⟩ : ByteArray) = S := ⟨_, rfl⟩; rw [hS2] at he; subst he; have HS2 := Lib.hid hS2; have HB5 := Lib.hid hb; have z2 : S2.size ≤ 11534400 := (by rw [← hS2, size_str]; have := textP_len xp; have := HFX.out.1; omega); have C3 := Lib.hid (r_number x3 w5); obtain ⟨d4, d5⟩ := HCA.out _ HB5.out; clear hb hS2)
              | (at_builtin; go_must (refine wpList_aps el8 Tryd.underlying9 rfl (.tmp 100) (.tmp 106) (by rfl) (by rfl) (own_below HO4.out (HAB.out _ HB6.out)) _ (by rfl) (HSZ.out S2 S3 z2 z3).1 (HSZ.out S2 S3 z2 z3).2 (HSA.out _ HB6.out).1 ?_); intro A8 c8 w8 hown hgrow _ _; have HO8 := Lib.hid hown; have HE8 := Lib.hid ((HAL.out _ HB6.out).2.grown hgrow (HSA.out _ HB6.out).1 (fun k hk => (HO4.out.lt k hk).1)); clear hown hgrow))
            go_roundg g
            case measure => omega
            case rel =>
              refine ⟨j + 1, A8, _, c8, by omega, by go_num, rfl, Lib.hid ⟨?_, HE8.out, all_take okV HX.out hst.out.2.2 HO.out⟩⟩
              have h9 := HO8.out
              rw [why_size, why_str xp x3 HS2.out HS3.out HO3.out] at h9
              rw [← bi_app, List.append_assoc, ← flat_take whyL HX.out] at h9
              exact h9
          · have HBAD := Lib.hid (all_bad okV HX.out HO.out)
            rcases hb3 with ⟨rfl, rfl⟩ | rfl
            all_goals go_wp2_with (first
              | (go_at_call 43; go_must (refine C3.out.mono ?_); rintro e w6 ⟨he, hb⟩; rw [HO3.out] at he; obtain ⟨S3, hS3⟩ : ∃ S : ByteArray, (⟨(numT x3).toArray⟩ : ByteArray) = S := ⟨_, rfl⟩; rw [hS3] at he; subst he; have HS3 := Lib.hid hS3; have HB6 := Lib.hid (HB5.out.trans (hb.mono HB5.out.size)); have z3 : S3.size ≤ 10 := (by rw [← hS3, size_str]; exact numT_len _); clear hb hS3)
              | (go_at_call 13; go_must (refine C2.out.mono ?_); rintro e w5 ⟨he, hb⟩; rw [HO2.out] at he; obtain ⟨S2, hS2⟩ : ∃ S : ByteArray, (⟨(textP xp).toArray⟩ : ByteArray) = S := ⟨_, rfl⟩; rw [hS2] at he; subst he; have HS2 := Lib.hid hS2; have HB5 := Lib.hid hb; have z2 : S2.size ≤ 11534400 := (by rw [← hS2, size_str]; have := textP_len xp; have := HFX.out.1; omega); have C3 := Lib.hid (r_number x3 w5); obtain ⟨d4, d5⟩ := HCA.out _ HB5.out; clear hb hS2))
            all_goals go_ret2
            all_goals refine ⟨?_, HW1.out.trans ((HAL.out _ HB6.out).2.mono (by rw [← HB.out]; exact HW1.out.size))⟩
            all_goals
              have hz : okR (hs, vs) = false := by unfold okR; dsimp only; rw [HBAD.out, HALL.out]; rfl
              unfold textR
              rw [hz]
              rfl
    | succ g =>
      have hk : (i : Int) < (n : Int) := by omega
      have hk0 : (0 : Int) ≤ (i : Int) := by omega
      obtain ⟨⟨x1, xp, x3⟩, hx⟩ : ∃ x, hs[i]? = some x := ⟨_, List.getElem?_eq_getElem (by have : hs.length = n := HR.out.1; omega)⟩
      have hfr := hst.out.2.1
      have HRw := Lib.hid (HR.out.below (by rw [HB.out]; exact hfr))
      obtain ⟨gb, off, Ap, np, cp, rfl, hlt, q0, q1, q2, q3, q4, q5, q6⟩ := HRw.out.2.2.2.2.1.hit hx
      dsimp only at q0 q1 q2 q3 q6
      have HX := Lib.hid hx
      have HFX := Lib.hid (show xp.length ≤ 1048576 ∧ i < 1048576 ∧ (hs.take i).length ≤ i from ⟨HF.out.2.2.1 _ (List.mem_of_getElem? hx), by omega, by rw [List.length_take]; omega⟩)
      have HO4 := Lib.hid hst.out.1
      have hszr : B ≤ wr.heap.size := by have := hfr.size; rw [HB.out] at this; exact this
      have HPL := Lib.hid (show n4 ≤ 11534400 * 1048576 from by
        have h0 := flat_len hitL 11534400 (hs.take i) (fun a ha => by
          have h2 := hitL_len ((List.all_eq_true.1 hst.out.2.2) a ha)
          have h3 : a.2.1.length ≤ 1048576 := HF.out.2.2.1 a (List.mem_of_mem_take ha)
          omega)
        have := HFX.out
        have h5 := HO4.out.1
        rw [u8s_length] at h5
        unfold bi at h5
        rw [List.length_map] at h5
        omega)
      have HSZ := Lib.hid (show ∀ S1 S2 S3 : ByteArray, S1.size ≤ 10 → S2.size ≤ 11534400 → S3.size ≤ 10 → n4 + ((⟨#[104, 105, 116, 32]⟩ : ByteArray) ++ S1 ++ ⟨#[32]⟩ ++ S2 ++ ⟨#[32]⟩ ++ S3 ++ ⟨#[10]⟩).size ≤ maxLen ∧ n4 + ((⟨#[104, 105, 116, 32]⟩ : ByteArray) ++ S1 ++ ⟨#[32]⟩ ++ S2 ++ ⟨#[32]⟩ ++ S3 ++ ⟨#[10]⟩).size ≤ 140737488355328 from fun S1 S2 S3 h1 h2 h3 => by
        have := HPL.out
        have e : ((⟨#[104, 105, 116, 32]⟩ : ByteArray) ++ S1 ++ ⟨#[32]⟩ ++ S2 ++ ⟨#[32]⟩ ++ S3 ++ ⟨#[10]⟩).size = 4 + S1.size + 1 + S2.size + 1 + S3.size + 1 := by simp only [ByteArray.size_append]; rfl
        rw [e]
        unfold maxLen
        omega)
      obtain ⟨wa, hwa⟩ : ∃ wa, wr.alloc (.cells #[.int .i64 x1, .slice Ap np cp, .int .i64 x3] 44) = wa := ⟨_, rfl⟩
      have HBA := Lib.hid (show Below wr.heap.size wr wa by rw [← hwa]; exact (Below.refl _ _).alloc (Nat.le_refl _) _)
      have HZA := Lib.hid (show wa.heap.size = wr.heap.size + 1 by rw [← hwa]; simp)
      have HCA := Lib.hid (show ∀ wx, Below wa.heap.size wa wx → wx.cell? ⟨wr.heap.size, 0, none⟩ = some (.int .i64 x1) ∧ wx.cell? ⟨wr.heap.size, 1, none⟩ = some (.slice Ap np cp) ∧ wx.cell? ⟨wr.heap.size, 2, none⟩ = some (.int .i64 x3) from fun wx hb => by
        have h0 : wa.heap[wr.heap.size]? = some (.cells #[.int .i64 x1, .slice Ap np cp, .int .i64 x3] 44 (0, 0)) := by rw [← hwa]; exact heap_alloc_new wr _
        have h1 := (hb.block wr.heap.size (by rw [HZA.out]; exact Nat.lt_succ_self _)).trans h0
        exact ⟨cell_of_row wx _ 0 _ _ _ h1, cell_of_row wx _ 1 _ _ _ h1, cell_of_row wx _ 2 _ _ _ h1⟩)
      have HAB := Lib.hid (show ∀ wx, Below wa.heap.size wa wx → Below wr.heap.size wr wx from fun wx hb => HBA.out.trans (hb.mono (by rw [HZA.out]; exact Nat.le_succ _)))
      have HAL := Lib.hid (show ∀ wx, Below wa.heap.size wa wx → RV wx Ap (is64 xp) ∧ Below B w1 wx from fun wx hb => ⟨q6.below (HAB.out wx hb), hst.out.2.1.trans ((HAB.out wx hb).mono hszr)⟩)
      have HSA := Lib.hid (show ∀ wx, Below wa.heap.size wa wx → B ≤ wx.heap.size ∧ wr.heap.size < wx.heap.size from fun wx hb => by have := hb.size; rw [HZA.out] at this; exact ⟨by omega, by omega⟩)
      obtain ⟨a0, a1, a2⟩ := HCA.out _ (Below.refl _ _)
      have HN := Lib.hid q3
      have HN6 := Lib.hid q5
      have tk1 : True := trivial
      have C1 := Lib.hid (r_number x1 wa)
      obtain ⟨o1, ho1⟩ : ∃ o, okN x1 = o := ⟨_, rfl⟩
      obtain ⟨o2, ho2⟩ : ∃ o, okP xp = o := ⟨_, rfl⟩
      obtain ⟨o3, ho3⟩ : ∃ o, okN x3 = o := ⟨_, rfl⟩
      have HO1 := Lib.hid ho1
      have HO2 := Lib.hid ho2
      have HO3 := Lib.hid ho3
      obtain ⟨o, ho⟩ : ∃ o, (o1 && o2 && o3) = o := ⟨_, rfl⟩
      have HO := Lib.hid (show okH (x1, xp, x3) = o by unfold okH; dsimp only; rw [ho1, ho2, ho3]; exact ho)
      clear hx hfr q3 q6 ho1 ho2 ho3 q5
      have hb3 : (o = true ∧ o1 = true ∧ o2 = true ∧ o3 = true) ∨ (o = false ∧ ((o1 = true ∧ o2 = true ∧ o3 = false) ∨ (o1 = true ∧ o2 = false) ∨ o1 = false)) := by
        subst ho
        cases o1 <;> cases o2 <;> cases o3 <;> simp
      clear ho
      rcases hb3 with ⟨rfl, rfl, rfl, rfl⟩ | ⟨rfl, hb3⟩
      · go_wp2_with (first
          | (go_at_call 43; have _t := C3; go_must (refine C3.out.mono ?_); rintro e w6 ⟨he, hb⟩; rw [HO3.out] at he; obtain ⟨S3, hS3⟩ : ∃ S : ByteArray, (⟨(numT x3).toArray⟩ : ByteArray) = S := ⟨_, rfl⟩; rw [hS3] at he; subst he; have HS3 := Lib.hid hS3; have HB6 := Lib.hid (HB5.out.trans (hb.mono HB5.out.size)); have z3 : S3.size ≤ 10 := (by rw [← hS3, size_str]; exact numT_len _); clear hb hS3 _t; clear C3)
          | (go_at_call 43; have _t := tk1; go_must (refine C1.out.mono ?_); rintro e w4 ⟨he, hb⟩; rw [HO1.out] at he; obtain ⟨S1, hS1⟩ : ∃ S : ByteArray, (⟨(numT x1).toArray⟩ : ByteArray) = S := ⟨_, rfl⟩; rw [hS1] at he; subst he; have HS1 := Lib.hid hS1; have HB4 := Lib.hid hb; have z1 : S1.size ≤ 10 := (by rw [← hS1, size_str]; exact numT_len _); have C2 := Lib.hid (r_text Ap np cp xp w4 HN.out HN6.out (HAL.out _ HB4.out).1); obtain ⟨b4, b5, b6⟩ := HCA.out _ HB4.out; clear hb hS1 _t; clear tk1)
          | (go_at_call 13; go_must (refine C2.out.mono ?_); rintro e w5 ⟨he, hb⟩; rw [HO2.out] at he; obtain ⟨S2, hS2⟩ : ∃ S : ByteArray, (⟨(textP xp).toArray⟩ : ByteArray) = S := ⟨_, rfl⟩; rw [hS2] at he; subst he; have HS2 := Lib.hid hS2; have HB5 := Lib.hid (HB4.out.trans (hb.mono HB4.out.size)); have z2 : S2.size ≤ 11534400 := (by rw [← hS2, size_str]; have := textP_len xp; have := HFX.out.1; omega); have C3 := Lib.hid (r_number x3 w5); obtain ⟨d4, d5, d6⟩ := HCA.out _ HB5.out; clear hb hS2)
          | (at_builtin; go_must (refine wpList_aps el8 Tryd.underlying9 rfl (.tmp 59) (.tmp 68) (by rfl) (by rfl) (own_below HO4.out (HAB.out _ HB6.out)) _ (by rfl) (HSZ.out S1 S2 S3 z1 z2 z3).1 (HSZ.out S1 S2 S3 z1 z2 z3).2 (HSA.out _ HB6.out).1 ?_); intro A8 c8 w8 hown hgrow _ _; have HO8 := Lib.hid hown; have HE8 := Lib.hid ((HAL.out _ HB6.out).2.grown hgrow (HSA.out _ HB6.out).1 (fun k hk => (HO4.out.lt k hk).1)); clear hown hgrow))
        go_roundg g
        case measure => omega
        case rel =>
          refine ⟨i + 1, A8, _, c8, by omega, by go_num, rfl, Lib.hid ⟨?_, HE8.out, all_take okH HX.out hst.out.2.2 HO.out⟩⟩
          have h9 := HO8.out
          rw [hit_size, hit_str x1 xp x3 HS1.out HS2.out HS3.out HO1.out HO3.out] at h9
          rw [← bi_app, ← flat_take hitL HX.out] at h9
          exact h9
      · have HBAD := Lib.hid (all_bad okH HX.out HO.out)
        rcases hb3 with ⟨rfl, rfl, rfl⟩ | ⟨rfl, rfl⟩ | rfl
        all_goals go_wp2_with (first
          | (go_at_call 43; have _t := C3; go_must (refine C3.out.mono ?_); rintro e w6 ⟨he, hb⟩; rw [HO3.out] at he; obtain ⟨S3, hS3⟩ : ∃ S : ByteArray, (⟨(numT x3).toArray⟩ : ByteArray) = S := ⟨_, rfl⟩; rw [hS3] at he; subst he; have HS3 := Lib.hid hS3; have HB6 := Lib.hid (HB5.out.trans (hb.mono HB5.out.size)); have z3 : S3.size ≤ 10 := (by rw [← hS3, size_str]; exact numT_len _); clear hb hS3 _t; clear C3)
          | (go_at_call 43; have _t := tk1; go_must (refine C1.out.mono ?_); rintro e w4 ⟨he, hb⟩; rw [HO1.out] at he; obtain ⟨S1, hS1⟩ : ∃ S : ByteArray, (⟨(numT x1).toArray⟩ : ByteArray) = S := ⟨_, rfl⟩; rw [hS1] at he; subst he; have HS1 := Lib.hid hS1; have HB4 := Lib.hid hb; have z1 : S1.size ≤ 10 := (by rw [← hS1, size_str]; exact numT_len _); have C2 := Lib.hid (r_text Ap np cp xp w4 HN.out HN6.out (HAL.out _ HB4.out).1); obtain ⟨b4, b5, b6⟩ := HCA.out _ HB4.out; clear hb hS1 _t; clear tk1)
          | (go_at_call 13; go_must (refine C2.out.mono ?_); rintro e w5 ⟨he, hb⟩; rw [HO2.out] at he; obtain ⟨S2, hS2⟩ : ∃ S : ByteArray, (⟨(textP xp).toArray⟩ : ByteArray) = S := ⟨_, rfl⟩; rw [hS2] at he; subst he; have HS2 := Lib.hid hS2; have HB5 := Lib.hid (HB4.out.trans (hb.mono HB4.out.size)); have z2 : S2.size ≤ 11534400 := (by rw [← hS2, size_str]; have := textP_len xp; have := HFX.out.1; omega); have C3 := Lib.hid (r_number x3 w5); obtain ⟨d4, d5, d6⟩ := HCA.out _ HB5.out; clear hb hS2))
        all_goals go_ret2
        all_goals refine ⟨?_, HW1.out.trans ((HAL.out _ HB6.out).2.mono (by rw [← HB.out]; exact HW1.out.size))⟩
        all_goals
          have hz : okR (hs, vs) = false := by unfold okR; dsimp only; rw [HBAD.out]; rfl
          unfold textR
          rw [hz]
          rfl
end Go.Proofs.YtgjningfpkoooaaDoor.Ro
