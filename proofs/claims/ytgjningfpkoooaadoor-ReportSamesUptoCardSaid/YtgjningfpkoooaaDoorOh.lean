/- route.Parse. -/
import Derived.Test.YtgjningfpkoooaaDoorOg
namespace Go.Proofs.YtgjningfpkoooaaDoor.Ro
set_option linter.unusedVariables false
set_option linter.unusedSimpArgs false
open Go.RowKit Go.Proofs.YtgjningfpkoooaaDoor.W

def ints (l : List Nat) : List Value := l.map fun n : Nat => Value.int .i64 (n : Nat)
def ParseIs (w : World) (l : List UInt8) (e : Ending) (w' : World) : Prop :=
  ∃ A n c, e = .returned (.tuple #[.slice A n c, .bool (parseP l).isSome]) ∧ Below w.heap.size w w' ∧ ((parseP l).getD []).length = n ∧ w'.ownsRow w.heap.size 3 1 (.slice A n c) n (ints ((parseP l).getD []))
theorem ba_nil {s : ByteArray} (h : s.data.toList = []) : s = ⟨#[]⟩ := by
  apply ByteArray.ext
  apply Array.ext'
  exact h
theorem ba_of {s : ByteArray} {l : List UInt8} (h : s.data.toList = l) : s = ⟨l.toArray⟩ := by
  apply ByteArray.ext
  apply Array.ext'
  simpa using h
theorem int8 : El Tryd.prog 22 3 (.int .i64 0) 8 := ⟨Tryd.underlying22, by kernel_rfl, rfl⟩
theorem sp_len : ∀ s : List UInt8, (sp s).length ≤ s.length + 1
  | [] => by simp [sp]
  | c :: s => by
    have ih := sp_len s
    unfold sp
    split
    · simp; omega
    · split
      · rename_i h; rw [h] at ih; simp at ih ⊢; omega
      · simp
theorem sp_word_len : ∀ (s w : List UInt8), w ∈ sp s → w.length ≤ s.length
  | [], w, h => by simp [sp] at h; subst h; simp
  | c :: s, w, h => by
    unfold sp at h
    split at h
    · rcases List.mem_cons.1 h with rfl | h
      · simp
      · have := sp_word_len s w h
        simp; omega
    · split at h
      · rename_i v vs hs
        rcases List.mem_cons.1 h with rfl | h
        · have := sp_word_len s v (by rw [hs]; exact List.mem_cons_self)
          simp; omega
        · have := sp_word_len s w (by rw [hs]; exact List.mem_cons_of_mem _ h)
          simp; omega
      · rename_i hs
        exact absurd hs (sp_ne s)
theorem own_below {w w' : World} {base n : Nat} {e : TypeId} {v : Value} {xs : List Value} (h : w.ownsRow base e 1 v n xs) (hb : Below w.heap.size w w') : w'.ownsRow base e 1 v n xs :=
  own_same h fun k hk => hb.block k (h.lt k hk).2
theorem grown_kpi {w w2 : World} {base : Nat} {v : Value} {nn : Nat} {t : TypeId} {xs : List Value} {o : Obj} (hown : (w.alloc o).ownsRow base t 1 v nn xs) (hg : (w.alloc o).grownBy w2 v.ownBlock) : ∃ T, Kp T w w2 ∧ (∀ k ∈ T, base ≤ k) := by
  rcases hown.2 with ⟨hv, _⟩ | ⟨g', cap', cur, hv, hb, hg', rest⟩
  · refine ⟨[], ((Kp.refl _ _).alloc o).trans (Kp.of_grown hg (fun k hk => ?_)), fun k hk => (by cases hk)⟩
    rw [hv] at hk
    cases hk
  · refine ⟨[g'], ((Kp.refl _ _).alloc o).trans (Kp.of_grown hg (fun k hk => ?_)), fun k hk => ?_⟩
    · rw [hv] at hk
      exact .inl (by rw [← Option.some.inj hk]; exact List.mem_cons_self ..)
    · rw [List.mem_singleton.1 hk]
      exact hb
theorem own_mono {w : World} {b1 b2 : Nat} {e : TypeId} {size n : Nat} {v : Value} {xs : List Value} (h : w.ownsRow b2 e size v n xs) (hb : b1 ≤ b2) : w.ownsRow b1 e size v n xs :=
  ⟨h.1, h.2.imp id fun ⟨g, cap, cur, hv, hb2, rest⟩ => ⟨g, cap, cur, hv, Nat.le_trans hb hb2, rest⟩⟩
theorem mapM_take {α β : Type} {f : α → Option β} {l : List α} {i : Nat} {x : α} {p : List β} {y : β} (hx : l[i]? = some x) (h : (l.take i).mapM f = some p) (hy : f x = some y) : (l.take (i + 1)).mapM f = some (p ++ [y]) := by
  obtain ⟨h1, h2⟩ := List.getElem?_eq_some_iff.1 hx
  rw [List.take_succ_eq_append_getElem h1, h2, List.mapM_append, h]
  simp [hy]
theorem mapM_bad {α β : Type} {f : α → Option β} : ∀ {l : List α} {i : Nat} {x : α}, l[i]? = some x → f x = none → l.mapM f = none
  | [], i, x, h, _ => by simp at h
  | a :: l, i, x, h, hn => by
    rw [List.mapM_cons]
    cases i with
    | zero =>
      simp at h
      rw [h, hn]
      rfl
    | succ i =>
      have := mapM_bad (f := f) (l := l) (i := i) (x := x) (by simpa using h) hn
      cases hf : f a with
      | none => rfl
      | some y => rw [this]; rfl
set_option maxHeartbeats 8000000 in
set_option maxRecDepth 100000 in
theorem c_parse (s : ByteArray) (w : World) (hs : s.size ≤ 1048576000) (hG : Gw w) :
    Calls Tryd.prog 14 #[.string s] w (ParseIs w s.data.toList) := by
  have HG := Lib.hid hG
  have CS := Lib.hid (c_split s (by omega) w hG)
  clear hG
  go_enter Tryd.func14, Tryd.ntmps14
  go_upto_region 2 with (first
    | (go_at_call 36; go_must (refine CS.out.mono ?_); rintro e w1 ⟨ws, rfl, rfl, hws⟩; have HWS := Lib.hid hws; clear hws))
  have HC := Lib.hid (heap_alloc_new w (.cells (ws.map Value.string).toArray 9))
  have HW1 := Lib.hid (show Below w.heap.size w (w.alloc (.cells (ws.map Value.string).toArray 9)) from (Below.refl _ _).alloc (Nat.le_refl _) _)
  change Code.wp _ _ _ _ (w.alloc (.cells (ws.map Value.string).toArray 9))
  have HSZ := Lib.hid (show (w.alloc (.cells (ws.map Value.string).toArray 9)).heap.size = w.heap.size + 1 by simp)
  generalize w.alloc (.cells (ws.map Value.string).toArray 9) = w1 at *
  cases ws with
  | nil => exact absurd HWS.out.symm (sp_ne _)
  | cons w0 wt =>
    have HCE := Lib.hid (show ∀ wx, Below (w.heap.size + 1) w1 wx → ∀ (i : Nat) (x : ByteArray), (w0 :: wt)[i]? = some x → wx.cell? ⟨w.heap.size, i, none⟩ = some (.string x) from fun wx hb i x hx => by
      rw [(hb.cell (show (⟨w.heap.size, i, none⟩ : Addr).block < w.heap.size + 1 from Nat.lt_succ_self _)), cell_of_row w1 w.heap.size i _ _ _ HC.out]
      rw [List.getElem?_toArray, List.getElem?_map, hx]
      rfl)
    have c0 := HCE.out w1 (Below.refl _ _) 0 w0 rfl
    obtain ⟨NW, hnw⟩ : ∃ n, (w0 :: wt).length = n := ⟨_, rfl⟩
    have hnw1 : 1 ≤ NW := by rw [← hnw]; simp
    have HNW := Lib.hid hnw
    rw [hnw]
    have hi1 : (0 : Int) < (NW : Int) := by omega
    have HLS := Lib.hid (show (w0 :: wt).map (·.data.toList) = sp s.data.toList from HWS.out)
    clear HWS
    have NON : ∀ (wx : World), Below w.heap.size w wx → parseP s.data.toList = none → ParseIs w s.data.toList (.returned (.tuple #[.slice none 0 0, .bool false])) wx := fun wx hb hn => ⟨none, 0, 0, by rw [hn]; rfl, hb, by rw [hn]; rfl, by rw [hn]; exact World.ownsRow_nil _ _ _ _⟩
    by_cases hw0 : w0 = ⟨#[]⟩
    · have he : w0.toList.isEmpty = true := by rw [← decide_eq_emptyBytes]; exact decide_eq_true hw0
      by_cases hn2 : NW < 2
      · have hn2i : (NW : Int) < 2 := by omega
        have HP := Lib.hid (show parseP s.data.toList = none by
          have hwt : wt = [] := List.eq_nil_of_length_eq_zero (by have h9 := HNW.out; simp at h9; omega)
          unfold parseP
          rw [← HLS.out, hwt]
          simp)
        clear hw0
        go_wp2_with (fail)
        go_ret2
        exact NON _ HW1.out HP.out
      · have hn2i : ¬ (NW : Int) < 2 := by omega
        have HWT := Lib.hid (show wt ≠ [] from fun h => by have h9 := HNW.out; rw [h] at h9; simp at h9; omega)
        have HW0 := Lib.hid hw0
        clear hw0
        by_cases hs1 : s.data.toList = [47]
        · have he2 : (s.toList == [47]) = true := by rw [ByteArray.toList_eq, hs1]; rfl
          have HP := Lib.hid (show parseP s.data.toList = some [] by rw [hs1]; rfl)
          clear hs1
          go_wp2_with (fail)
          go_ret2
          exact ⟨none, 0, 0, by rw [HP.out]; rfl, HW1.out, by rw [HP.out]; rfl, by rw [HP.out]; exact World.ownsRow_nil _ _ _ _⟩
        · have he2 : (s.toList == [47]) = false := by rw [ByteArray.toList_eq]; exact beq_eq_false_iff_ne.2 hs1
          have HP := Lib.hid (show parseP s.data.toList = wt.mapM (fun v => valOf v.data.toList) by
            unfold parseP
            rw [← HLS.out]
            simp only [List.map_cons]
            rw [if_neg, if_neg hs1, List.mapM_map]
            · rfl
            · rintro (h | h)
              · exact h (by rw [HW0.out])
              · exact HWT.out (by simpa using h))
          clear hs1
          have hsub : (NW : Int) - 1 = ((NW - 1 : Nat) : Int) := by omega
          have hnb : NW ≤ 1048576001 := by
            have h1 := sp_len s.data.toList
            have h2 := congrArg List.length HLS.out
            rw [List.length_map, HNW.out] at h2
            have h3 : s.data.toList.length = s.size := by rw [Lib.size_eq]
            omega
          obtain ⟨M, hM⟩ : ∃ M, NW - 1 = M := ⟨_, rfl⟩
          rw [hM] at hsub
          have HWL := Lib.hid (show wt.length = M by have h9 := HNW.out; simp at h9; omega)
          have hMN : (1 : Int) ≤ (NW : Int) := by omega
          obtain ⟨cs, hcs⟩ : ∃ cs0, madeCells (Value.int .i64 0).cells M = cs0 := ⟨_, rfl⟩
          have hmk : (Instr.makeSlice 22 (.int .i64 0) (.int .i64 (M : Nat))).run Tryd.prog w1 = .ok (.slice (some ⟨w1.heap.size, 0, none⟩) 0 M) (w1.alloc (.cells cs 3)) := by
            have h9 := run_mk (P := Tryd.prog) int8 .i64 .i64 (Nat.zero_le M) (by omega) (by omega) w1
            rw [hcs] at h9
            exact h9
          have HOM := Lib.hid (show (w1.alloc (.cells cs 3)).ownsRow (w.heap.size + 1) 3 1 (.slice (some ⟨w1.heap.size, 0, none⟩) 0 M) 0 [] from
            World.ownsRow_made w1 cs M (by rw [HSZ.out]; exact Nat.le_refl _) (by unfold maxLen; omega) (by
              have h9 := congrArg List.length (toList_madeCells_one (Value.int .i64 0) M)
              rw [← hcs, Nat.mul_one]
              exact (by simpa using h9 : (madeCells #[Value.int .i64 0] M).size = M)))
          have HBM := Lib.hid (show Below (w.heap.size + 1) w1 (w1.alloc (.cells cs 3)) from (Below.refl _ _).alloc (by rw [HSZ.out]; exact Nat.le_refl _) _)
          clear hcs
          go_upto_block 0 with (fail)
          change Code.wp _ _ _ _ (w1.alloc (.cells cs 3))
          generalize w1.alloc (.cells cs 3) = w2 at *
          clear hmk he he2 hn2i c0 hsub
          go_cut [5] (fun s5 wz => ∃ (A : Option Addr) (c : Nat) (p : List Nat), s5 = .slice A M c ∧ Hid (Below (w.heap.size + 1) w1 wz ∧ wz.ownsRow (w.heap.size + 1) 3 1 (.slice A M c) M (ints p) ∧ wt.mapM (fun v => valOf v.data.toList) = some p ∧ p.length = M))
          case first =>
            go_wp2_with (fail)
            go_loopg [5, 30] M (fun g s5 s30 wx => ∃ (i : Nat) (A : Option Addr) (c : Nat) (p : List Nat), i + g = M ∧ s30 = .int .i64 (i : Nat) ∧ s5 = .slice A i c ∧ Hid (Below (w.heap.size + 1) w1 wx ∧ wx.ownsRow (w.heap.size + 1) 3 1 (.slice A i c) i (ints p) ∧ (wt.take i).mapM (fun v => valOf v.data.toList) = some p ∧ p.length = i))
            case atStart => exact ⟨0, _, _, [], by omega, rfl, rfl, Lib.hid ⟨HBM.out, HOM.out, rfl, rfl⟩⟩
            case round =>
              obtain ⟨i, A, c, p, hig, rfl, rfl, hst⟩ := hrel
              cases gk with
              | zero =>
                obtain rfl : i = M := by omega
                have hk : ¬ (i : Int) < (i : Int) := by omega
                go_wp2_with (fail)
                go_meet
                have h9 := hst.out
                rw [← HWL.out, List.take_length, HWL.out] at h9
                exact ⟨A, c, p, rfl, Lib.hid h9⟩
              | succ g =>
                have hk : (i : Int) < (M : Int) := by omega
                have hk0 : (0 : Int) ≤ (i : Int) := by omega
                obtain ⟨wd, hwd⟩ : ∃ x, wt[i]? = some x := ⟨_, List.getElem?_eq_getElem (by rw [HWL.out]; omega)⟩
                have c0 := HCE.out wr hst.out.1 (1 + i) wd (by rw [Nat.add_comm]; exact hwd)
                have HWD := Lib.hid hwd
                clear hwd
                have hsz : wd.size ≤ 1048576000 := by
                  have h1 : wd.data.toList ∈ sp s.data.toList := by rw [← HLS.out]; exact List.mem_map_of_mem (List.mem_cons_of_mem _ (List.mem_of_getElem? HWD.out))
                  have h2 := sp_word_len _ _ h1
                  have h3 : s.data.toList.length = s.size := by rw [Lib.size_eq]
                  have h4 : wd.data.toList.length = wd.size := by rw [Lib.size_eq]
                  omega
                have HBW := Lib.hid (show Below w.heap.size w wr from HW1.out.trans (hst.out.1.mono (Nat.le_succ _)))
                have C1 := Lib.hid (c_puint wd (by omega) wr (HG.out.below HBW.out HG.out.sz))
                have hi30 : (i : Int) ≤ 1048576001 := by omega
                rcases hend : Lib.parseUintB 31 wd.data.toList with v | _ | _
                · skip
                  have hv : v ≤ top := by
                    unfold Lib.parseUintB at hend
                    split at hend
                    · cases hend
                    · exact parse_le _ _ _ _ (Nat.zero_le _) hend
                  have hv2 : v ≤ 2147483647 := hv
                  by_cases hdw : Lib.decDigits v = wd.data.toList
                  · have HVAL := Lib.hid (show valOf wd.data.toList = some v by unfold valOf; rw [hend]; dsimp only; rw [if_pos hdw])
                    have he3 : (Lib.decDigits v == wd.toList) = true := by rw [ByteArray.toList_eq]; exact beq_iff_eq.2 hdw
                    have HEND := Lib.hid hend
                    clear hend hdw
                    go_wp2_with (first
                      | (go_at_call 37; go_must (refine C1.out.mono ?_); rintro e w3 ⟨u, er, rfl, hpu, hb3⟩; rw [HEND.out] at hpu; obtain ⟨rfl, rfl⟩ := hpu; have HB3 := Lib.hid (HBW.out.trans (hb3.mono HBW.out.size)); have HX3 := Lib.hid hb3; have C2 := Lib.hid (c_fuint u (by omega) w3 (HG.out.below HB3.out HG.out.sz)); clear hb3)
                      | (go_at_call 38; go_must (refine C2.out.mono ?_); rintro e w4 ⟨rfl, hb4⟩; have HB4 := Lib.hid (HB3.out.trans (hb4.mono HB3.out.size)); have HX4 := Lib.hid (HX3.out.trans (hb4.mono HX3.out.size)); have HOA := Lib.hid ((own_below hst.out.2.1 HX4.out).alloc (.cells #[.int .i64 (u : Nat)] 3)); have HNW := Lib.hid (RV.new (w := w4) #[Value.int .i64 (u : Nat)] 3); have hz4 := HB4.out.size; have hz5 := hst.out.1.size; have hz6 : w.heap.size + 1 ≤ w1.heap.size := Nat.le_of_eq HSZ.out.symm; have hz7 := HX4.out.size; clear hb4)
                      | (at_builtin; go_must (refine wpList_ap int8 rfl _ _ rfl rfl HOA.out rfl (m := 1) (news := [Value.int .i64 (u : Nat)]) rfl HNW.out (by intro z hz; rw [List.mem_singleton.1 hz]; rfl) (by unfold maxLen; omega) (by omega) (by simp; omega) ?_); intro A5 c5 w5 hown5 hgrow5 hob5 hcap5; have HO5 := Lib.hid hown5; have HG5 := Lib.hid (grown_kpi HOA.out hgrow5); clear hown5 hgrow5 hob5 hcap5))
                    go_roundg g
                    case measure => omega
                    case rel =>
                      obtain ⟨T, kT, hT⟩ := HG5.out
                      have hk5 := kT.below (B := w.heap.size + 1) (by omega) hT
                      refine ⟨i + 1, A5, c5, p ++ [u], by omega, by go_num, rfl, Lib.hid ⟨hst.out.1.trans ((HX4.out.mono (by omega)).trans hk5), ?_, mapM_take HWD.out hst.out.2.2.1 HVAL.out, by rw [List.length_append, hst.out.2.2.2]; rfl⟩⟩
                      have h9 := HO5.out
                      unfold ints at h9 ⊢
                      rw [List.map_append]
                      exact h9
                  · have HVAL := Lib.hid (show valOf wd.data.toList = none by unfold valOf; rw [hend]; dsimp only; rw [if_neg hdw])
                    have he3 : (Lib.decDigits v == wd.toList) = false := by rw [ByteArray.toList_eq]; exact beq_eq_false_iff_ne.2 hdw
                    have HEND := Lib.hid hend
                    clear hend hdw
                    go_wp2_with (first
                      | (go_at_call 37; go_must (refine C1.out.mono ?_); rintro e w3 ⟨u, er, rfl, hpu, hb3⟩; rw [HEND.out] at hpu; obtain ⟨rfl, rfl⟩ := hpu; have HB3 := Lib.hid (HBW.out.trans (hb3.mono HBW.out.size)); have C2 := Lib.hid (c_fuint u (by omega) w3 (HG.out.below HB3.out HG.out.sz)); clear hb3)
                      | (go_at_call 38; go_must (refine C2.out.mono ?_); rintro e w4 ⟨rfl, hb4⟩; have HB4 := Lib.hid (HB3.out.trans (hb4.mono HB3.out.size)); clear hb4))
                    go_ret2
                    exact NON _ HB4.out (by rw [HP.out]; exact mapM_bad HWD.out HVAL.out)
                · skip
                  have HVAL := Lib.hid (show valOf wd.data.toList = none by unfold valOf; rw [hend])
                  have HEND := Lib.hid hend
                  clear hend
                  go_wp2_with (first
                    | (go_at_call 37; go_must (refine C1.out.mono ?_); rintro e w3 ⟨u, er, rfl, hpu, hb3⟩; rw [HEND.out] at hpu; obtain ⟨et, ep, rfl⟩ := hpu; have HB3 := Lib.hid (HBW.out.trans (hb3.mono HBW.out.size)); clear hb3))
                  go_ret2
                  exact NON _ HB3.out (by rw [HP.out]; exact mapM_bad HWD.out HVAL.out)
                · skip
                  have HVAL := Lib.hid (show valOf wd.data.toList = none by unfold valOf; rw [hend])
                  have HEND := Lib.hid hend
                  clear hend
                  go_wp2_with (first
                    | (go_at_call 37; go_must (refine C1.out.mono ?_); rintro e w3 ⟨u, er, rfl, hpu, hb3⟩; rw [HEND.out] at hpu; obtain ⟨et, ep, rfl⟩ := hpu; have HB3 := Lib.hid (HBW.out.trans (hb3.mono HBW.out.size)); clear hb3))
                  go_ret2
                  exact NON _ HB3.out (by rw [HP.out]; exact mapM_bad HWD.out HVAL.out)
          case rest =>
            obtain ⟨A, c, p, rfl, hst⟩ := hcut
            go_wp2_with (fail)
            go_ret2
            refine ⟨A, M, c, by rw [HP.out, hst.out.2.2.1]; rfl, HW1.out.trans (hst.out.1.mono (Nat.le_succ _)), by rw [HP.out, hst.out.2.2.1]; exact hst.out.2.2.2, ?_⟩
            rw [HP.out, hst.out.2.2.1]
            exact own_mono hst.out.2.1 (Nat.le_succ _)
    · have he : w0.toList.isEmpty = false := by rw [← decide_eq_emptyBytes]; exact decide_eq_false hw0
      have HP := Lib.hid (show parseP s.data.toList = none by
        unfold parseP
        rw [← HLS.out]
        simp only [List.map_cons]
        rw [if_pos (.inl (fun h => hw0 (ba_nil h)))])
      clear hw0
      go_wp2_with (fail)
      go_ret2
      exact NON _ HW1.out HP.out
end Go.Proofs.YtgjningfpkoooaaDoor.Ro
