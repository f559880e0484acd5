/- The reference's writer: full. -/
import Derived.Test.YtdpnlmofkkdioaaDoorVf
namespace Go.Proofs.YtdpnlmofkkdioaaDoor.Hf
set_option linter.unusedVariables false
set_option linter.unusedSimpArgs false
open Go.RowKit Go.Proofs.YtdpnlmofkkdioaaDoor.W

theorem nU_snoc {u : List Bool} {i : Nat} {b : Bool} (h : u[i]? = some b) : nU (u.take (i + 1)) = nU (u.take i) + if b then 1 else 0 := by
  obtain ⟨h1, h2⟩ := List.getElem?_eq_some_iff.1 h
  rw [List.take_succ_eq_append_getElem h1, h2]
  unfold nU
  rw [List.filter_append]
  cases b <;> simp
/-- While the symbols that are used are filled up. -/
def Fil (u : List Bool) (least i n : Nat) (v : List Bool) : Prop := ∃ P, P.length = i ∧ v = P ++ u.drop i ∧ fillU (least - nU u) u = P ++ fillU (least - n) (u.drop i) ∧ n = nU v
theorem Fil.start (u : List Bool) (least : Nat) : Fil u least 0 (nU u) u := ⟨[], rfl, by simp, by simp, rfl⟩
theorem nU_append (a b : List Bool) : nU (a ++ b) = nU a + nU b := by unfold nU; rw [List.filter_append, List.length_append]
theorem Fil.step {u v : List Bool} {least i n : Nat} {b : Bool} (h : Fil u least i n v) (hb : u[i]? = some b) (hn : n < least) :
    v[i]? = some b ∧ (b = true → Fil u least (i + 1) n v) ∧ (b = false → Fil u least (i + 1) (n + 1) (v.set i true)) := by
  obtain ⟨P, h1, h2, h3, h4⟩ := h
  obtain ⟨h5, h6⟩ := List.getElem?_eq_some_iff.1 hb
  have e : u.drop i = b :: u.drop (i + 1) := by rw [List.drop_eq_getElem_cons h5, h6]
  obtain ⟨m, hm⟩ : ∃ m, least - n = m + 1 := ⟨least - n - 1, by omega⟩
  refine ⟨?_, fun hbt => ?_, fun hbf => ?_⟩
  · rw [h2, List.getElem?_append_right (by omega), h1, Nat.sub_self, e]; rfl
  · subst hbt
    refine ⟨P ++ [true], by rw [List.length_append, h1]; rfl, by rw [h2, e]; simp, ?_, h4⟩
    rw [h3, e, hm]
    simp [fillU]
  · subst hbf
    refine ⟨P ++ [true], by rw [List.length_append, h1]; rfl, ?_, ?_, ?_⟩
    · rw [h2, e, List.set_append_right _ _ (by omega), h1, Nat.sub_self]; simp
    · rw [h3, e, hm, show least - (n + 1) = m by omega]
      simp [fillU]
    · rw [h4, h2, e, List.set_append_right _ _ (by omega), h1, Nat.sub_self, nU_append, nU_append]
      show nU P + nU (false :: u.drop (i + 1)) + 1 = nU P + nU (true :: u.drop (i + 1))
      rw [nU_cons, nU_cons]
      simp
      omega
theorem Fil.len {u v : List Bool} {least i n : Nat} (h : Fil u least i n v) (hi : i ≤ u.length) : v.length = u.length := by
  obtain ⟨P, h1, h2, _⟩ := h
  rw [h2, List.length_append, List.length_drop]
  omega
theorem Fil.done {u v : List Bool} {least i n : Nat} (h : Fil u least i n v) (hd : i = u.length ∨ least ≤ n) : v = fullU u least ∧ n = nU (fullU u least) := by
  obtain ⟨P, h1, h2, h3, h4⟩ := h
  have e : v = fullU u least := by
    unfold fullU
    rw [h2, h3]
    rcases hd with hd | hd
    · rw [hd, List.drop_length]; cases least - n <;> rfl
    · rw [show least - n = 0 by omega]; cases u.drop i <;> rfl
  exact ⟨e, by rw [h4, e]⟩
/-- While lengths are laid. -/
def Lay (k : Nat) (big : Bool) (v : List Bool) (sh0 i sh : Nat) (D : List Nat) : Prop := D.length = i ∧ fullGo k big v sh0 = D ++ fullGo k big (v.drop i) sh
theorem Lay.start (k : Nat) (big : Bool) (v : List Bool) (sh0 : Nat) : Lay k big v sh0 0 sh0 [] := ⟨rfl, by simp⟩
theorem Lay.step {k : Nat} {big : Bool} {v : List Bool} {sh0 i sh : Nat} {D : List Nat} {b : Bool} (h : Lay k big v sh0 i sh D) (hb : v[i]? = some b) :
    (b = false → Lay k big v sh0 (i + 1) sh (D ++ [0])) ∧ (b = true → (0 < sh ∧ big = true) → Lay k big v sh0 (i + 1) (sh - 1) (D ++ [k])) ∧ (b = true → ¬ (0 < sh ∧ big = true) → Lay k big v sh0 (i + 1) sh (D ++ [k + 1])) := by
  obtain ⟨h1, h2⟩ := h
  obtain ⟨h5, h6⟩ := List.getElem?_eq_some_iff.1 hb
  have e : v.drop i = b :: v.drop (i + 1) := by rw [List.drop_eq_getElem_cons h5, h6]
  rw [e] at h2
  refine ⟨fun hbf => ?_, fun hbt hc => ?_, fun hbt hc => ?_⟩
  · subst hbf
    exact ⟨by rw [List.length_append, h1]; rfl, by rw [h2]; simp [fullGo]⟩
  · subst hbt
    exact ⟨by rw [List.length_append, h1]; rfl, by rw [h2, fullGo, if_pos hc]; simp⟩
  · subst hbt
    exact ⟨by rw [List.length_append, h1]; rfl, by rw [h2, fullGo, if_neg hc]; simp⟩
theorem Lay.done {k : Nat} {big : Bool} {v : List Bool} {sh0 i sh : Nat} {D : List Nat} (h : Lay k big v sh0 i sh D) (hi : i = v.length) : D = fullGo k big v sh0 := by
  rw [h.2, hi, List.drop_length]
  simp [fullGo]
theorem klog_first {n k : Nat} (h : ∀ j, j < k → ¬ n < 2 * 2 ^ j) (hk : n < 2 * 2 ^ k) (hn : n ≤ 320) : klog n = k := by
  have hk10 : k < 10 := by
    rcases Nat.lt_or_ge k 10 with h1 | h1
    · exact h1
    · have := h 9 (by omega)
      have e : (2 : Nat) ^ 9 = 512 := by decide
      omega
  unfold klog
  rw [find_first (p := fun k => decide (n < 2 * 2 ^ k)) (fun j hj => decide_eq_false (h j hj)) (decide_eq_true hk) hk10]
  rfl
def FullP (w : World) (ub : Nat) (u : List Bool) (least : Nat) (e : Ending) (w' : World) : Prop :=
  ∃ ob, e = .returned (.slice (some ⟨ob, 0, none⟩) u.length u.length) ∧ w'.heap[ob]? = some (.cells (ints (fullL u least)).toArray 3 (0, 0)) ∧ Kp [ub] w w' ∧ w.heap.size ≤ ob
set_option maxHeartbeats 8000000 in
set_option maxRecDepth 100000 in
theorem w_full (w : World) (ub : Nat) (u : List Bool) (least L : Nat) (hu : w.heap[ub]? = some (.cells (bls u).toArray 4 (0, 0))) (hL : u.length = L) (hL2 : L ≤ 320) (hl2 : least ≤ 2) :
    Calls Tryd.prog 61 #[.slice (some ⟨ub, 0, none⟩) L L, .int .i64 (least : Nat)] w (FullP w ub u least) := by
  have HU := Lib.hid hu
  have HL := Lib.hid hL
  have hub := (Array.getElem?_eq_some_iff.1 hu).1
  obtain ⟨cs0, hcs0⟩ : ∃ cs0, madeCells (Value.int .i64 0).cells L = cs0 := ⟨_, rfl⟩
  have hmk := run_mk (P := Tryd.prog) int8 .i64 .i64 (Nat.le_refl L) (by omega) (by omega) w
  rw [hcs0] at hmk
  have HCS := Lib.hid (show cs0 = (ints (List.replicate L 0)).toArray from by
    rw [← hcs0]
    apply Array.ext'
    rw [show (Value.int .i64 0).cells = #[.int .i64 0] from rfl, toList_madeCells_one]
    simp [ints])
  clear hu hL hcs0
  go_enter Tryd.func61, Tryd.ntmps61
  go_upto_block 0 with (fail)
  have HO1 := Lib.hid (show (w.alloc (.cells cs0 3)).heap[w.heap.size]? = some (.cells cs0 3 (0, 0)) from heap_alloc_new w _)
  have hk1 : Kp [] w (w.alloc (.cells cs0 3)) := (Kp.refl _ _).alloc _
  have HU1 := Lib.hid ((hk1.block ub hub (by simp)).trans HU.out)
  have HK1 := Lib.hid hk1
  change Code.wp _ _ _ _ (w.alloc (.cells cs0 3))
  have hob : ub < w.heap.size := hub
  generalize w.alloc (.cells cs0 3) = w1 at *
  clear hmk hk1
  obtain ⟨ob, hO⟩ : ∃ ob, w.heap.size = ob := ⟨_, rfl⟩
  have HO := Lib.hid hO
  rw [hO] at HO1 hob ⊢
  clear hO
  go_cut [6] (fun s6 wz => s6 = .int .i64 (nU u : Nat) ∧ w1 = wz)
  case first =>
    go_wp2_with (fail)
    go_loopg [6, 7] L (fun g s6 s7 wx => ∃ i N : Nat, i + g = L ∧ s7 = .int .i64 (i : Nat) ∧ s6 = .int .i64 (N : Nat) ∧ w1 = wx ∧ Hid (N = nU (u.take i)) ∧ N ≤ i)
    case atStart => exact ⟨0, 0, by omega, rfl, rfl, rfl, Lib.hid rfl, Nat.le_refl _⟩
    case round =>
      obtain ⟨i, N, hig, rfl, rfl, rfl, hN, hNi⟩ := hrel
      cases gk with
      | zero =>
        obtain rfl : i = L := by omega
        have hk : ¬ (i : Int) < (i : Int) := by omega
        have HE := Lib.hid (show N = nU u by rw [hN.out, List.take_of_length_le (by rw [HL.out]; exact Nat.le_refl _)])
        go_wp2_with (fail)
        go_meet
        exact ⟨by rw [← HE.out], rfl⟩
      | succ g =>
        have hk : (i : Int) < (L : Int) := by omega
        have hk0 : (0 : Int) ≤ (i : Int) := by omega
        obtain ⟨b, hb⟩ : ∃ b, u[i]? = some b := ⟨_, List.getElem?_eq_getElem (by rw [HL.out]; omega)⟩
        have hc : w1.cell? ⟨ub, i, none⟩ = some (.bool b) := by rw [cell_of_row w1 ub i _ _ _ HU1.out]; simp [bls, hb]
        have HS := Lib.hid (nU_snoc hb)
        clear hb
        cases b with
        | true =>
          go_wp2_with (fail)
          go_roundg g
          case measure => omega
          case rel => exact ⟨i + 1, N + 1, by omega, by go_num, by go_num, rfl, Lib.hid (by rw [HS.out, ← hN.out]; rfl), by omega⟩
        | false =>
          go_wp2_with (fail)
          go_roundg g
          case measure => omega
          case rel => exact ⟨i + 1, N, by omega, by go_num, rfl, rfl, Lib.hid (by rw [HS.out, ← hN.out]; rfl), by omega⟩
  case rest =>
    obtain ⟨rfl, rfl⟩ := hcut
    have hn0 : nU u ≤ L := by rw [← HL.out]; exact nU_le u
    have HF0 := Lib.hid (Fil.start u least)
    obtain ⟨N0, hN0⟩ : ∃ N, nU u = N := ⟨_, rfl⟩
    rw [hN0] at hn0 HF0 ⊢
    clear hN0
    go_upto_block 2 with (fail)
    go_cut [6] (fun s6 wz => ∃ N v, s6 = .int .i64 (N : Nat) ∧ Hid (v = fullU u least ∧ N = nU v ∧ v.length = L) ∧ N ≤ L ∧ Hid (wz.heap[ub]? = some (.cells (bls v).toArray 4 (0, 0)) ∧ wz.heap[ob]? = some (.cells cs0 3 (0, 0)) ∧ Kp [ub] w wz))
    case first =>
      go_wp2_with (fail)
      go_loopg [6, 8] L (fun g s6 s8 wx => ∃ i N v, i + g = L ∧ s8 = .int .i64 (i : Nat) ∧ s6 = .int .i64 (N : Nat) ∧ Hid (Fil u least i N v) ∧ N ≤ L ∧ Hid (wx.heap[ub]? = some (.cells (bls v).toArray 4 (0, 0)) ∧ wx.heap[ob]? = some (.cells cs0 3 (0, 0)) ∧ Kp [ub] w wx))
      case atStart => exact ⟨0, N0, u, by omega, rfl, rfl, HF0, hn0, Lib.hid ⟨HU1.out, HO1.out, HK1.out.mono (by simp)⟩⟩
      case round =>
        obtain ⟨i, N, v, hig, rfl, rfl, hF, hNL, hW⟩ := hrel
        have hend : i = L ∨ least ≤ N → v = fullU u least ∧ N = nU v ∧ v.length = L := fun hd => by
          obtain ⟨h1, h2⟩ := hF.out.done (by rw [HL.out]; exact hd)
          exact ⟨h1, by rw [h1]; exact h2, by rw [hF.out.len (by rw [HL.out]; omega), HL.out]⟩
        have HEND := Lib.hid hend
        clear hend
        cases gk with
        | zero =>
          obtain rfl : i = L := by omega
          have hk : ¬ (i : Int) < (i : Int) := by omega
          go_wp2_with (fail)
          go_meet
          exact ⟨N, v, rfl, Lib.hid (HEND.out (.inl trivial)), hNL, hW⟩
        | succ g =>
          have hk : (i : Int) < (L : Int) := by omega
          have hk0 : (0 : Int) ≤ (i : Int) := by omega
          by_cases hlt : N < least
          · have hl : (N : Int) < (least : Int) := by omega
            obtain ⟨b, hb⟩ : ∃ b, u[i]? = some b := ⟨_, List.getElem?_eq_getElem (by rw [HL.out]; omega)⟩
            obtain ⟨k1, k2, k3⟩ := hF.out.step hb hlt
            have hc : wr.cell? ⟨ub, i, none⟩ = some (.bool b) := by rw [cell_of_row wr ub i _ _ _ hW.out.1]; simp [bls, k1]
            have hf := frozen_of_row wr ub i _ _ hW.out.1
            have hltw := (Array.getElem?_eq_some_iff.1 hW.out.1).1
            have K2 := Lib.hid k2
            have K3 := Lib.hid k3
            have hNN : N + 1 ≤ L ∨ b = true := by
              cases b with
              | true => exact .inr rfl
              | false =>
                obtain ⟨P, _, _, _, h9⟩ := k3 rfl
                have h10 := nU_le (v.set i true)
                rw [List.length_set, hF.out.len (by rw [HL.out]; omega), HL.out] at h10
                exact .inl (by omega)
            clear hb k1 k2 k3 hlt
            cases b with
            | true =>
              go_wp2_with (fail)
              go_roundg g
              case measure => omega
              case rel => exact ⟨i + 1, N, v, by omega, by go_num, rfl, Lib.hid (K2.out trivial), hNL, hW⟩
            | false =>
              have hNN2 : N + 1 ≤ L := hNN.resolve_right (by simp)
              go_wp2_with (fail)
              go_roundg g
              case measure => omega
              case rel =>
                refine ⟨i + 1, N + 1, v.set i true, by omega, by go_num, by go_num, Lib.hid (K3.out trivial), hNN2, Lib.hid ⟨?_, ?_, hW.out.2.2.setCell (.inl (by simp)) _⟩⟩
                · rw [heap_set hW.out.1 i _]
                  simp [bls, List.map_set]
                · exact (heap_setCell_other _ ⟨ub, i, none⟩ ob _ (by show ob ≠ ub; omega)).trans hW.out.2.1
          · have hl : ¬ (N : Int) < (least : Int) := by omega
            have hge : least ≤ N := by omega
            clear hlt
            go_wp2_with (fail)
            go_meet
            exact ⟨N, v, rfl, Lib.hid (HEND.out (.inr hge)), hNL, hW⟩
    case rest =>
      obtain ⟨N, v, rfl, hV, hNL, hW⟩ := hcut
      go_upto_block 4 with (fail)
      go_wp2_with (fail)
      obtain ⟨wv, hwv⟩ : ∃ wv : World, wv = wv := ⟨w1, rfl⟩
      clear wv hwv
      have hN3 : N ≤ 320 := by omega
      go_loopg [9] 10 (fun g s9 wx => ∃ k : Nat, k + g = 10 ∧ s9 = .int .i64 (k : Nat) ∧ Hid (wx.heap[ub]? = some (.cells (bls v).toArray 4 (0, 0)) ∧ wx.heap[ob]? = some (.cells cs0 3 (0, 0)) ∧ Kp [ub] w wx) ∧ Hid (∀ j, j < k → ¬ N < 2 * 2 ^ j))
      case atStart => exact ⟨0, by omega, rfl, hW, Lib.hid (fun j hj => by omega)⟩
      case round =>
        obtain ⟨k, hkg, rfl, hW3, hno⟩ := hrel
        obtain ⟨P, hP⟩ : ∃ P : Nat, 2 ^ k = P := ⟨_, rfl⟩
        have e0 : ((2 : Int) ^ k) = (P : Int) := by rw [← hP]; push_cast; rfl
        have hPb : P ≤ 1024 := by rw [← hP]; exact Nat.le_trans (Nat.pow_le_pow_right (by omega) (show k ≤ 10 by omega)) (by decide)
        have HP := Lib.hid hP
        have HNO := Lib.hid hno.out
        clear hP hno hW
        by_cases hle : 2 * P ≤ N
        · have i1 : 2 * (P : Int) ≤ (N : Int) := by omega
          have HN := Lib.hid (show ∀ j, j < k + 1 → ¬ N < 2 * 2 ^ j from fun j hj => by
            rcases Nat.lt_succ_iff_lt_or_eq.1 hj with h | rfl
            · exact HNO.out j h
            · rw [HP.out]; omega)
          cases gk with
          | zero =>
            exfalso
            have := HNO.out 9 (by omega)
            have e : (2 : Nat) ^ 9 = 512 := by decide
            omega
          | succ g =>
            clear hle
            go_wp2_with (fail)
            go_roundg g
            case measure => omega
            case rel => exact ⟨k + 1, by omega, by go_num, hW3, HN⟩
        · have i1 : ¬ 2 * (P : Int) ≤ (N : Int) := by omega
          have HKL := Lib.hid (show klog N = k from klog_first HNO.out (by rw [HP.out]; omega) hN3)
          obtain ⟨sh0, hsh⟩ : ∃ sh, 2 * P - N = sh := ⟨_, rfl⟩
          have es : 2 * (P : Int) - (N : Int) = (sh0 : Int) := by omega
          have HSH := Lib.hid hsh
          have hk9 : k ≤ 10 := by omega
          obtain ⟨big, hbig⟩ : ∃ b, decide (1 < N) = b := ⟨_, rfl⟩
          have HBIG := Lib.hid hbig
          have HFIN := Lib.hid (show fullGo k big v sh0 = fullL u least from by
            unfold fullL
            rw [← hV.out.1, ← hV.out.2.1, HKL.out, HP.out, hsh, hbig])
          have hsh2 : sh0 ≤ 2048 := by omega
          clear hle hsh hbig HNO
          go_upto_block 6 with (fail)
          go_wp2_with (fail)
          go_loopg [10, 11] L (fun g s10 s11 wx => ∃ i sh D, i + g = L ∧ s11 = .int .i64 (i : Nat) ∧ s10 = .int .i64 (sh : Nat) ∧ sh ≤ 2048 ∧ Hid (Lay k big v sh0 i sh D) ∧ Hid (wx.heap[ub]? = some (.cells (bls v).toArray 4 (0, 0)) ∧ wx.heap[ob]? = some (.cells (ints (D ++ List.replicate g 0)).toArray 3 (0, 0)) ∧ Kp [ub] w wx))
          case atStart => exact ⟨0, sh0, [], by omega, rfl, rfl, hsh2, Lib.hid (Lay.start ..), Lib.hid ⟨hW3.out.1, by rw [List.nil_append, ← HCS.out]; exact hW3.out.2.1, hW3.out.2.2⟩⟩
          case round =>
            obtain ⟨i, sh, D, hig, rfl, rfl, hshb, hLy, hW4⟩ := hrel
            clear hW3
            cases gk with
            | zero =>
              obtain rfl : i = L := by omega
              have hk : ¬ (i : Int) < (i : Int) := by omega
              go_wp2_with (fail)
              go_ret
              have hD := hLy.out.done (by rw [hV.out.2.2])
              rw [HFIN.out] at hD
              have h9 := hW4.out.2.1
              rw [List.replicate_zero, List.append_nil, hD] at h9
              exact ⟨ob, by rw [HL.out]; rfl, h9, hW4.out.2.2, by rw [HO.out]; exact Nat.le_refl _⟩
            | succ g =>
              have hk : (i : Int) < (L : Int) := by omega
              have hk0 : (0 : Int) ≤ (i : Int) := by omega
              obtain ⟨b, hb⟩ : ∃ b, v[i]? = some b := ⟨_, List.getElem?_eq_getElem (by rw [hV.out.2.2]; omega)⟩
              obtain ⟨s1, s2, s3⟩ := hLy.out.step hb
              have hDl := hLy.out.1
              have hc : wr.cell? ⟨ub, i, none⟩ = some (.bool b) := by rw [cell_of_row wr ub i _ _ _ hW4.out.1]; simp [bls, hb]
              have hc2 : wr.cell? ⟨ob, i, none⟩ = some (.int .i64 0) := by
                rw [cell_of_row wr ob i _ _ _ hW4.out.2.1]
                simp [ints, List.getElem?_append_right, hDl]
              have hf2 := frozen_of_row wr ob i _ _ hW4.out.2.1
              have hl2 := (Array.getElem?_eq_some_iff.1 hW4.out.2.1).1
              have HST := Lib.hid (show ∀ x : Nat, (wr.setCell ⟨ob, i, none⟩ (.int .i64 (x : Nat))).heap[ub]? = some (.cells (bls v).toArray 4 (0, 0)) ∧ (wr.setCell ⟨ob, i, none⟩ (.int .i64 (x : Nat))).heap[ob]? = some (.cells (ints ((D ++ [x]) ++ List.replicate g 0)).toArray 3 (0, 0)) ∧ Kp [ub] w (wr.setCell ⟨ob, i, none⟩ (.int .i64 (x : Nat))) from fun x => by
                refine ⟨(heap_setCell_other _ ⟨ob, i, none⟩ ub _ (by show ub ≠ ob; omega)).trans hW4.out.1, ?_, hW4.out.2.2.setCell (.inr (by rw [HO.out]; exact Nat.le_refl _)) _⟩
                rw [heap_set hW4.out.2.1 i _]
                congr 2
                simp [ints, List.replicate_succ, hDl])
              have HS1 := Lib.hid s1
              have HS2 := Lib.hid s2
              have HS3 := Lib.hid s3
              clear hb s1 s2 s3 hDl
              cases b with
              | false =>
                go_wp2_with (fail)
                go_roundg g
                case measure => omega
                case rel => exact ⟨i + 1, sh, D ++ [0], by omega, by go_num, rfl, hshb, Lib.hid (HS1.out trivial), Lib.hid ⟨hW4.out.1, by rw [hW4.out.2.1, List.append_assoc]; rfl, hW4.out.2.2⟩⟩
              | true =>
                by_cases hsp : 0 < sh
                · have i2 : (0 : Int) < (sh : Int) := by omega
                  by_cases hbg : 1 < N
                  · have i3 : (1 : Int) < (N : Int) := by omega
                    have hbt : big = true := by rw [← HBIG.out]; exact decide_eq_true hbg
                    have HC2 := Lib.hid (HS2.out rfl ⟨hsp, hbt⟩)
                    have HDL := Lib.hid hLy.out.1
                    obtain ⟨sh', rfl⟩ : ∃ s, sh = s + 1 := ⟨sh - 1, by omega⟩
                    have es1 : ((sh' + 1 : Nat) : Int) - 1 = (sh' : Int) := by omega
                    clear hbg hbt
                    go_wp2_with (fail)
                    go_roundg g
                    case measure => omega
                    case rel =>
                      have ek : (k : Int) + 1 = ((k + 1 : Nat) : Int) := by omega
                      refine ⟨i + 1, sh', D ++ [k], by omega, by go_num, by go_num, by omega, HC2, Lib.hid ?_⟩
                      rw [ek]
                      refine ⟨?_, ?_, ?_⟩
                      · exact (heap_setCell_other _ ⟨ob, i, none⟩ ub _ (by show ub ≠ ob; omega)).trans (HST.out (k + 1)).1
                      · rw [heap_set (HST.out (k + 1)).2.1 i _]
                        congr 2
                        have hDl := HDL.out
                        simp [ints]
                        rw [List.set_append_right _ _ (by simp; omega)]
                        simp [hDl]
                      · exact (HST.out (k + 1)).2.2.setCell (.inr (by rw [HO.out]; exact Nat.le_refl _)) _
                  · have i3 : ¬ (1 : Int) < (N : Int) := by omega
                    have HC3 := Lib.hid (HS3.out rfl (fun h => by have := h.2; rw [← HBIG.out] at this; exact hbg (of_decide_eq_true this)))
                    clear hbg
                    go_wp2_with (fail)
                    go_roundg g
                    case measure => omega
                    case rel => exact ⟨i + 1, sh, D ++ [k + 1], by omega, by go_num, rfl, hshb, HC3, Lib.hid (HST.out (k + 1))⟩
                · have i2 : ¬ (0 : Int) < (sh : Int) := by omega
                  have HC3 := Lib.hid (HS3.out rfl (fun h => hsp h.1))
                  clear hsp
                  go_wp2_with (fail)
                  go_roundg g
                  case measure => omega
                  case rel => exact ⟨i + 1, sh, D ++ [k + 1], by omega, by go_num, rfl, hshb, HC3, Lib.hid (HST.out (k + 1))⟩
end Go.Proofs.YtdpnlmofkkdioaaDoor.Hf
