/- The inflater: fixed, head. -/
import Derived.Test.YtdpnlmofkkdioaaDoorIu
namespace Go.Proofs.YtdpnlmofkkdioaaDoor.Hf
set_option linter.unusedVariables false
set_option linter.unusedSimpArgs false
open Go.RowKit Go.Proofs.YtdpnlmofkkdioaaDoor.W

/-- A row of numbers that is being laid. -/
structure Lw (w0 w : World) (d x : Nat) (X : List Nat) : Prop where
  cells : w.heap[x]? = some (.cells (ints X).toArray 3 (0, 0))
  kp : Kp [d] w0 w
  x0 : w0.heap.size ≤ x
section
variable {w0 w w' : World} {d x : Nat} {X : List Nat}
theorem Lw.lt (h : Lw w0 w d x X) : x < w.heap.size := (Array.getElem?_eq_some_iff.1 h.cells).1
theorem Lw.fz (h : Lw w0 w d x X) : ∀ i, w.frozen? ⟨x, i, none⟩ = false := fun i => frozen_of_row w x i _ _ h.cells
theorem Lw.c (h : Lw w0 w d x X) {i n : Nat} (hi : X[i]? = some n) : w.cell? ⟨x, i, none⟩ = some (.int .i64 (n : Nat)) := by
  rw [cell_of_row w x i _ _ _ h.cells, List.getElem?_toArray]; exact ints_get hi
theorem Lw.set (h : Lw w0 w d x X) (i n : Nat) : Lw w0 (w.setCell ⟨x, i, none⟩ (.int .i64 (n : Nat))) d x (X.set i n) :=
  ⟨(heap_set h.cells _ _).trans (by rw [List.setIfInBounds_toArray, ints_set]), h.kp.setCell (.inr h.x0) _, h.x0⟩
theorem Lw.row (h : Lw w0 w d x X) : RV w (some ⟨x, 0, none⟩) (ints X) := fun i v hv =>
  ⟨x, 0, rfl, h.lt, by rw [cell_of_row w x (0 + i) _ _ _ h.cells, List.getElem?_toArray, Nat.zero_add]; exact hv⟩
theorem Lw.kept {T : List Nat} (h : Lw w0 w d x X) (hk : Kp T w w') (hT : ∀ k ∈ T, k = d) (hd : d < w0.heap.size) : Lw w0 w' d x X :=
  ⟨(hk.block x h.lt (fun hm => by have h1 := hT x hm; have h2 := h.x0; omega)).trans h.cells, h.kp.trans (hk.mono fun k hk' => .inl (by rw [hT k hk']; simp)), h.x0⟩
end
theorem Tb.sub {w : World} {S T : List Nat} {t : Nat} {lens : List Nat} (h : Tb w S t lens) (hs : ∀ k ∈ T, k ∈ S) : Tb w T t lens := by
  obtain ⟨b, h1, h2, h3⟩ := h.mp
  exact ⟨h.nums, fun hm => h.out (hs t hm), ⟨b, h1, h2, fun hm => h3 (hs b hm)⟩, h.ty⟩
theorem fixL_get : ∀ i : _root_.Fin 288, fixL[i.val]? = some (if 144 ≤ i.val ∧ i.val < 256 then 9 else if 256 ≤ i.val ∧ i.val < 280 then 7 else 8) := by decide +kernel
def part (F : List Nat) (i : Nat) (R : List Nat) : List Nat := F.take i ++ R.drop i
theorem part_set {F R : List Nat} {i v : Nat} (hF : F[i]? = some v) (hR : i < R.length) : (part F i R).set i v = part F (i + 1) R := by
  unfold part
  obtain ⟨h1, h2⟩ := List.getElem?_eq_some_iff.1 hF
  rw [List.set_append_right _ _ (by rw [List.length_take]; omega), List.length_take, Nat.min_eq_left (Nat.le_of_lt h1), Nat.sub_self, List.take_succ_eq_append_getElem h1, h2, List.append_assoc]
  congr 1
  rw [List.drop_eq_getElem_cons hR]
  rfl
theorem part_set2 {F R : List Nat} {i u v : Nat} (hF : F[i]? = some v) (hR : i < R.length) : ((part F i R).set i u).set i v = part F (i + 1) R := by
  rw [List.set_set, part_set hF hR]
theorem part_get {F R : List Nat} {i : Nat} (hF : i < F.length) (hR : i < R.length) : ∃ y, (part F i R)[i]? = some y := by
  unfold part
  exact ⟨_, List.getElem?_eq_getElem (by rw [List.length_append, List.length_take, List.length_drop]; omega)⟩
theorem part_zero (F R : List Nat) : part F 0 R = R := by simp [part]
theorem part_all (F R : List Nat) (h : F.length = R.length) : part F R.length R = F := by unfold part; rw [← h, List.take_length, h, List.drop_length, List.append_nil]
def z288 : List Nat := List.replicate 288 0
def five : List Nat := List.replicate 288 5
theorem newOk_fixL : newOk fixL = true := by decide +kernel
theorem newOk_fixD : newOk fixD = true := by decide +kernel
set_option maxHeartbeats 4000000 in
set_option maxRecDepth 100000 in
theorem c_fixed {w : World} {d r p g : Nat} {l e c : Option Addr} {m : M} {rdy : Bool} {o : Int} (D : List Nat) (hD : ∀ k ∈ D, k < w.heap.size) (hdD : d ∈ D) (h : DB w d r p g l e c m rdy o) :
    Calls Tryd.prog 53 #[.pointer (some ⟨d, 0, none⟩)] w fun en w' => en = .returned (.tuple #[]) ∧ ∃ ta tb, DB w' d r p g (some ⟨ta, 0, none⟩) (some ⟨tb, 0, none⟩) c m rdy o ∧ Tb w' D ta fixL ∧ Tb w' D tb fixD ∧ Kp [d] w w' := by
  have HD := Lib.hid h
  have HDD := Lib.hid hD
  have HDM := Lib.hid hdD
  have hlt := h.lt
  have hmk : Sem.run Tryd.prog (Instr.makeSlice 29 (.int .i64 288) (.int .i64 288)) w = .ok (.slice (some ⟨w.heap.size, 0, none⟩) 288 288) (w.alloc (.cells (madeCells (Value.int .i64 0).cells 288) 3)) := run_mk int8 .i64 .i64 (Nat.le_refl 288) (by omega) (by omega) w
  have hcs : madeCells (Value.int .i64 0).cells 288 = (ints z288).toArray := by
    apply Array.toList_inj.1
    rw [show (Value.int .i64 0).cells = #[Value.int .i64 0] from rfl, toList_madeCells_one]
    simp [ints, z288]
  rw [hcs] at hmk
  have HL0 := Lib.hid (show Lw w (w.alloc (.cells (ints z288).toArray 3)) d w.heap.size (part fixL 0 z288) from ⟨by rw [part_zero]; exact heap_alloc_new _ _, (Kp.refl _ _).alloc _, Nat.le_refl _⟩)
  clear h hD hdD hcs
  go_enter Tryd.func53, Tryd.ntmps53
  go_upto_block 0 with (fail)
  obtain ⟨x, hx⟩ : ∃ x, w.heap.size = x := ⟨_, rfl⟩
  rw [hx] at HL0
  rw [hx]
  have HK01 := Lib.hid (show Kp [] w (w.alloc (.cells (ints z288).toArray 3)) from (Kp.refl _ _).alloc _)
  generalize w.alloc (.cells (ints z288).toArray 3) = w1 at *
  have HX := Lib.hid hx
  clear hmk hx
  have HDB1 := Lib.hid (show DB w1 d r p g l e c m rdy o from HD.out.kept HK01.out (by simp))
  go_cut [] (fun wz => Lw w wz d x fixL ∧ DB wz d r p g l e c m rdy o)
  case first =>
    go_wp2_with (fail)
    go_loopg [8] 288 (fun g' s8 wx => ∃ i : Nat, i + g' = 288 ∧ s8 = .int .i64 i ∧ Lw w wx d x (part fixL i z288) ∧ DB wx d r p g l e c m rdy o)
    case atStart => exact ⟨0, by omega, rfl, HL0.out, HDB1.out⟩
    case round =>
      obtain ⟨i, hig, rfl, hL, hB⟩ := hrel
      have HB := Lib.hid hB
      have hxd : ¬ x = d := by have h1 := hL.x0; have h2 := HD.out.lt; omega
      have HKX := Lib.hid (show ∀ (wq : World) (i : Nat) (v : Value), DB wq d r p g l e c m rdy o → DB (wq.setCell ⟨x, i, none⟩ v) d r p g l e c m rdy o from fun wq i v h => h.kept (S := [x]) (kp_set (by simp) i v) (by simp; exact fun h => hxd h.symm))
      clear hB
      cases gk with
      | zero =>
        obtain rfl : i = 288 := by omega
        have HLq := Lib.hid hL
        go_wp2_with (fail)
        go_meet
        have h9 := HLq.out
        rw [show part fixL 288 z288 = fixL from part_all fixL z288 (by decide +kernel)] at h9
        exact ⟨h9, HB.out⟩
      | succ g' =>
        have hk : (i : Int) < 288 := by omega
        obtain ⟨y, hy⟩ := part_get (F := fixL) (R := z288) (i := i) (by rw [show fixL.length = 288 by decide +kernel]; omega) (by rw [show z288.length = 288 by decide +kernel]; omega)
        have hcy := hL.c hy
        have hf := hL.fz
        have hl := hL.lt
        have hg := fixL_get ⟨i, by omega⟩
        dsimp only at hg
        have hz : i < z288.length := by rw [show z288.length = 288 by decide +kernel]; omega
        have HLq := Lib.hid hL
        have HG := Lib.hid hg
        have HZ := Lib.hid hz
        clear hL hy hg hz
        by_cases c1 : 144 ≤ i ∧ i < 256
        · have HV := Lib.hid (part_set2 (u := 8) (HG.out.trans (by rw [if_pos c1])) HZ.out)
          have i1 : (144 : Int) ≤ (i : Int) := by omega
          have i2 : (i : Int) < 256 := by omega
          clear c1
          go_wp2_with (fail)
          go_roundg g'
          case measure => omega
          case rel => exact ⟨i + 1, by omega, by go_num, by rw [← HV.out]; exact (HLq.out.set i 8).set i 9, HKX.out _ _ _ (HKX.out _ _ _ HB.out)⟩
        · by_cases c2 : 256 ≤ i ∧ i < 280
          · have HV := Lib.hid (part_set2 (u := 8) (HG.out.trans (by rw [if_neg c1, if_pos c2])) HZ.out)
            have i1 : (144 : Int) ≤ (i : Int) := by omega
            have i2 : ¬ (i : Int) < 256 := by omega
            have i3 : (256 : Int) ≤ (i : Int) := by omega
            have i4 : (i : Int) < 280 := by omega
            clear c1 c2
            go_wp2_with (fail)
            go_roundg g'
            case measure => omega
            case rel => exact ⟨i + 1, by omega, by go_num, by rw [← HV.out]; exact (HLq.out.set i 8).set i 7, HKX.out _ _ _ (HKX.out _ _ _ HB.out)⟩
          · have HV := Lib.hid (part_set (HG.out.trans (by rw [if_neg c1, if_neg c2])) HZ.out)
            by_cases c3 : i < 144
            · have i1 : ¬ (144 : Int) ≤ (i : Int) := by omega
              have i3 : ¬ (256 : Int) ≤ (i : Int) := by omega
              clear c1 c2
              go_wp2_with (fail)
              go_roundg g'
              case measure => omega
              case rel => exact ⟨i + 1, by omega, by go_num, by rw [← HV.out]; exact HLq.out.set i 8, HKX.out _ _ _ HB.out⟩
            · have i1 : (144 : Int) ≤ (i : Int) := by omega
              have i2 : ¬ (i : Int) < 256 := by omega
              have i3 : (256 : Int) ≤ (i : Int) := by omega
              have i4 : ¬ (i : Int) < 280 := by omega
              clear c1 c2
              go_wp2_with (fail)
              go_roundg g'
              case measure => omega
              case rel => exact ⟨i + 1, by omega, by go_num, by rw [← HV.out]; exact HLq.out.set i 8, HKX.out _ _ _ HB.out⟩
  case rest =>
    obtain ⟨hcut, hDB⟩ := hcut
    have HLc := Lib.hid hcut
    have hcl := hcut.lt
    have hxw := hcut.x0
    have HN := Lib.hid (c_new1 (some ⟨x, 0, none⟩) 288 288 fixL wc (by decide +kernel) (by omega) (Tab.fixL.le) hcut.row)
    have HK1 := Lib.hid hcut.kp
    have HSZ := Lib.hid (show ∀ k ∈ x :: D, k < wc.heap.size from fun k hk => by
      rcases List.mem_cons.1 hk with h9 | h9
      · rw [h9]; exact hcl
      · exact Nat.lt_of_lt_of_le (HDD.out k h9) hcut.kp.size)
    have hcd := hDB.lt
    clear hcut
    go_upto_block 2 with (first
      | (go_at_call 69; go_must (refine HN.out.mono ?_); rintro en w2 ⟨pt, er, rfl, hyes, hno, hk2⟩; have HY := Lib.hid (hyes newOk_fixL); have HK2 := Lib.hid hk2; clear hyes hno hk2; have HD2 := Lib.hid (hDB.kept HK2.out (by simp)); have g8 := HD2.out.a (i := 8) rfl; have gf := HD2.out.fz; have gl := HD2.out.lt))
    obtain ⟨rfl, ta, rfl, hTA⟩ := HY.out
    have HD3 := Lib.hid (HD2.out.setL (some ⟨ta, 0, none⟩))
    have hk3 : Kp [d] w2 (w2.setCell ⟨d, 8, none⟩ (.pointer (some ⟨ta, 0, none⟩))) := kp_set (by simp) _ _
    have HTA := Lib.hid (((hTA (x :: D) (fun k hk => HSZ.out k hk))).kept hk3 (fun k hk => .inl (by simp at hk; rw [hk]; exact List.mem_cons_of_mem _ HDM.out)))
    have HL3 := Lib.hid (show Lw w (w2.setCell ⟨d, 8, none⟩ (.pointer (some ⟨ta, 0, none⟩))) d x (part five 0 fixL) from by
      rw [part_zero]
      exact HLc.out.kept ((HK2.out.mono (T := [d]) (by simp)).trans hk3) (by simp) HD.out.lt)
    have hxd : ¬ x = d := by have h2 := HD.out.lt; omega
    have HKX := Lib.hid (show ∀ (wq : World) (i : Nat) (v : Value), DB wq d r p g (some ⟨ta, 0, none⟩) e c m rdy o ∧ Tb wq (x :: D) ta fixL → DB (wq.setCell ⟨x, i, none⟩ v) d r p g (some ⟨ta, 0, none⟩) e c m rdy o ∧ Tb (wq.setCell ⟨x, i, none⟩ v) (x :: D) ta fixL from fun wq i v h => ⟨h.1.kept (S := [x]) (kp_set (by simp) i v) (by simp; exact fun h => hxd h.symm), h.2.kept (T := [x]) (kp_set (by simp) i v) (fun k hk => .inl (by simp at hk; rw [hk]; exact List.mem_cons_self ..))⟩)
    clear hTA hk3 gf gl g8 hcd hcl hDB
    generalize w2.setCell ⟨d, 8, none⟩ (.pointer (some ⟨ta, 0, none⟩)) = w3 at *
    go_cut [] (fun wz => Lw w wz d x (part five 32 fixL) ∧ DB wz d r p g (some ⟨ta, 0, none⟩) e c m rdy o ∧ Tb wz (x :: D) ta fixL)
    case first =>
      go_wp2_with (fail)
      go_loopg [41] 32 (fun g' s41 wx => ∃ i : Nat, i + g' = 32 ∧ s41 = .int .i64 i ∧ Lw w wx d x (part five i fixL) ∧ DB wx d r p g (some ⟨ta, 0, none⟩) e c m rdy o ∧ Tb wx (x :: D) ta fixL)
      case atStart => exact ⟨0, by omega, rfl, HL3.out, HD3.out, HTA.out⟩
      case round =>
        obtain ⟨i, hig, rfl, hL, hB⟩ := hrel
        have HB := Lib.hid hB
        have HLq := Lib.hid hL
        cases gk with
        | zero =>
          obtain rfl : i = 32 := by omega
          go_wp2_with (fail)
          go_meet
          exact ⟨HLq.out, HB.out⟩
        | succ g' =>
          have hk : (i : Int) < 32 := by omega
          have hk288 : (i : Int) < 288 := by omega
          obtain ⟨y, hy⟩ := part_get (F := five) (R := fixL) (i := i) (by rw [show five.length = 288 by decide +kernel]; omega) (by rw [show fixL.length = 288 by decide +kernel]; omega)
          have hcy := hL.c hy
          have hf := hL.fz
          have hl := hL.lt
          have HV := Lib.hid (part_set (F := five) (R := fixL) (i := i) (v := 5) (by unfold five; rw [List.getElem?_replicate, if_pos (by omega)]) (by rw [show fixL.length = 288 by decide +kernel]; omega))
          clear hL hB hy
          go_wp2_with (fail)
          go_roundg g'
          case measure => omega
          case rel => exact ⟨i + 1, by omega, by go_num, by rw [← HV.out]; exact HLq.out.set i 5, HKX.out _ _ _ HB.out⟩
    case rest =>
      obtain ⟨hL, hB, hTb⟩ := hcut
      have hF : (part five 32 fixL).take 32 = fixD := by decide +kernel
      have HN2 := Lib.hid (c_new1 (some ⟨x, 0, none⟩) 32 288 fixD wc (by decide +kernel) (by omega) (Tab.fixD.le) (by rw [← hF, show ints ((part five 32 fixL).take 32) = (ints (part five 32 fixL)).take 32 by simp [ints, List.map_take]]; exact hL.row.take 32))
      have HBc := Lib.hid hB
      have HTc := Lib.hid hTb
      have HKc := Lib.hid hL.kp
      have HSD := Lib.hid (show ∀ k ∈ D, k < wc.heap.size from fun k hk => Nat.lt_of_lt_of_le (HDD.out k hk) hL.kp.size)
      have hcd := hB.lt
      clear hL hB hTb hF
      go_wp2_with (first
        | (go_at_call 69; go_must (refine HN2.out.mono ?_); rintro en w5 ⟨pt, er, rfl, hyes, hno, hk5⟩; have HY5 := Lib.hid (hyes newOk_fixD); have HK5 := Lib.hid hk5; clear hyes hno hk5; have HD5 := Lib.hid (HBc.out.kept HK5.out (by simp)); have g9 := HD5.out.a (i := 9) rfl; have gf := HD5.out.fz; have gl := HD5.out.lt))
      refine bodyPost_end (results_none rfl _ _ _) rfl ?_
      obtain ⟨rfl, tb, rfl, hTB⟩ := HY5.out
      have hk6 : Kp [d] w5 (w5.setCell ⟨d, 9, none⟩ (.pointer (some ⟨tb, 0, none⟩))) := kp_set (by simp) _ _
      exact ⟨rfl, ta, tb, HD5.out.setE _, ((HTc.out.kept (HK5.out.mono (T := [d]) (by simp)) (fun k hk => .inl (by simp at hk; rw [hk]; exact List.mem_cons_of_mem _ HDM.out))).kept hk6 (fun k hk => .inl (by simp at hk; rw [hk]; exact List.mem_cons_of_mem _ HDM.out))).sub (fun k hk => List.mem_cons_of_mem _ hk), (hTB D (fun k hk => HSD.out k hk)).kept hk6 (fun k hk => .inl (by simp at hk; rw [hk]; exact HDM.out)), (HKc.out.trans (HK5.out.mono (by simp))).trans hk6⟩
set_option maxHeartbeats 8000000 in
set_option maxRecDepth 100000 in
theorem c_head {w : World} {d r p q g : Nat} {m : M} {out : List Int} {bs : List Bool} (h : Inf w d r p q g m out bs false 0) (h0 : m.why = 0) (hph : m.ph = .head) (hl : bs.length < 64) :
    Calls Tryd.prog 37 #[.pointer (some ⟨d, 0, none⟩)] w (StepPost w d r p q g m out bs) := by
  obtain ⟨l, e, c, hd, hT⟩ := h.db
  obtain ⟨b0, hr, hb⟩ := h.rd
  obtain rfl := hb h0
  have hne := h.ne
  simp only [List.nodup_cons, List.mem_cons, List.not_mem_nil, or_false, not_or] at hne
  have hdr : d ∉ [r] := by simp; exact hne.1.1
  have hrd : r ∉ [d] := by simp; exact fun h => hne.1.1 h.symm
  have c0 := hd.a (i := 0) rfl
  have hlt := hd.lt
  have H := Lib.hid h
  have HD := Lib.hid hd
  have HT := Lib.hid hT
  by_cases hle : 3 ≤ b0.length
  · have CT := Lib.hid (take_yes hr hl (by omega) hle)
    have hv := num_take_lt b0 (n := 3)
    obtain ⟨v, hv'⟩ : ∃ v, num (b0.take 3) = v := ⟨_, rfl⟩
    rw [hv'] at CT hv
    have HS := Lib.hid (show step m out b0 = some (headM m v ((b0.length - 3) % 8)) by unfold step; rw [hph]; dsimp only; rw [if_pos hle, hv'])
    obtain ⟨A, hA⟩ : ∃ A, v % 2 = A := ⟨_, rfl⟩
    obtain ⟨B, hB⟩ : ∃ B, v / 2 = B := ⟨_, rfl⟩
    have e1 : bits .and .u32 (v : Int) 1 = (A : Int) := by rw [← hA]; exact u32_low (k := 1) (M := 1) rfl (by omega) (by omega)
    have e2 : (v : Int) / 2 = (B : Int) := by omega
    have hAB : A < 2 ∧ B < 4 := by omega
    have HA := Lib.hid hA
    have HB := Lib.hid hB
    have HSZ := Lib.hid h.lts
    have HLEN := Lib.hid (show (b0.drop 3).length = b0.length - 3 from by rw [List.length_drop])
    obtain ⟨lst, hlst⟩ : ∃ lst, decide (v % 2 = 1) = lst := ⟨_, rfl⟩
    have e3 : ((A : Int) == 1) = lst := by
      rw [← hlst, hA]
      by_cases h1 : A = 1
      · rw [W.decT h1, W.eqT (by omega)]
      · rw [W.decF h1, W.eqF (by omega)]
    have HLST := Lib.hid hlst
    clear hv' hA hB h hd hT hr hlst
    obtain rfl | rfl | rfl | rfl : B = 0 ∨ B = 1 ∨ B = 2 ∨ B = 3 := by omega
    · go_enter Tryd.func37, Tryd.ntmps37
      go_wp2_with (first
        | (go_at_call 49; go_must (refine CT.out.mono ?_); rintro en w2 ⟨rfl, hr2, hk2⟩; have HR2 := Lib.hid hr2; have HK2 := Lib.hid hk2; have HD2 := Lib.hid (HD.out.kept hk2 hdr); have g3 := HD2.out.a (i := 3) rfl; have g0 := HD2.out.a (i := 0) rfl; have gf := HD2.out.fz; have gl := HD2.out.lt; clear hr2 hk2)
        | (go_at_call 50; go_must (refine (c_align r (b0.drop 3) _ (HR2.out.kept (kp_set (S := [d]) (by simp) 3 (.bool lst)) hrd) (by rw [HLEN.out]; omega)).mono ?_); rintro en w3 ⟨⟨z, rfl⟩, hr3, hk3⟩; have HR3 := Lib.hid hr3; have HK3 := Lib.hid hk3; clear hr3 hk3; have HD3 := Lib.hid ((HD2.out.last lst).kept HK3.out hdr))
        | (go_at_call 51; go_must (refine (c_then .sth HD3.out).mono ?_); rintro en w4 ⟨rfl, hd4, hk4⟩))
      go_ret
      have hks : Kp [d] w2 (w2.setCell ⟨d, 3, none⟩ (.bool lst)) := kp_set (by simp) _ _
      have hk5 : Kp [d, r] w2 w4 := ((hks.mono (by simp)).trans (HK3.out.mono (by simp))).trans (hk4.mono (by simp))
      have h9 : (b0.drop 3).drop ((b0.drop 3).length % 8) = b0.drop (3 + (b0.length - 3) % 8) := by rw [List.drop_drop, HLEN.out]
      exact H.out.done HS.out (by unfold headM; rw [HB.out, HLST.out]; rfl) ((HK2.out.mono (by simp)).trans hk5) hd4 (Tbs.none rfl rfl) (HR3.out.kept hk4 hrd) (fun _ => h9) rfl
    · go_enter Tryd.func37, Tryd.ntmps37
      go_wp2_with (first
        | (go_at_call 49; go_must (refine CT.out.mono ?_); rintro en w2 ⟨rfl, hr2, hk2⟩; have HR2 := Lib.hid hr2; have HK2 := Lib.hid hk2; have HD2 := Lib.hid (HD.out.kept hk2 hdr); have g3 := HD2.out.a (i := 3) rfl; have g0 := HD2.out.a (i := 0) rfl; have gf := HD2.out.fz; have gl := HD2.out.lt; clear hr2 hk2)
        | (go_at_call 53; go_must (refine (c_fixed [d, r, p, q, g] (fun k hk => Nat.lt_of_lt_of_le (Nat.lt_of_lt_of_le (HSZ.out k hk) HK2.out.size) (kp_set (S := [d]) (by simp) 3 (.bool lst)).size) (by simp) (HD2.out.last lst)).mono ?_); rintro en w3 ⟨rfl, ta, tb, hd3, hta, htb, hk3⟩; have HD3 := Lib.hid hd3; have HTA := Lib.hid hta; have HTB := Lib.hid htb; have HK3 := Lib.hid hk3; clear hd3 hta htb hk3)
        | (go_at_call 51; go_must (refine (c_then .lit HD3.out).mono ?_); rintro en w4 ⟨rfl, hd4, hk4⟩))
      go_ret
      have hks : Kp [d] w2 (w2.setCell ⟨d, 3, none⟩ (.bool lst)) := kp_set (by simp) _ _
      have hk5 : Kp [d] w2 w4 := (hks.trans HK3.out).trans hk4
      exact H.out.done (m' := { m with last := lst, lt := fixL, ds := fixD, ph := .lit }) HS.out (by unfold headM; rw [HB.out, HLST.out]; rfl) ((HK2.out.mono (by simp)).trans (hk5.mono (by simp))) ⟨hd4.cells, hd4.fl⟩ ⟨fun _ => ⟨ta, rfl, HTA.out.kept hk4 (fun k hk => .inl (by simp at hk; simp [hk]))⟩, fun _ => ⟨tb, rfl, HTB.out.kept hk4 (fun k hk => .inl (by simp at hk; simp [hk]))⟩, fun h => (by cases h)⟩ (HR2.out.kept hk5 hrd) (fun _ => rfl) rfl
    · go_enter Tryd.func37, Tryd.ntmps37
      go_wp2_with (first
        | (go_at_call 49; go_must (refine CT.out.mono ?_); rintro en w2 ⟨rfl, hr2, hk2⟩; have HR2 := Lib.hid hr2; have HK2 := Lib.hid hk2; have HD2 := Lib.hid (HD.out.kept hk2 hdr); have g3 := HD2.out.a (i := 3) rfl; have g0 := HD2.out.a (i := 0) rfl; have gf := HD2.out.fz; have gl := HD2.out.lt; clear hr2 hk2)
        | (go_at_call 51; go_must (refine (c_then .cts (HD2.out.last lst)).mono ?_); rintro en w4 ⟨rfl, hd4, hk4⟩))
      go_ret
      have hks : Kp [d] w2 (w2.setCell ⟨d, 3, none⟩ (.bool lst)) := kp_set (by simp) _ _
      have hk5 : Kp [d] w2 w4 := hks.trans hk4
      exact H.out.done HS.out (by unfold headM; rw [HB.out, HLST.out]; rfl) ((HK2.out.mono (by simp)).trans (hk5.mono (by simp))) hd4 (Tbs.none rfl rfl) (HR2.out.kept hk5 hrd) (fun _ => rfl) rfl
    · go_enter Tryd.func37, Tryd.ntmps37
      go_wp2_with (first
        | (go_at_call 49; go_must (refine CT.out.mono ?_); rintro en w2 ⟨rfl, hr2, hk2⟩; have HR2 := Lib.hid hr2; have HK2 := Lib.hid hk2; have HD2 := Lib.hid (HD.out.kept hk2 hdr); have g3 := HD2.out.a (i := 3) rfl; have g0 := HD2.out.a (i := 0) rfl; have gf := HD2.out.fz; have gl := HD2.out.lt; clear hr2 hk2)
        | (go_at_call 56; go_must (refine (c_stop 10 (HD2.out.last lst)).mono ?_); rintro en w4 ⟨rfl, hd4, hk4⟩))
      go_ret
      have hks : Kp [d] w2 (w2.setCell ⟨d, 3, none⟩ (.bool lst)) := kp_set (by simp) _ _
      have hk5 : Kp [d] w2 w4 := hks.trans hk4
      exact H.out.done HS.out (by unfold headM; rw [HB.out, HLST.out]; rfl) ((HK2.out.mono (by simp)).trans (hk5.mono (by simp))) hd4 (Tbs.none (by show usesT m.ph = false; rw [hph]; rfl) (by show usesC m.ph = false; rw [hph]; rfl)) (HR2.out.kept hk5 hrd) (fun _ => rfl) rfl
  · have CT := Lib.hid (take_no hr hl (by omega) hle)
    have HS := Lib.hid (show step m out b0 = none by unfold step; rw [hph]; dsimp only; rw [if_neg hle])
    clear h hd hT hr
    go_enter Tryd.func37, Tryd.ntmps37
    go_wp2_with (first
      | (go_at_call 49; go_must (refine CT.out.mono ?_); rintro en w2 ⟨rfl, hr2, hk2⟩))
    go_ret
    exact H.out.wait hk2 hr2 HS.out
end Go.Proofs.YtdpnlmofkkdioaaDoor.Hf
