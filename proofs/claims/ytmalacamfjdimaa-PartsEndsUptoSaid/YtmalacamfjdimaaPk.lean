/- The splitter's methods delimits and End. -/
import Derived.Test.YtmalacamfjdimaaPl
namespace Go.Proofs.Ytmalacamfjdimaa.Pt
open Go.RowKit Go.Proofs.Ytmalacamfjdimaa.W

theorem fn_nil_eq (w : World) : (binOp .eql 58 .nilFunc .nilFunc).run Try.prog w = .ok (.bool true) w := by kernel_rfl
theorem fn_some_eq (f : Nat) (w : World) : (binOp .eql 58 (.func (.func f) #[] #[]) .nilFunc).run Try.prog w = .ok (.bool false) w := by kernel_rfl
theorem stepV_some {s : Stp} (h : s ≠ .none) : ∃ f, stepV s = .func (.func f) #[] #[] := by
  cases s
  · exact absurd rfl h
  all_goals exact ⟨_, rfl⟩

def rest8 (s : St) : List UInt8 := Lib.trimPrefix (strOfNums (trim1 (trim1 s.hold 13) 10)).data.toList s.want.data.toList
def has8 (s : St) : Bool := Lib.hasPrefix (strOfNums (trim1 (trim1 s.hold 13) 10)).data.toList s.want.data.toList
def St.delims8 (s : St) : Bool :=
  has8 s && (match s.step with | .none => false | _ => true) && blk8 (if s.last then Lib.trimPrefix (rest8 s) [45, 45] else rest8 s)

theorem trim1_len (l : List Int) (v : Int) : (trim1 l v).length ≤ l.length := by
  unfold trim1
  split
  · simp
  · exact Nat.le_refl _
theorem trim1_bytes {l : List Int} (v : Int) (h : Bytes l) : Bytes (trim1 l v) := by
  unfold trim1
  split
  · exact fun x hx => h x (List.mem_of_mem_tail hx)
  · exact h
theorem trimPrefix_len (a b : List UInt8) : (Lib.trimPrefix a b).length ≤ a.length := by
  unfold Lib.trimPrefix
  split
  · simp
  · exact Nat.le_refl _

set_option maxHeartbeats 2000000 in
set_option maxRecDepth 100000 in
theorem c_delimits (p hb ob : Nat) (s : St) (w : World) (h : Spl w p hb ob s) (hby : Bytes s.hold) :
    Calls Try.prog 34 #[.pointer (some ⟨p, 0, none⟩)] w fun e w' => e = .returned (.bool s.delims8) ∧ Kp [] w w' := by
  have c0 := h.cell 0
  have c1 := h.cell 1
  have c3 := h.cell 3
  have c4 := h.cell 4
  simp only [St.cells, List.getElem?_toArray, List.getElem?_cons_succ, List.getElem?_cons_zero] at c0 c1 c3 c4
  have hlt := h.lt
  have hcap := (own_cap h.hold).1
  have nn := fn_nil_eq
  have ns := fn_some_eq
  -- the line
  obtain ⟨o1, hO1⟩ : ∃ o : Obj, o = .cells #[.int .u8 13] 5 := ⟨_, rfl⟩
  have hblk : ∀ (wx : World) (v : Int), RV (wx.alloc (.cells #[.int .u8 v] 5)) (some ⟨wx.heap.size, 0, none⟩) (u8s [v]) := fun wx v => RV.new _ _
  have hhold : RV w (some ⟨hb, 0, none⟩) (u8s s.hold) := RV.own h.hold
  obtain ⟨l1, hl1⟩ : ∃ l, trim1 s.hold 13 = l := ⟨_, rfl⟩
  obtain ⟨l2, hl2⟩ : ∃ l, trim1 l1 10 = l := ⟨_, rfl⟩
  have k1 : l1.length ≤ 94 := by rw [← hl1]; exact Nat.le_trans (trim1_len _ _) hcap
  have k2 : l2.length ≤ 94 := by rw [← hl2]; exact Nat.le_trans (trim1_len _ _) k1
  have b1 : Bytes l1 := by rw [← hl1]; exact trim1_bytes _ hby
  have b2 : Bytes l2 := by rw [← hl2]; exact trim1_bytes _ b1
  have cT1 := c_trim hb 0 94 w.heap.size s.hold 13 (w.alloc (.cells #[.int .u8 13] 5)) hcap hby (by omega) (hhold.alloc _) (hblk _ _)
  rw [hl1] at cT1
  obtain ⟨M, hM⟩ : ∃ M, strOfNums l2 = M := ⟨_, rfl⟩
  have hMs : M.size ≤ 94 := by rw [← hM, strOfNums_size]; exact k2
  have hr8 : rest8 s = Lib.trimPrefix M.data.toList s.want.data.toList := by unfold rest8; rw [hl1, hl2, hM]
  have hh8 : has8 s = Lib.hasPrefix M.data.toList s.want.data.toList := by unfold has8; rw [hl1, hl2, hM]
  obtain ⟨R, hR⟩ : ∃ R : ByteArray, (⟨(Lib.trimPrefix M.data.toList s.want.data.toList).toArray⟩ : ByteArray) = R := ⟨_, rfl⟩
  have hRd : R.data.toList = Lib.trimPrefix M.data.toList s.want.data.toList := by rw [← hR]
  have hMl : M.data.toList.length = M.size := by rw [Array.length_toList]; rfl
  have hRs : R.size ≤ 94 := by
    have : R.data.toList.length = R.size := by rw [Array.length_toList]; rfl
    rw [← this, hRd]
    exact Nat.le_trans (trimPrefix_len _ _) (by omega)
  have cC := Try.strings_CutPrefix M s.want
  rw [hR, ← hh8] at cC
  have CC := Lib.hid cC
  have CT1 := Lib.hid cT1
  have HL2 := Lib.hid hl2
  have HM := Lib.hid hM
  have HR8 := Lib.hid hr8
  have HRD := Lib.hid hRd
  have H := Lib.hid h
  clear cC cT1 hl1 hl2 hM hr8 hh8 hR hRd hMl hhold hby hO1
  have hstep : s.step = .none ∨ s.step ≠ .none := Classical.em _
  have cases3 : ∃ (hs : Bool) (st : Bool), has8 s = hs ∧ (match s.step with | .none => false | _ => true) = st ∧ (st = false → s.step = .none) ∧ (st = true → ∃ f, stepV s.step = .func (.func f) #[] #[]) := by
    refine ⟨_, _, rfl, rfl, ?_, ?_⟩
    · cases s.step <;> simp
    · intro hst
      apply stepV_some
      intro hn
      rw [hn] at hst
      cases hst
  obtain ⟨hs, st, e1, e2, e3, e4⟩ := cases3
  have hd : s.delims8 = (hs && st && blk8 (if s.last then Lib.trimPrefix R.data.toList [45, 45] else R.data.toList)) := by
    unfold St.delims8
    rw [e1, e2, HR8.out, HRD.out]
  have HD := Lib.hid hd
  have HE2 := Lib.hid e2
  clear hd e2 hstep
  rw [e1] at CC
  have tk1 : True := trivial
  go_enter Try.func34, Try.ntmps34
  go_upto_region 2 with (first
    | (go_at_call 43; have _t := tk1; go_must (refine CT1.out.mono ?_); rintro e w1 ⟨rfl, o1, q1, rfl, hrv1, hlc1⟩; clear tk1 _t)
    | (go_at_call 43; go_must (refine (c_trim hb o1 q1 (w.heap.size + 1) l1 10 _ hlc1 b1 (by omega) (hrv1.alloc _) (by have := hblk (w.alloc (.cells #[.int .u8 13] 5)) 10; simpa using this)).mono ?_); rintro e w2 ⟨rfl, o2, q2, rfl, hrv2, hlc2⟩))
  have hcv : ∀ n, (convert 22 9 (.slice (some ⟨hb, o2, none⟩) (trim1 l1 10).length q2)).run Try.prog (((w.alloc (.cells #[.int .u8 13] 5)).alloc (.cells #[.int .u8 10] 5)).drewN n) = .ok (.string M) (((w.alloc (.cells #[.int .u8 13] 5)).alloc (.cells #[.int .u8 10] 5)).drewN n) := fun n => by
    rw [run_string (P := Try.prog) _ _ _ Try.underlying22 Try.underlying5 Try.underlying9 (RV.drewN hrv2 n) rfl, HL2.out, HM.out]
  have hk : Kp [] w ((w.alloc (.cells #[.int .u8 13] 5)).alloc (.cells #[.int .u8 10] 5)) := ((Kp.refl _ _).alloc _).alloc _
  obtain ⟨W, hW⟩ : ∃ W, ((w.alloc (.cells #[.int .u8 13] 5)).alloc (.cells #[.int .u8 10] 5)) = W := ⟨_, rfl⟩
  rw [hW] at hcv hk ⊢
  have hW2 := hk
  clear hrv1 hrv2 CT1 hblk hW
  have H2 := H.out.kept hk (by simp) (by simp) (by simp)
  have d0 := H2.cell 0
  have d1 := H2.cell 1
  have d3 := H2.cell 3
  simp only [St.cells, List.getElem?_toArray, List.getElem?_cons_succ, List.getElem?_cons_zero] at d0 d1 d3
  have hlt2 := H2.lt
  clear c0 c1 c3 c4 h hlt
  go_cut [4, 5] (fun v4 v5 wc => v4 = .string R ∧ v5 = .bool hs ∧ ∃ n, wc = W.drewN n)
  case first =>
    go_quiet ((go_at_call 44; exact Calls.quiet_of_same (CC.out _)))
    go_wp2
    go_meet
    case rel => exact ⟨rfl, rfl, _, rfl⟩
  case rest =>
    obtain ⟨rfl, rfl, n, rfl⟩ := hcut
    have hkn : Kp [] w (W.drewN n) := hk.drewN n
    cases hs with
    | false =>
      go_wp2
      go_ret
      rw [HD.out]
      exact ⟨rfl, hkn⟩
    | true =>
      cases st with
      | false =>
        rw [e3 rfl] at d1
        simp only [stepV] at d1
        go_wp2
        go_ret
        rw [HD.out]
        exact ⟨rfl, hkn⟩
      | true =>
        obtain ⟨f, hf⟩ := e4 rfl
        rw [hf] at d1
        clear hf e3 e4
        cases hla : s.last with
        | false =>
          rw [hla] at d3
          have hd2 : s.delims8 = blk8 R.data.toList := by rw [HD.out, hla]; rfl
          have HD2 := Lib.hid hd2
          clear hd2 hla HD
          go_wp2_with (go_at_call 46; go_must (refine (c_blk R _ (by omega)).mono ?_); rintro e w3 ⟨rfl, rfl⟩)
          go_ret
          rw [HD2.out]
          exact ⟨rfl, hkn⟩
        | true =>
          rw [hla] at d3
          have hd2 : s.delims8 = blk8 (Lib.trimPrefix R.data.toList [45, 45]) := by rw [HD.out, hla]; rfl
          have HD2 := Lib.hid hd2
          obtain ⟨R2, hR2⟩ : ∃ R2 : ByteArray, (⟨(Lib.trimPrefix R.data.toList [45, 45]).toArray⟩ : ByteArray) = R2 := ⟨_, rfl⟩
          have hR2d : R2.data.toList = Lib.trimPrefix R.data.toList [45, 45] := by rw [← hR2]
          have cP := Try.strings_TrimPrefix R ⟨#[45, 45]⟩
          rw [show (⟨#[45, 45]⟩ : ByteArray).data.toList = [45, 45] from rfl, hR2] at cP
          have hR2s : R2.size ≤ 94 := by
            have e1 : R2.data.toList.length = R2.size := by rw [Array.length_toList]; rfl
            have e2 : R.data.toList.length = R.size := by rw [Array.length_toList]; rfl
            rw [← e1, hR2d]
            exact Nat.le_trans (trimPrefix_len _ _) (by omega)
          have CP := Lib.hid cP
          have HR2 := Lib.hid hR2d
          clear hd2 hla HD hR2 cP hR2d
          go_wp2_with (first
            | (go_at_call 45; go_must (refine (CP.out _).mono ?_); rintro e w3 ⟨rfl, rfl⟩)
            | (go_at_call 46; go_must (refine (c_blk R2 _ (by omega)).mono ?_); rintro e w3 ⟨rfl, rfl⟩))
          go_ret
          rw [HD2.out, ← HR2.out]
          exact ⟨rfl, hkn⟩
end Go.Proofs.Ytmalacamfjdimaa.Pt
