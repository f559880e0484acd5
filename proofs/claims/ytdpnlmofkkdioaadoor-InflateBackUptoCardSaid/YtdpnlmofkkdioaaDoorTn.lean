/- The reference's run: Fixed. -/
import Derived.Test.YtdpnlmofkkdioaaDoorTj
namespace Go.Proofs.YtdpnlmofkkdioaaDoor.Hf
set_option linter.unusedVariables false
set_option linter.unusedSimpArgs false
open Go.RowKit Go.Proofs.YtdpnlmofkkdioaaDoor.W

theorem fixL_at : ∀ i : _root_.Fin 288, fixL[i.val]? = some (if 144 ≤ i.val ∧ i.val < 256 then 9 else if 256 ≤ i.val ∧ i.val < 280 then 7 else 8) := by decide +kernel
theorem fixD_at : ∀ i : _root_.Fin 32, fixD[i.val]? = some 5 := by decide +kernel
theorem ints_snoc {l : List Nat} {i x : Nat} (h : l[i]? = some x) : ints (l.take (i + 1)) = ints (l.take i) ++ [Value.int .i64 (x : Nat)] := by
  obtain ⟨h1, h2⟩ := List.getElem?_eq_some_iff.1 h
  rw [List.take_succ_eq_append_getElem h1, h2]
  simp [ints]
def FixIs (w : World) (e : Ending) (w' : World) : Prop := ∃ A c A2 c2, e = .returned (.tuple #[.slice A 288 c, .slice A2 32 c2]) ∧ RV w' A (ints fixL) ∧ RV w' A2 (ints fixD) ∧ Kp [] w w'
set_option maxHeartbeats 4000000 in
set_option maxRecDepth 100000 in
theorem r_fixed (w : World) : Calls Tryd.prog 26 #[] w (FixIs w) := by
  have HLL := Lib.hid (show fixL.take 288 = fixL by decide +kernel)
  have HDD := Lib.hid (show fixD.take 32 = fixD by decide +kernel)
  go_enter Tryd.func26, Tryd.ntmps26
  go_upto_block 0 with (fail)
  have H0 := Lib.hid (World.ownsRow_nil w w.heap.size 3 1)
  go_wp2_with (fail)
  go_loopg [2, 4] 288 (fun g s2 s4 wx => ∃ (i : Nat) (A : Option Addr) (c : Nat), i + g = 288 ∧ s4 = .int .i64 (i : Nat) ∧ s2 = .slice A i c ∧ wx.ownsRow w.heap.size 3 1 (.slice A i c) i (ints (fixL.take i)) ∧ Kp [] w wx)
  case atStart => exact ⟨0, none, 0, by omega, rfl, rfl, H0.out, Kp.refl _ _⟩
  case round =>
    obtain ⟨i, A, c, hig, rfl, rfl, ho, hk⟩ := hrel
    have HO := Lib.hid ho
    have HK := Lib.hid hk
    clear ho hk
    cases gk with
    | zero =>
      obtain rfl : i = 288 := by omega
      have hk : ¬ ((288 : Nat) : Int) < 288 := by omega
      go_upto_block 2 with (fail)
      have HK2 := Lib.hid (Kp.refl [] wr)
      have HO2 := Lib.hid (World.ownsRow_nil wr wr.heap.size 3 1)
      obtain ⟨w1, rfl⟩ : ∃ w1 : World, w1 = wr := ⟨_, rfl⟩
      go_wp2_with (fail)
      go_loopg [3, 6] 32 (fun g s3 s6 wx => ∃ (j : Nat) (A2 : Option Addr) (c2 : Nat), j + g = 32 ∧ s6 = .int .i64 (j : Nat) ∧ s3 = .slice A2 j c2 ∧ wx.ownsRow w1.heap.size 3 1 (.slice A2 j c2) j (ints (fixD.take j)) ∧ Kp [] w1 wx)
      case atStart => exact ⟨0, none, 0, by omega, rfl, rfl, HO2.out, Kp.refl _ _⟩
      case round =>
        obtain ⟨j, A2, c2, hjg, rfl, rfl, ho, hk⟩ := hrel
        have HO2 := Lib.hid ho
        have HK2 := Lib.hid hk
        clear ho hk
        cases gk with
        | zero =>
          obtain rfl : j = 32 := by omega
          have hk : ¬ ((32 : Nat) : Int) < 32 := by omega
          go_wp2_with (fail)
          go_ret2
          have h1 := RV.own HO.out
          have h2 := RV.own HO2.out
          rw [HLL.out] at h1
          rw [HDD.out] at h2
          exact ⟨_, _, _, _, rfl, h1.below (HK2.out.below (Nat.le_refl _) (by simp)), h2, HK.out.trans HK2.out⟩
        | succ g =>
          have hk : (j : Int) < 32 := by omega
          have HS := Lib.hid (ints_snoc (fixD_at ⟨j, by omega⟩))
          have HOA := Lib.hid (HO2.out.alloc (.cells #[.int .i64 5] 3))
          have HNW := Lib.hid (RV.new (w := wr) #[Value.int .i64 5] 3)
          have hsz := HK2.out.size
          go_wp2_with (first
            | (at_builtin; go_must (refine wpList_ap int8 rfl _ _ rfl rfl HOA.out rfl (m := 1) (news := [Value.int .i64 5]) rfl HNW.out (by intro u hu; rw [List.mem_singleton.1 hu]; rfl) (by unfold maxLen; omega) (by omega) (by simp; omega) ?_); intro A3 c3' w3 hown hgrow hob hcap; have HOW := Lib.hid hown; have HGR := Lib.hid hgrow; clear hown hgrow hob))
          go_roundg g
          case measure => omega
          case rel =>
            refine ⟨j + 1, A3, c3', by omega, by go_num, rfl, by rw [HS.out]; exact HOW.out, (HK2.out.alloc _).grown HGR.out (fun k hk => .inr ?_)⟩
            exact (HOA.out.lt k hk).1
    | succ g =>
      have hk : (i : Int) < 288 := by omega
      obtain ⟨x, hx⟩ : ∃ x, (if 144 ≤ i ∧ i < 256 then 9 else if 256 ≤ i ∧ i < 280 then 7 else 8) = x := ⟨_, rfl⟩
      have hs := ints_snoc (fixL_at ⟨i, by omega⟩)
      dsimp only at hs
      rw [hx] at hs
      have HS := Lib.hid hs
      have HOA := Lib.hid (HO.out.alloc (.cells #[.int .i64 (x : Nat)] 3))
      have HNW := Lib.hid (RV.new (w := wr) #[Value.int .i64 (x : Nat)] 3)
      have hsz := HK.out.size
      have hcase : (i < 144 ∧ x = 8) ∨ (144 ≤ i ∧ i < 256 ∧ x = 9) ∨ (256 ≤ i ∧ i < 280 ∧ x = 7) ∨ (280 ≤ i ∧ x = 8) := by
        rw [← hx]
        by_cases h1 : i < 144
        · exact .inl ⟨h1, by rw [if_neg (by omega), if_neg (by omega)]⟩
        · by_cases h2 : i < 256
          · exact .inr (.inl ⟨by omega, h2, by rw [if_pos (by omega)]⟩)
          · by_cases h3 : i < 280
            · exact .inr (.inr (.inl ⟨by omega, h3, by rw [if_neg (by omega), if_pos (by omega)]⟩))
            · exact .inr (.inr (.inr ⟨by omega, by rw [if_neg (by omega), if_neg (by omega)]⟩))
      clear hx hs
      rcases hcase with ⟨h1, rfl⟩ | ⟨h1, h2, rfl⟩ | ⟨h1, h2, rfl⟩ | ⟨h1, rfl⟩
      all_goals
        go_wp2_with (first
          | (at_builtin; go_must (refine wpList_ap int8 rfl _ _ rfl rfl HOA.out rfl (m := 1) rfl HNW.out (by intro u hu; rw [List.mem_singleton.1 hu]; rfl) (by unfold maxLen; omega) (by omega) (by simp; omega) ?_); intro A3 c3' w3 hown hgrow hob hcap; have HOW := Lib.hid hown; have HGR := Lib.hid hgrow; clear hown hgrow hob))
        go_roundg g
        case measure => omega
        case rel =>
          refine ⟨i + 1, A3, c3', by omega, by go_num, rfl, by rw [HS.out]; exact HOW.out, (HK.out.alloc _).grown HGR.out (fun k hk => .inr ?_)⟩
          exact (HOA.out.lt k hk).1
end Go.Proofs.YtdpnlmofkkdioaaDoor.Hf
/- The reference: Of, Used. -/
namespace Go.Proofs.YtdpnlmofkkdioaaDoor.Hf
set_option linter.unusedVariables false
set_option linter.unusedSimpArgs false
open Go.RowKit Go.Proofs.YtdpnlmofkkdioaaDoor.W

theorem step_head {m : M} {out : List Int} {bs : List Bool} (hph : m.ph = .head) : step m out bs = if 3 ≤ bs.length then some (headM m (Hf.num (bs.take 3)) ((bs.length - 3) % 8)) else none := by unfold step; rw [hph]
def OfP (w : World) (S : Sr) (e : Ending) (w' : World) : Prop :=
  ∃ rb s, e = .returned (.pointer (some ⟨rb, 0, none⟩)) ∧ Rn w' w.heap.size rb S s ∧ Below w.heap.size w w' ∧ Res st0 (bits8 S.l) S.most s.out s.ts s.at_ s.why s.en
theorem fixL_ok : newOk fixL = true := by decide +kernel
theorem fixD_ok : newOk fixD = true := by decide +kernel
theorem fixL_15 : ∀ n ∈ fixL, n ≤ 15 := by decide +kernel
theorem fixD_15 : ∀ n ∈ fixD, n ≤ 15 := by decide +kernel
def rs0 : RS := ⟨[], [], 0, 0, false, 0, false⟩
theorem Mc.zero (S : Sr) : Mc S rs0 m0 := ⟨.refl _, Ok.m0, rfl, rfl, rfl, Nat.zero_le _, rfl⟩
/-- At a block's head. -/
def Hd (S : Sr) (last : Bool) (g : Nat) (s : RS) : Prop :=
  (∃ m, Mc S s m ∧ m.ph = .head ∧ m.fin = last ∧ (last = true → 0 < s.bit) ∧ g = 8 * S.l.length - s.bit + 1) ∨ (En S s ∧ g = 0)
theorem SyEnd.hd {S : Sr} {s s' : RS} {last : Bool} (h : SyEnd S s last s') (hb : 0 < s.bit) {g : Nat} (hg : 8 * S.l.length - s.bit + 1 ≤ g) : ∃ g', g' ≤ g ∧ Hd S last g' s' := by
  rcases h with ⟨m', h1, h2, h3, h4, h5⟩ | h
  · exact ⟨8 * S.l.length - s'.bit + 1, by omega, .inl ⟨m', h1, h2, h3, fun _ => by omega, rfl⟩⟩
  · exact ⟨0, Nat.zero_le _, .inr ⟨h, rfl⟩⟩
theorem RS.on_on (s : RS) (a b : Nat) : (s.on a).on b = s.on (a + b) := by show ({ s with bit := s.bit + a + b } : RS) = { s with bit := s.bit + (a + b) }; rw [Nat.add_assoc]
set_option maxHeartbeats 8000000 in
set_option maxRecDepth 100000 in
theorem r_of (w : World) (A : Option Addr) (L c : Nat) (l : List Int) (nn : Int) (hL : l.length = L) (hL2 : L ≤ 140737488355328) (hB : Bytes l) (hr : RB w A l) (hn : nn ≤ 1048576) (hn0 : -9223372036854775808 ≤ nn) :
    Calls Tryd.prog 11 #[.slice A L c, .int .i64 nn] w (OfP w ⟨A, c, l, nn.toNat⟩) := by
  have HL := Lib.hid hL
  have HB := Lib.hid hB
  have HR := Lib.hid hr
  clear hL hB hr
  obtain ⟨M, hM⟩ : ∃ M, nn.toNat = M := ⟨_, rfl⟩
  have eM : (if nn < 0 then 0 else nn) = (M : Int) := by split <;> omega
  have EM := Lib.hid eM
  have hM2 : M ≤ 1048576 := by omega
  rw [hM]
  clear eM hM
  obtain ⟨S, hS⟩ : ∃ S : Sr, S = ⟨A, c, l, M⟩ := ⟨_, rfl⟩
  rw [← hS]
  have HS := Lib.hid (show S.A = A ∧ S.c = c ∧ S.l = l ∧ S.most = M by rw [hS]; exact ⟨rfl, rfl, rfl, rfl⟩)
  have hSm : S.most ≤ 1048576 := by rw [HS.out.2.2.2]; exact hM2
  clear hS
  go_enter Tryd.func11, Tryd.ntmps11
  go_upto_block 0 with (fail)
  rw [EM.out]
  change Code.wp _ _ _ _ (w.alloc (.cells #[.slice A L c, .int .i64 (M : Nat), .slice none 0 0, .slice none 0 0, .int .i64 0, .int .i64 0, .bool false, .int .i64 0, .bool false] 31))
  have H0 := Lib.hid (show Rn (w.alloc (.cells #[.slice A L c, .int .i64 (M : Nat), .slice none 0 0, .slice none 0 0, .int .i64 0, .int .i64 0, .bool false, .int .i64 0, .bool false] 31)) w.heap.size w.heap.size S rs0 ∧ Fr w.heap.size w (w.alloc (.cells #[.slice A L c, .int .i64 (M : Nat), .slice none 0 0, .slice none 0 0, .int .i64 0, .int .i64 0, .bool false, .int .i64 0, .bool false] 31)) from by
    refine ⟨⟨⟨none, none, 0, 0, ?_, World.ownsRow_nil _ _ _ _, World.ownsRow_nil _ _ _ _⟩, Nat.le_refl _, by simp, ?_, ?_, ?_, ?_, Nat.zero_le _⟩, Fr.of_kp ((Kp.refl [] _).alloc _) (by simp)⟩
    · rw [heap_alloc_new w _]
      unfold rnC rs0
      rw [HS.out.1, HS.out.2.1, HS.out.2.2.1, HS.out.2.2.2, HL.out]
      rfl
    · rw [HS.out.1, HS.out.2.2.1]
      exact RV.alloc HR.out _
    · intro hne a ha
      rw [HS.out.2.2.1] at hne
      rw [HS.out.1] at ha
      obtain ⟨b, off, hA, hb⟩ := RV.addr HR.out (by rw [u8s_length]; exact List.length_pos_iff.2 hne)
      rw [hA] at ha
      injection ha with ha
      rw [← ha]
      exact hb
    · rw [HS.out.2.2.1, HL.out]; exact hL2
    · rw [HS.out.2.2.1]; exact HB.out)
  generalize w.alloc (.cells #[.slice A L c, .int .i64 (M : Nat), .slice none 0 0, .slice none 0 0, .int .i64 0, .int .i64 0, .bool false, .int .i64 0, .bool false] 31) = w1 at *
  go_wp2_with (fail)
  go_loopg [6] (8 * S.l.length + 1) (fun g s6 wx => ∃ (last : Bool) (s : RS), s6 = .bool last ∧ Rn wx w.heap.size w.heap.size S s ∧ Fr w.heap.size w wx ∧ Hid (Hd S last g s))
  case atStart => exact ⟨false, rs0, rfl, H0.out.1, H0.out.2, Lib.hid (.inl ⟨m0, Mc.zero S, rfl, rfl, fun h => (by cases h), rfl⟩)⟩
  case round =>
    obtain ⟨last, s, rfl, hR1, hF1, hHd⟩ := hrel
    have HR1 := Lib.hid hR1
    have HF1 := Lib.hid hF1
    have tk1 : True := trivial
    clear hR1 hF1 H0
    rcases hHd.out with ⟨m, hM, hph, hfin, hlb, hg⟩ | ⟨hE, hg⟩
    · have HO1 := Lib.hid (show s.why = 0 ∧ s.en = false from ⟨hM.why, hM.en⟩)
      have HM := Lib.hid hM
      cases last with
      | true =>
        have hb0 := hlb rfl
        have c7 := HR1.out.c7
        have c5 := HR1.out.c5
        have c6 := HR1.out.c6
        have fz := HR1.out.fz
        have lt := HR1.out.lt
        obtain ⟨b, hb'⟩ : ∃ b, s.bit = b + 1 := ⟨s.bit - 1, by omega⟩
        have hbl := HR1.out.bitl
        have hll := HR1.out.len
        rw [hb'] at c7 hbl
        have HBB := Lib.hid hb'
        have HFIN := Lib.hid hfin
        clear hM hph hfin hlb hg hb' hHd
        go_wp2_with (first
          | (go_at_call 23; have _t := tk1; go_must (refine (r_open wr w.heap.size w.heap.size S s HR1.out HO1.out.1 HO1.out.2).mono ?_); rintro e w5 ⟨rfl, rfl⟩; clear tk1 _t))
        go_ret
        have hk9 : Kp [w.heap.size] wr ((wr.setCell ⟨w.heap.size, 6, none⟩ (.bool true)).setCell ⟨w.heap.size, 5, none⟩ (.int .i64 ((b / 8 : Nat) : Int))) := ((Kp.refl _ _).setCell (.inl (by simp)) _).setCell (.inl (by simp)) _
        have hr9 := HR1.out.turn (s' := { s with en := true, at_ := b / 8 }) hk9 rfl rfl HR1.out.bitl fun Ao At co ct h3 => heap_set (heap_set h3 6 _) 5 _
        refine ⟨_, _, rfl, hr9, (HF1.out.trans (HR1.out.fr hk9)).below (Nat.le_refl _), ?_⟩
        have hd := Res.dead (n := S.most) HM.out.path (fun hl => by have h8 := hl.2; rw [HFIN.out] at h8; cases h8) HM.out.small
        rw [HFIN.out, HM.out.mw] at hd
        have hbb : (s.bit - 1) / 8 = b / 8 := by rw [HBB.out, Nat.add_sub_cancel]
        dsimp only at hd
        rw [hbb] at hd
        show Res st0 (bits8 S.l) S.most s.out s.ts (b / 8) s.why true
        rw [HO1.out.1]
        exact hd
      | false =>
        have hstep := step_head (out := s.out) (bs := (bits8 S.l).drop s.bit) hph
        rw [bs_len] at hstep
        have cN := r_number wr w.heap.size w.heap.size S s 3 HR1.out (by omega)
        have HFIN := Lib.hid hfin
        clear hM hph hfin hlb hHd
        by_cases hA : s.bit + 3 ≤ 8 * S.l.length
        · obtain ⟨e1, e2⟩ := num_on hA
          rw [e1, e2] at cN
          rw [if_pos (by omega)] at hstep
          obtain ⟨v, hv⟩ : ∃ v, Hf.num (((bits8 S.l).drop s.bit).take 3) = v := ⟨_, rfl⟩
          have hv8 := num_take_lt ((bits8 S.l).drop s.bit) (n := 3)
          have hp3 : (2 : Nat) ^ 3 = 8 := by decide
          rw [hv, hp3] at hv8
          rw [hv] at cN hstep
          have CN := Lib.hid cN
          obtain ⟨lb, hlb⟩ : ∃ lb, decide (v % 2 = 1) = lb := ⟨_, rfl⟩
          have i0 : ((v : Int) % 2 == 1) = lb := by
            rw [← hlb]
            by_cases h1 : v % 2 = 1
            · rw [decide_eq_true h1]; exact W.eqT (by omega)
            · rw [decide_eq_false h1]; exact W.eqF (by omega)
          unfold headM at hstep
          rw [hlb] at hstep
          have HB3 := Lib.hid (show 0 < (s.on 3).bit by show 0 < s.bit + 3; omega)
          obtain ⟨g, rfl⟩ : ∃ g, gk = g + 1 := ⟨gk - 1, by omega⟩
          have HG3 := Lib.hid (show 8 * S.l.length - (s.on 3).bit + 1 ≤ g by show 8 * S.l.length - (s.bit + 3) + 1 ≤ g; omega)
          have HV := Lib.hid hv8
          have HAA := Lib.hid hA
          clear cN e1 e2 hv hlb hg
          have hq : v / 2 = 0 ∨ v / 2 = 1 ∨ v / 2 = 2 ∨ v / 2 = 3 := by omega
          rcases hq with hq | hq | hq | hq
          · rw [hq] at hstep
            dsimp only at hstep
            have hM1 := HM.out.next HFIN.out hstep HM.out.mw
            rw [← RS.on_on, show (8 * S.l.length - s.bit - 3) % 8 = (8 * S.l.length - (s.on 3).bit) % 8 by show _ = (8 * S.l.length - (s.bit + 3)) % 8; omega] at hM1
            have CS := Lib.hid (fun (w6 : World) (h6 : Rn w6 w.heap.size w.heap.size S (s.on 3)) => r_stored w6 w.heap.size w.heap.size S (s.on 3) _ h6 hM1 rfl HFIN.out HB3.out hSm)
            have j0 : (v : Int) / 2 = 0 := by omega
            clear hstep hM1 hq hv8 hA
            go_wp2_with (first
              | (go_at_call 23; have _t := tk1; go_must (refine (r_open wr w.heap.size w.heap.size S s HR1.out HO1.out.1 HO1.out.2).mono ?_); rintro e w5 ⟨rfl, rfl⟩; clear tk1 _t)
              | (go_at_call 24; go_must (refine CN.out.mono ?_); rintro e w6 ⟨rfl, hr6, hk6, -⟩; have HR6 := Lib.hid hr6; have HF6 := Lib.hid (HF1.out.trans (HR1.out.fr hk6)); clear hr6 hk6)
              | (go_at_call 23; go_must (refine (r_open w6 w.heap.size w.heap.size S (s.on 3) HR6.out HO1.out.1 HO1.out.2).mono ?_); rintro e w7 ⟨rfl, rfl⟩)
              | (go_at_call 25; go_must (refine (CS.out w6 HR6.out).mono ?_); rintro e w8 ⟨rfl, s8, hr8, hf8, he8⟩))
            obtain ⟨g', hg', hd'⟩ := he8.hd HB3.out HG3.out
            go_roundg g'
            case measure => omega
            case rel => exact ⟨_, s8, rfl, hr8, HF6.out.trans hf8, Lib.hid hd'⟩
          · rw [hq] at hstep
            dsimp only at hstep
            have hM1 := HM.out.next HFIN.out hstep HM.out.mw
            have CY := Lib.hid (fun (w6 : World) (h6 : Rn w6 w.heap.size w.heap.size S (s.on 3)) (p q : Nat) (hp : Tr w6 p fixL) (hq : Tr w6 q fixD) => r_symbols w6 w.heap.size w.heap.size S (s.on 3) _ p q h6 hM1 rfl HFIN.out hp hq HB3.out hSm)
            have j0 : (v : Int) / 2 = 1 := by omega
            have tk2 : True := trivial
            clear hstep hM1 hq hv8 hA
            go_wp2_with (first
              | (go_at_call 23; have _t := tk1; go_must (refine (r_open wr w.heap.size w.heap.size S s HR1.out HO1.out.1 HO1.out.2).mono ?_); rintro e w5 ⟨rfl, rfl⟩; clear tk1 _t)
              | (go_at_call 24; go_must (refine CN.out.mono ?_); rintro e w6 ⟨rfl, hr6, hk6, -⟩; have HR6 := Lib.hid hr6; have HF6 := Lib.hid (HF1.out.trans (HR1.out.fr hk6)); clear hr6 hk6)
              | (go_at_call 23; go_must (refine (r_open w6 w.heap.size w.heap.size S (s.on 3) HR6.out HO1.out.1 HO1.out.2).mono ?_); rintro e w7 ⟨rfl, rfl⟩)
              | (go_at_call 26; go_must (refine (r_fixed w6).mono ?_); rintro e w7 ⟨A7, c7, A8, c8, rfl, hra, hrb, hk7⟩; have HRA := Lib.hid hra; have HRB := Lib.hid hrb; have HK7 := Lib.hid hk7; clear hra hrb hk7)
              | (go_at_call 27; have _t := tk2; go_must (refine (r_new A7 288 c7 fixL w7 (by decide +kernel) (by omega) fixL_15 HRA.out).mono ?_); rintro e w8 hn8; obtain ⟨ta, rfl, hta, hka⟩ := hn8.yes fixL_ok; have HTA := Lib.hid hta; have HKA := Lib.hid hka; clear hta hka tk2 _t)
              | (go_at_call 27; go_must (refine (r_new A8 32 c8 fixD w8 (by decide +kernel) (by omega) fixD_15 (HRB.out.below (HKA.out.below (Nat.le_refl _) (by simp)))).mono ?_); rintro e w9 hn9; obtain ⟨tb, rfl, htb, hkb⟩ := hn9.yes fixD_ok; have HTB := Lib.hid htb; have HKB := Lib.hid hkb; have HKC := Lib.hid ((HK7.out.trans HKA.out).trans hkb); clear htb hkb)
              | (go_at_call 28; go_must (refine (CY.out w9 (HR6.out.below HKC.out) _ _ (HTA.out.fr (Fr.of_kp (B := 0) HKB.out (by simp))) HTB.out).mono ?_); rintro e wa ⟨rfl, s8, hr8, hf8, he8⟩))
            obtain ⟨g', hg', hd'⟩ := he8.hd HB3.out HG3.out
            go_roundg g'
            case measure => omega
            case rel => exact ⟨_, s8, rfl, hr8, (HF6.out.trans (Fr.of_kp HKC.out (by simp))).trans hf8, Lib.hid hd'⟩
          · rw [hq] at hstep
            dsimp only at hstep
            have hM1 := HM.out.next HFIN.out hstep HM.out.mw
            have CS := Lib.hid (fun (w6 : World) (h6 : Rn w6 w.heap.size w.heap.size S (s.on 3)) => r_dynamic w6 w.heap.size w.heap.size S (s.on 3) _ h6 hM1 rfl HFIN.out HB3.out hSm)
            have j0 : (v : Int) / 2 = 2 := by omega
            clear hstep hM1 hq hv8 hA
            go_wp2_with (first
              | (go_at_call 23; have _t := tk1; go_must (refine (r_open wr w.heap.size w.heap.size S s HR1.out HO1.out.1 HO1.out.2).mono ?_); rintro e w5 ⟨rfl, rfl⟩; clear tk1 _t)
              | (go_at_call 24; go_must (refine CN.out.mono ?_); rintro e w6 ⟨rfl, hr6, hk6, -⟩; have HR6 := Lib.hid hr6; have HF6 := Lib.hid (HF1.out.trans (HR1.out.fr hk6)); clear hr6 hk6)
              | (go_at_call 23; go_must (refine (r_open w6 w.heap.size w.heap.size S (s.on 3) HR6.out HO1.out.1 HO1.out.2).mono ?_); rintro e w7 ⟨rfl, rfl⟩)
              | (go_at_call 29; go_must (refine (CS.out w6 HR6.out).mono ?_); rintro e w8 ⟨rfl, s8, hr8, hf8, he8⟩))
            obtain ⟨g', hg', hd'⟩ := he8.hd HB3.out HG3.out
            go_roundg g'
            case measure => omega
            case rel => exact ⟨_, s8, rfl, hr8, HF6.out.trans hf8, Lib.hid hd'⟩
          · rw [hq] at hstep
            dsimp only at hstep
            have HE := Lib.hid (HM.out.halt HFIN.out hstep (by show (10 : Nat) ≠ 0; decide) HFIN.out)
            have j0 : (v : Int) / 2 = 3 := by omega
            clear hstep hq hv8 hA
            go_wp2_with (first
              | (go_at_call 23; have _t := tk1; go_must (refine (r_open wr w.heap.size w.heap.size S s HR1.out HO1.out.1 HO1.out.2).mono ?_); rintro e w5 ⟨rfl, rfl⟩; clear tk1 _t)
              | (go_at_call 24; go_must (refine CN.out.mono ?_); rintro e w6 ⟨rfl, hr6, hk6, -⟩; have HR6 := Lib.hid hr6; have HF6 := Lib.hid (HF1.out.trans (HR1.out.fr hk6)); clear hr6 hk6)
              | (go_at_call 23; go_must (refine (r_open w6 w.heap.size w.heap.size S (s.on 3) HR6.out HO1.out.1 HO1.out.2).mono ?_); rintro e w7 ⟨rfl, rfl⟩)
              | (go_at_call 30; go_must (refine (r_stop w6 _ _ S (s.on 3) 10 HR6.out HB3.out).mono ?_); rintro e w8 ⟨rfl, hr8, hk8, -⟩))
            go_roundg 0
            case measure => omega
            case rel => exact ⟨_, _, rfl, hr8, HF6.out.trans (HR6.out.fr hk8), Lib.hid (.inr ⟨HE.out, rfl⟩)⟩
        · obtain ⟨e1, e2⟩ := num_cut hA
          rw [e1, e2] at cN
          rw [if_neg (by omega)] at hstep
          have CN := Lib.hid cN
          have HE := Lib.hid (HM.out.cut HFIN.out hstep)
          clear cN e1 e2 hstep hg
          go_wp2_with (first
            | (go_at_call 23; have _t := tk1; go_must (refine (r_open wr w.heap.size w.heap.size S s HR1.out HO1.out.1 HO1.out.2).mono ?_); rintro e w5 ⟨rfl, rfl⟩; clear tk1 _t)
            | (go_at_call 24; go_must (refine CN.out.mono ?_); rintro e w6 ⟨rfl, hr6, hk6, -⟩; have HR6 := Lib.hid hr6; have HF6 := Lib.hid (HF1.out.trans (HR1.out.fr hk6)); clear hr6 hk6)
            | (go_at_call 23; go_must (refine (r_shut w6 w.heap.size w.heap.size S _ HR6.out HE.out.2).mono ?_); rintro e w7 ⟨rfl, rfl⟩))
          go_ret
          exact ⟨_, _, rfl, HR6.out, HF6.out.below (Nat.le_refl _), HE.out.1⟩
    · have HE := Lib.hid hE
      clear hE hHd
      go_wp2_with (first
        | (go_at_call 23; go_must (refine (r_shut wr _ _ S s HR1.out HE.out.2).mono ?_); rintro e w8 ⟨rfl, rfl⟩))
      go_ret
      exact ⟨_, s, rfl, HR1.out, HF1.out.below (Nat.le_refl _), HE.out.1⟩
theorem ret_int {k : IntKind} {a b : Int} (h : a = b) : Ending.returned (.int k a) = .returned (.int k b) := by rw [h]
set_option maxHeartbeats 1000000 in
theorem r_used (w : World) (B rb : Nat) (S : Sr) (s : RS) (h : Rn w B rb S s) (ha : s.at_ ≤ 140737488355328) :
    Calls Tryd.prog 13 #[.pointer (some ⟨rb, 0, none⟩)] w fun e w' => e = .returned (.int .i64 ((min (s.at_ + 1) S.l.length : Nat) : Int)) ∧ ∃ d, w' = w.drewN d := by
  have c5 := h.c5
  have c0 := h.c0
  have hl := h.len
  generalize s.at_ = y at *
  generalize S.l.length = L at *
  generalize S.A = A at *
  clear h
  go_enter Tryd.func13, Tryd.ntmps13
  go_upto_region 1 with (fail)
  have e1 : IntKind.i64.wrap ((y : Int) + 1) = (y : Int) + 1 := IntWalk.i64_in _ (by omega)
  go_quiet (fail)
  go_wp2_with (fail)
  all_goals
    go_ret
    refine ⟨ret_int (k := .i64) ?_, _, rfl⟩
    omega
end Go.Proofs.YtdpnlmofkkdioaaDoor.Hf
