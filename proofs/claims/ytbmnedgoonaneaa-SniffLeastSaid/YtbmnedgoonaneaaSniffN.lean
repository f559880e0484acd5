/- The law SniffLeast of layer 18, walked. -/
import Derived.Test.YtbmnedgoonaneaaSniffM
namespace Go.Proofs.Ytbmnedgoonaneaa.Sn
open Go.RowKit Go.Proofs.Ytbmnedgoonaneaa.W

def fillN (N : Nat) (l : List Int) : List Int := l ++ List.replicate (N - l.length) 170
theorem fillN_id {N : Nat} {l : List Int} (h : N ≤ l.length) : fillN N l = l := by simp [fillN, Nat.sub_eq_zero_of_le h]
theorem fillN_step {N : Nat} {l : List Int} (h : l.length < N) : fillN N (l ++ [170]) = fillN N l := by
  obtain ⟨k, hk⟩ : ∃ k, N - l.length = k + 1 := ⟨N - l.length - 1, by omega⟩
  have h2 : N - (l ++ [170]).length = k := by rw [List.length_append, List.length_singleton]; omega
  rw [fillN, fillN, h2, hk, List.replicate_succ]
  simp
theorem fillN_length {N : Nat} {l : List Int} (h : l.length ≤ N) : (fillN N l).length = N := by simp [fillN]; omega

theorem cmp_fill {l t : List Int} {i k : Nat} {v : Int} (h0 : 0 < t.length) (h : l.length < i + t.length) (hv : v ∉ t) : cmp (l ++ List.replicate k v) i t ≠ 2 := by
  intro h2
  rw [cmp_two] at h2
  obtain ⟨j, hj, hl⟩ : ∃ j, j < t.length ∧ l.length ≤ i + j := by
    rcases Nat.lt_or_ge l.length i with h3 | h3
    · exact ⟨0, by omega, by omega⟩
    · exact ⟨l.length - i, by omega, by omega⟩
  have e : t[j]? = (((l ++ List.replicate k v).drop i).take t.length)[j]? := by rw [h2]
  rw [List.getElem?_take, if_pos hj, List.getElem?_drop, List.getElem?_append_right hl, List.getElem?_replicate, List.getElem?_eq_getElem hj] at e
  split at e
  · injection e with e
    exact hv (e ▸ List.getElem_mem hj)
  · cases e

theorem unknown_cases {l : List Int} (h : (sniff l false false marks).2 = false) :
    cmp l 0 [31, 139, 8] = 0 ∨ (cmp l 0 [31, 139, 8] = 1 ∧ cmp l 0 [80, 75, 3, 4] = 0) ∨ (cmp l 0 [31, 139, 8] = 1 ∧ cmp l 0 [80, 75, 3, 4] = 1 ∧ cmp l 257 [117, 115, 116, 97, 114] = 0) := by
  unfold marks at h
  simp only [sniff] at h
  rcases cmp_cases l [31, 139, 8] 0 with hg | hg | hg
  · exact .inl hg
  · rcases cmp_cases l [80, 75, 3, 4] 0 with hz | hz | hz
    · exact .inr (.inl ⟨hg, hz⟩)
    · rcases cmp_cases l [117, 115, 116, 97, 114] 257 with ht | ht | ht
      · exact .inr (.inr ⟨hg, hz, ht⟩)
      · simp [hg, hz, ht] at h
      · simp [hg, hz, ht] at h
    · simp [hg, hz] at h
  · simp [hg] at h

theorem fill_raw {l : List Int} (hb : Bytes l) (h : (sniff l false false marks).2 = false) (hl : l.length < 262) : kind (fillN 300 l) = 1 := by
  have hbf : Bytes (fillN 300 l) := bytes_append hb (fun y hy => by have := List.eq_of_mem_replicate hy; omega)
  have key : ∀ (t : List Int) (i : Nat), 0 < t.length → (170 : Int) ∉ t → (cmp l i t = 0 ∨ cmp l i t = 1 ∨ l.length < i + t.length) → cmp (fillN 300 l) i t ≠ 2 := by
    intro t i h0 hv hc
    rcases hc with hc | hc | hc
    · obtain ⟨k, hk, _, hle⟩ := cmp_zero l t i hc
      exact cmp_fill h0 (by omega) hv
    · rw [show cmp (fillN 300 l) i t = 1 from cmp_ext1 l _ t i hc]; decide
    · exact cmp_fill h0 hc hv
  have hg : cmp (fillN 300 l) 0 [31, 139, 8] ≠ 2 := key _ 0 (by decide) (by decide) (by
    rcases unknown_cases h with h1 | h1 | h1
    · exact .inl h1
    · exact .inr (.inl h1.1)
    · exact .inr (.inl h1.1))
  have ht : cmp (fillN 300 l) 257 [117, 115, 116, 97, 114] ≠ 2 := key _ 257 (by decide) (by decide) (.inr (.inr (by simpa using hl)))
  have hz : cmp (fillN 300 l) 0 [80, 75, 3, 4] ≠ 2 := by
    rcases unknown_cases h with h1 | h1 | h1
    · obtain ⟨k, hk, _, hle⟩ := cmp_zero l _ 0 h1
      simp at hk
      exact key _ 0 (by decide) (by decide) (.inr (.inr (by simp; omega)))
    · exact key _ 0 (by decide) (by decide) (.inl h1.2)
    · exact key _ 0 (by decide) (by decide) (.inr (.inl h1.2.1))
  rw [kind_cmp hbf, if_neg hg, if_neg hz, if_neg ht]

/-- What the first two of the law's files say. -/
def oth (l : List Int) (i : Nat) : Bool := (((filesL l).drop 1).take i).any fun x => kind x != 1

theorem other_true {l : List Int} (hb : Bytes l) (h : (sniff l false false marks).2 = false) : oth l 2 = true ∨ kind (ust (fillN 257 l)) = 8 := by
  rcases unknown_cases h with hg | ⟨hg, hz⟩ | ⟨hg, hz, ht⟩
  · left
    obtain ⟨k, hk1, hd, hle⟩ := cmp_zero l _ 0 hg
    have hp : padTo l [31, 139, 8] = [31, 139, 8] := by
      rw [List.drop_zero] at hd
      subst hd
      have hk3 : k < 3 := hk1
      have : k = 0 ∨ k = 1 ∨ k = 2 := by omega
      rcases this with rfl | rfl | rfl <;> rfl
    have h7 : kind [31, 139, 8] = 7 := by rw [kind_cmp (by intro x hx; simp at hx; omega)]; decide
    simp [oth, filesL, hp, h7]
  · left
    obtain ⟨k, hk1, hd, hle⟩ := cmp_zero l _ 0 hz
    have hp : padTo l [80, 75, 3, 4] = [80, 75, 3, 4] := by
      rw [List.drop_zero] at hd
      subst hd
      have hk3 : k < 4 := hk1
      have : k = 0 ∨ k = 1 ∨ k = 2 ∨ k = 3 := by omega
      rcases this with rfl | rfl | rfl | rfl <;> rfl
    have h7 : kind [80, 75, 3, 4] = 9 := by rw [kind_cmp (by intro x hx; simp at hx; omega)]; decide
    simp [oth, filesL, hp, h7]
  · right
    obtain ⟨k, hk1, hd, hle⟩ := cmp_zero l _ 257 ht
    have hk5 : k < 5 := hk1
    have hbu : Bytes (ust (fillN 257 l)) := bytes_append (bytes_append hb (fun y hy => by have := List.eq_of_mem_replicate hy; omega)) (fun y hy => by have := List.mem_of_mem_drop hy; simp at this; omega)
    have hr : ∃ r, ust (fillN 257 l) = l ++ r := ⟨_, by rw [ust, fillN, List.append_assoc]⟩
    obtain ⟨r, hr⟩ := hr
    have h2 : cmp (ust (fillN 257 l)) 257 [117, 115, 116, 97, 114] = 2 := by
      rw [cmp_two]
      rcases Nat.lt_or_ge 257 l.length with hl | hl
      · rw [fillN_id (by omega), ust, List.drop_append_of_le_length (by omega), hd]
        have hlen : l.length - 257 = k := by
          have := congrArg List.length hd
          rw [List.length_drop, List.length_take] at this
          simp at this
          omega
        rw [hlen]
        have : k = 0 ∨ k = 1 ∨ k = 2 ∨ k = 3 ∨ k = 4 := by omega
        rcases this with rfl | rfl | rfl | rfl | rfl <;> rfl
      · have hf : (fillN 257 l).length = 257 := fillN_length hl
        rw [ust, hf, List.drop_append_of_le_length (by omega), List.drop_eq_nil_of_le (by omega)]
        rfl
    rw [kind_cmp hbu, h2, hr, cmp_ext1 l r _ 0 hg, cmp_ext1 l r _ 0 hz]
    decide

/-- The two rows of ends, and where they lie. -/
def Ends (w : World) (M : Nat) : Prop :=
  RV w (some ⟨M + 1 + 1, 0, none⟩) [.slice (some ⟨M, 0, none⟩) 3 3, .slice (some ⟨M + 1, 0, none⟩) 4 4] ∧ RV w (some ⟨M, 0, none⟩) (u8s [31, 139, 8]) ∧ RV w (some ⟨M + 1, 0, none⟩) (u8s [80, 75, 3, 4])
theorem Ends.below {w w' : World} {M : Nat} (h : Ends w M) (hb : Below w.heap.size w w') : Ends w' M := ⟨h.1.below hb, h.2.1.below hb, h.2.2.below hb⟩
theorem Ends.at_ {w : World} {M : Nat} (h : Ends w M) {l : List Int} {i : Nat} (hi : i < 2) : ∃ (m : Nat) (ms : List Int), ms.length = m ∧ 3 ≤ m ∧ m ≤ 4 ∧ Bytes ms ∧ ∃ b, w.cell? ⟨M + 1 + 1, i, none⟩ = some (.slice (some ⟨b, 0, none⟩) m m) ∧
    RV w (some ⟨b, 0, none⟩) (u8s ms) ∧ oth l (i + 1) = (oth l i || kind (padTo l ms) != 1) := by
  have hi : i = 0 ∨ i = 1 := by omega
  rcases hi with rfl | rfl
  · obtain ⟨b, off, hA, _, hc⟩ := h.1 0 _ rfl
    cases hA
    exact ⟨3, [31, 139, 8], rfl, by omega, by omega, by intro x hx; simp at hx; omega, M, hc, h.2.1, by simp [oth, filesL]⟩
  · obtain ⟨b, off, hA, _, hc⟩ := h.1 1 _ rfl
    cases hA
    exact ⟨4, [80, 75, 3, 4], rfl, by omega, by omega, by intro x hx; simp at hx; omega, M + 1, hc, h.2.2, by simp [oth, filesL]⟩

set_option maxHeartbeats 2000000 in
set_option maxRecDepth 100000 in
theorem least (A : Option Addr) (n c : Nat) (l : List Int) (w : World) (hl : l.length = n) (_hnc : n ≤ c) (hn : n ≤ 140737488351232) (hb : Bytes l) (hr : RB w A l) :
    Calls Try.prog 5 #[.slice A n c] w fun e w' => e = .returned (.bool true) ∧ Below w.heap.size w w' := by
  obtain ⟨K, B, hK⟩ : ∃ K B, sniff l false false marks = (K, B) := ⟨_, _, rfl⟩
  have hn2 : n ≤ 140737488355328 := by omega
  cases B with
  | true =>
    have HC := Lib.hid hr
    have HL := Lib.hid hl
    have HK := Lib.hid hK
    clear hr hl hK
    go_enter Try.func5, Try.ntmps5
    go_wp2_with (first
      | (go_at_call 7; go_must (refine (sniff_r HK.out HL.out hn2 HC.out).mono ?_); rintro e w1 ⟨rfl, hb1⟩)
      | (go_at_call 9; go_must (refine (awake _).mono ?_); rintro e w6 ⟨rfl, hb6⟩))
    go_ret
    exact ⟨rfl, hb1.trans (hb6.mono hb1.size)⟩
  | false =>
    have h0 : (sniff l false false marks).2 = false := by rw [hK]
    have h262 : n < 262 := by
      rcases Nat.lt_or_ge n 262 with hlt | hge
      · exact hlt
      · have := sniff_long hb (by rw [hl]; exact hge)
        rw [h0] at this
        cases this
    have hraw := sniff_true (l := fillN 300 l) (bytes_append hb (fun y hy => by have := List.eq_of_mem_replicate hy; omega))
    rw [fill_raw hb h0 (by omega)] at hraw
    have hoth := other_true hb h0
    have hust := sniff_true (l := ust (fillN 257 l)) (bytes_append (bytes_append hb (fun y hy => by have := List.eq_of_mem_replicate hy; omega)) (fun y hy => by have := List.mem_of_mem_drop hy; simp at this; omega))
    have HB := Lib.hid hb
    have HC := Lib.hid hr
    have HL := Lib.hid hl
    have HK := Lib.hid hK
    have HR := Lib.hid hraw
    have HO := Lib.hid hoth
    have HU := Lib.hid hust
    have HL8 := Lib.hid ((u8s_length l).trans hl)
    clear hr hl hK hb h0 hraw hoth hust
    have m1 : 0 + n ≤ maxLen := by unfold maxLen; omega
    have m2 : (0 + n) * 1 ≤ 140737488355328 := by omega
    go_enter Try.func5, Try.ntmps5
    go_wp2_with (first
      | (go_at_call 7; go_must (refine (sniff_r HK.out HL.out hn2 HC.out).mono ?_); rintro e w1 ⟨rfl, hb1⟩; have HC1 := HC.out.below hb1)
      | (at_builtin; go_must (refine wpList_ap el8 rfl (.tmp 24) _ (by rfl) (by rfl) (own_lit (n := 0) #[] rfl (Nat.le_refl w1.heap.size) (Nat.zero_le _)) (by rfl) HL8.out (RV.alloc HC1 _) (u8s_one l) m1 m2 (by simp) ?_); intro A2 c2 w2 own2 grow2 at2 le2; go_must (simp only [Nat.zero_add, List.nil_append] at own2 le2 ⊢; have g2 := grow_new' grow2)))
    -- raw: up to 300 bytes
    go_loopg [5] (300 - n) (fun g s5 wy => ∃ (k : Nat) (x : List Int) (Ax : Option Addr) (cx : Nat), k + g = 300 ∧ k ≤ cx ∧ s5 = .slice Ax k cx ∧ Hid (x.length = k) ∧ Hid (fillN 300 x = fillN 300 l) ∧ wy.ownsRow w1.heap.size 5 1 (.slice Ax k cx) k (u8s x) ∧ w1.grownBy wy none)
    case atStart => exact ⟨n, l, A2, c2, by omega, le2, rfl, HL.out, rfl, own2, g2⟩
    case round =>
      obtain ⟨k, x, Ax, cx, hkg, hkx, rfl, HX, HF, ownx, gx⟩ := hrel
      cases gk with
      | succ g =>
        have h300 : (k : Int) < 300 := by omega
        go_wp2_with (at_builtin; go_must (refine wpList_ap el8 rfl (.tmp 30) _ (by rfl) (by rfl) (ownx.alloc _) (by rfl) (m := 1) (news := [.int .u8 170]) rfl (RV.new _ _) (by simp [Value.oneCell']) (by unfold maxLen; omega) (by omega) (by have := gx.size; simp; omega) ?_); intro A3 c3 w3 own3 grow3 at3 le3)
        have hfs : fillN 300 (x ++ [170]) = fillN 300 l := by rw [fillN_step (by rw [HX.out]; omega), HF.out]
        have hgr : w1.grownBy w3 none := grow_row (gx.trans (World.grownBy_alloc _ _ none)) grow3 (fun q hq => (ownx.lt q hq).1)
        go_roundg g
        case measure => omega
        case rel => exact ⟨k + 1, x ++ [170], A3, c3, by omega, le3, rfl, (by show _ = _; rw [List.length_append, HX.out]; rfl), hfs, (by rw [u8s_append]; exact own3), hgr⟩
      | zero =>
        obtain rfl : k = 300 := by omega
        have hxr : sniff x true false marks = (1, true) := by rw [← HR.out, ← HF.out, fillN_id (by rw [HX.out]; omega)]
        have HXR := Lib.hid hxr
        clear hxr HR
        obtain ⟨wo, rfl⟩ : ∃ wo : World, wo = wr := ⟨_, rfl⟩
        go_wp2_with (first
          | (go_at_call 7; go_must (refine (sniff_r HXR.out HX.out (by omega) (RV.own ownx)).mono ?_); rintro e w4 ⟨rfl, hb4⟩))
        have hbw4 : Below w.heap.size w w4 := (hb1.trans ((grownBy_below gx).mono hb1.size)).trans (hb4.mono (Nat.le_trans hb1.size gx.size))
        clear HXR ownx HX HF hb4 gx own2 g2 grow2 hb1
        -- the two ends
        go_loopg [8, 10] 2 (fun g s8 s10 wy => ∃ (i : Nat), i + g = 2 ∧ s10 = .int .i64 i ∧ s8 = .bool (oth l i) ∧ Ends wy w4.heap.size ∧ Below w.heap.size w wy)
        case atStart =>
          refine ⟨0, rfl, rfl, rfl, ⟨?_, ?_, ?_⟩, ?_⟩
          · exact (RX.new' (g := none) (by simp) rfl (by simp)).reads
          · exact (((RX.new' (g := none) (by simp) rfl (by simp)).alloc _).alloc _).reads
          · exact ((RX.new' (g := none) (by simp) rfl (by simp)).alloc _).reads
          · have h1 := hbw4.alloc hbw4.size (.cells #[.int .u8 31, .int .u8 139, .int .u8 8] 5)
            have h2 := h1.alloc h1.size (.cells #[.int .u8 80, .int .u8 75, .int .u8 3, .int .u8 4] 5)
            exact h2.alloc h2.size _
        case round =>
          obtain ⟨i, hig, rfl, rfl, hE, hbx⟩ := hrel
          have hcA : RV wr A (u8s l) := HC.out.below hbx
          cases gk with
          | succ g =>
            obtain ⟨m, ms, hms, hm3, hm4, hbm, b, hcm, hrm, htk⟩ := hE.at_ (l := l) (i := i) (by omega)
            have HM := Lib.hid hms
            have HT := Lib.hid htk
            have i2 : (i : Int) < 2 := by omega
            have i0 : (0 : Int) ≤ (i : Int) := by omega
            have m0 : (0 : Int) < (m : Int) := by omega
            have hmn : ms.length = m := hms
            have hM3 : (u8s (ms.drop n)).length = m - n := by rw [u8s_length]; simp [hmn]
            have HM3 := Lib.hid hM3
            have m3 : n + (m - n) ≤ maxLen := by unfold maxLen; omega
            have m4 : (n + (m - n)) * 1 ≤ 140737488355328 := by omega
            have hsx := sniff_true (l := padTo l ms) (bytes_append HB.out (fun y hy => hbm y (List.mem_of_mem_drop hy)))
            obtain ⟨kx, hkx⟩ : ∃ kx, kind (padTo l ms) = kx := ⟨_, rfl⟩
            have hkne : (kx != 0) = true := by rw [← hkx]; exact neT (kind_ne _)
            rw [hkx] at hsx htk
            have HT := Lib.hid htk
            have HSX := Lib.hid hsx
            clear hms htk hM3 hmn hsx hkx
            have tk1 : True := trivial
            by_cases hnm : n < m
            · have hnm1 : (n : Int) < (m : Int) := by omega
              have hsl : (l ++ ms.drop n).length = n + (m - n) := by have := HM3.out; rw [u8s_length] at this; rw [List.length_append, this, HL.out]
              have hpe : padTo l ms = l ++ ms.drop n := by rw [padTo, HL.out]
              have HSL := Lib.hid hsl
              have hsx2 := HSX.out
              rw [hpe] at hsx2
              have HSX2 := Lib.hid hsx2
              clear hsl hpe hsx2
              cases ho : oth l i <;> by_cases h1 : kx = 1
              all_goals
                (try have hk1 : (kx != 1) = false := neF h1)
                (try have hk1 : (kx != 1) = true := neT h1)
                have hres := HT.out
                rw [ho, hk1] at hres
                have HRES := Lib.hid hres
                clear hres h1 ho
                go_wp2_with (first
                  | (at_builtin; have _t := tk1; go_must (refine wpList_ap el8 rfl (.tmp 45) _ (by rfl) (by rfl) (own_lit (n := 0) #[] rfl (Nat.le_refl wr.heap.size) (Nat.zero_le _)) (by rfl) HL8.out (RV.alloc hcA _) (u8s_one l) m1 m2 (by simp) ?_); intro A2 c2 w2 own2 grow2 at2 le2; go_must (simp only [Nat.zero_add, List.nil_append] at own2 le2 ⊢; have g2 := grow_new' grow2; have hcm2 := g2.cell hcm (by simp)); clear tk1 _t)
                  | (at_builtin; go_must (have hrm2 : RV w2 (some ⟨b, n, none⟩) (u8s (ms.drop n)) := (by have h := (hrm.below (grownBy_below g2)).drop n; rw [Nat.zero_add] at h; rw [u8s, List.map_drop]; exact h); refine wpList_ap el8 rfl (.tmp 56) _ (by rfl) (by rfl) own2 (by rfl) HM3.out hrm2 (u8s_one _) m3 m4 g2.size ?_); intro A3 c3 w3 own3 grow3 at3 le3; go_must (rw [← u8s_append] at own3; have g3 := grow_row g2 grow3 (fun k hk => (own2.lt k hk).1)))
                  | (go_at_call 7; go_must (refine (sniff_r HSX2.out HSL.out (by omega) (RV.own own3)).mono ?_); rintro e w5 ⟨rfl, hb5⟩))
                have hbw : Below wr.heap.size wr w5 := (grownBy_below g3).trans (hb5.mono g3.size)
                go_roundg g
                case measure => omega
                case rel => exact ⟨i + 1, by omega, by go_num, by rw [HRES.out]; rfl, hE.below hbw, hbx.trans (hbw.mono hbx.size)⟩
            · have hnm1 : ¬ (n : Int) < (m : Int) := by omega
              have hpe : padTo l ms = l := padTo_id (by rw [HM.out, HL.out]; omega)
              have hsx2 := HSX.out
              rw [hpe] at hsx2
              have HSX2 := Lib.hid hsx2
              clear hpe hsx2
              cases ho : oth l i <;> by_cases h1 : kx = 1
              all_goals
                (try have hk1 : (kx != 1) = false := neF h1)
                (try have hk1 : (kx != 1) = true := neT h1)
                have hres := HT.out
                rw [ho, hk1] at hres
                have HRES := Lib.hid hres
                clear hres h1 ho
                go_wp2_with (first
                  | (at_builtin; have _t := tk1; go_must (refine wpList_ap el8 rfl (.tmp 45) _ (by rfl) (by rfl) (own_lit (n := 0) #[] rfl (Nat.le_refl wr.heap.size) (Nat.zero_le _)) (by rfl) HL8.out (RV.alloc hcA _) (u8s_one l) m1 m2 (by simp) ?_); intro A2 c2 w2 own2 grow2 at2 le2; go_must (simp only [Nat.zero_add, List.nil_append] at own2 le2 ⊢; have g2 := grow_new' grow2; have hcm2 := g2.cell hcm (by simp)); clear tk1 _t)
                  | (go_at_call 7; go_must (refine (sniff_r HSX2.out HL.out (by omega) (RV.own own2)).mono ?_); rintro e w5 ⟨rfl, hb5⟩))
                have hbw : Below wr.heap.size wr w5 := (grownBy_below g2).trans (hb5.mono g2.size)
                go_roundg g
                case measure => omega
                case rel => exact ⟨i + 1, by omega, by go_num, by rw [HRES.out]; rfl, hE.below hbw, hbx.trans (hbw.mono hbx.size)⟩
          | zero =>
            obtain rfl : i = 2 := by omega
            clear hE
            go_wp2_with (at_builtin; go_must (refine wpList_ap el8 rfl (.tmp 79) _ (by rfl) (by rfl) (own_lit (n := 0) #[] rfl (Nat.le_refl wr.heap.size) (Nat.zero_le _)) (by rfl) HL8.out (RV.alloc hcA _) (u8s_one l) m1 m2 (by simp) ?_); intro A2 c2 w2 own2 grow2 at2 le2; go_must (simp only [Nat.zero_add, List.nil_append] at own2 le2 ⊢; have g2 := grow_new' grow2))
            clear HL8 hcA
            obtain ⟨N7, h7a, h7b, h7c⟩ : ∃ N7 : Nat, n ≤ N7 ∧ 257 ≤ N7 ∧ (N7 = n ∨ N7 = 257) := ⟨max n 257, by omega, by omega, by omega⟩
            have X7 := Lib.hid h7c
            have hN : N7 ≤ 262 := by omega
            clear h7c
            obtain ⟨wp, rfl⟩ : ∃ wp : World, wp = wr := ⟨_, rfl⟩
            go_loopg [14] (N7 - n) (fun g7 s7 wy => ∃ (k : Nat) (x : List Int) (Ax : Option Addr) (cx : Nat), k + g7 = N7 ∧ n ≤ k ∧ k ≤ cx ∧ s7 = .slice Ax k cx ∧ Hid (x.length = k) ∧ Hid (fillN 257 x = fillN 257 l) ∧ wy.ownsRow wp.heap.size 5 1 (.slice Ax k cx) k (u8s x) ∧ wp.grownBy wy none)
            case atStart => exact ⟨n, l, A2, c2, by omega, Nat.le_refl _, le2, rfl, HL.out, rfl, own2, g2⟩
            case round =>
              obtain ⟨k, x, Ax, cx, hkg, hnk, hkx, rfl, HX, HF, ownx, gx⟩ := hrel
              cases gk with
              | succ g7 =>
                have h257 : k < 257 := by rcases X7.out with h | h <;> omega
                have h257i : (k : Int) < 257 := by omega
                go_wp2_with (at_builtin; go_must (refine wpList_ap el8 rfl (.tmp 85) _ (by rfl) (by rfl) (ownx.alloc _) (by rfl) (m := 1) (news := [.int .u8 170]) rfl (RV.new _ _) (by simp [Value.oneCell']) (by unfold maxLen; omega) (by omega) (by have := gx.size; simp; omega) ?_); intro A3 c3 w3 own3 grow3 at3 le3)
                have hfs : fillN 257 (x ++ [170]) = fillN 257 l := by rw [fillN_step (by rw [HX.out]; exact h257), HF.out]
                have hgr : wp.grownBy w3 none := grow_row (gx.trans (World.grownBy_alloc _ _ none)) grow3 (fun q hq => (ownx.lt q hq).1)
                go_roundg g7
                case measure => omega
                case rel => exact ⟨k + 1, x ++ [170], A3, c3, by omega, by omega, le3, rfl, (by show _ = _; rw [List.length_append, HX.out]; rfl), hfs, (by rw [u8s_append]; exact own3), hgr⟩
              | zero =>
                have hk7 : ¬ (k : Int) < 257 := by omega
                have hxf : ust (fillN 257 l) = ust x := by rw [← HF.out, fillN_id (by rw [HX.out]; omega)]
                have HUX := Lib.hid hxf
                clear hxf
                obtain ⟨w7, rfl⟩ : ∃ w7 : World, w7 = wr := ⟨_, rfl⟩
                go_wp2
                go_loopg [14] (262 - k) (fun g8 s7 wy => ∃ (q : Nat) (y : List Int) (Ay : Option Addr) (cy : Nat), q + g8 = 262 ∧ k ≤ q ∧ q ≤ cy ∧ s7 = .slice Ay q cy ∧ Hid (y.length = q) ∧ Hid (ust y = ust x) ∧ wy.ownsRow wp.heap.size 5 1 (.slice Ay q cy) q (u8s y) ∧ wp.grownBy wy none)
                case atStart => exact ⟨k, x, Ax, cx, by omega, Nat.le_refl _, hkx, rfl, HX, rfl, ownx, gx⟩
                case round =>
                  obtain ⟨q, y, Ay, cy, hqg, hkq, hqy, rfl, HY, HV, owny, gy⟩ := hrel
                  cases gk with
                  | succ g8 =>
                    have h262 : q < 262 := by omega
                    have hq7 : 257 ≤ q := by omega
                    have hq7i : (257 : Int) ≤ (q : Int) := by omega
                    go_wp2_with (at_builtin; go_must (refine wpList_ap el8 rfl (.tmp 91) _ (by rfl) (by rfl) (owny.alloc _) (by rfl) (m := 1) (news := _) rfl (RV.new _ _) (by simp [Value.oneCell']) (by unfold maxLen; omega) (by omega) (by have := gy.size; simp; omega) ?_); intro A3 c3 w3 own3 grow3 at3 le3)
                    have hus := (ust_one (by rw [HY.out]) (by rw [HY.out]; exact hq7) (us_at (q - 257) (by show _ < 5; omega))).trans HV.out
                    have hgr : wp.grownBy w3 none := grow_row (gy.trans (World.grownBy_alloc _ _ none)) grow3 (fun q hq => (owny.lt q hq).1)
                    go_roundg g8
                    case measure => omega
                    case rel => exact ⟨q + 1, _, A3, c3, by omega, by omega, le3, rfl, (by show _ = _; rw [List.length_append, HY.out]; rfl), hus, (by rw [u8s_append]; exact own3), hgr⟩
                  | zero =>
                    obtain rfl : q = 262 := by omega
                    have hyl : ust (fillN 257 l) = y := by rw [HUX.out, ← HV.out, ust_id (by rw [HY.out]; omega)]
                    have hsy := HU.out
                    obtain ⟨ky, hky⟩ : ∃ ky, kind (ust (fillN 257 l)) = ky := ⟨_, rfl⟩
                    have ho := HO.out
                    rw [hky] at hsy ho
                    rw [hyl] at hsy
                    have HSY := Lib.hid hsy
                    have hfin : ∀ w5, Below wr.heap.size wr w5 → ∀ w6, Below w5.heap.size w5 w6 → Below w.heap.size w w6 := fun w5 h5 w6 h6 => by
                      have h1 := hbx.trans ((grownBy_below gy).mono hbx.size)
                      have h2 := h1.trans (h5.mono h1.size)
                      exact h2.trans (h6.mono h2.size)
                    have HFIN := Lib.hid hfin
                    clear hsy hky hyl HUX HU hfin
                    have hcase : oth l 2 = true ∨ (oth l 2 = false ∧ ky = 8) := by
                      rcases ho with h | h
                      · exact .inl h
                      · cases oth l 2
                        · exact .inr ⟨rfl, h⟩
                        · exact .inl rfl
                    clear ho
                    rcases hcase with ho | ⟨ho, rfl⟩
                    all_goals
                      rw [ho]
                      clear ho
                      go_wp2_with (first
                        | (go_at_call 7; go_must (refine (sniff_r HSY.out HY.out (by omega) (RV.own owny)).mono ?_); rintro e w5 ⟨rfl, hb5⟩)
                        | (go_at_call 9; go_must (refine (awake _).mono ?_); rintro e w6 ⟨rfl, hb6⟩))
                      go_ret
                      exact ⟨rfl, HFIN.out _ hb5 _ hb6⟩
end Go.Proofs.Ytbmnedgoonaneaa.Sn
