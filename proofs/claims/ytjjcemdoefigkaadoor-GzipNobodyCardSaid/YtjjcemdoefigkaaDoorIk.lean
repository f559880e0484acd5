/- A table at work: the walk of Read. -/
import Derived.Test.YtjjcemdoefigkaaDoorIj
import Derived.Test.YtjjcemdoefigkaaDoorMa
namespace Go.Proofs.YtjjcemdoefigkaaDoor.Hf
set_option linter.unusedVariables false
set_option linter.unusedSimpArgs false
open Go.RowKit Go.Proofs.YtjjcemdoefigkaaDoor.W

/-- The entries of the first symbols. -/
def symL (lens : List Nat) : Nat → List (Value × Value)
  | 0 => []
  | i + 1 => symL lens i ++ if 0 < lens.getD i 0 then [(keyV (lens.getD i 0) (codeN lens i), .int .i64 (i : Nat))] else []
theorem keyV_inj {k v k' v' : Nat} (h : keyV k v = keyV k' v') : k = k' ∧ v = v' := by
  unfold keyV at h
  injection h with h
  have h1 := congrArg (fun a : Array Value => a[0]?) h
  have h2 := congrArg (fun a : Array Value => a[1]?) h
  simp at h1 h2
  omega
theorem symL_mem {lens : List Nat} : ∀ {n : Nat} {p : Value × Value}, p ∈ symL lens n → ∃ i, i < n ∧ 0 < lens.getD i 0 ∧ p = (keyV (lens.getD i 0) (codeN lens i), .int .i64 (i : Nat)) := by
  intro n
  induction n with
  | zero => intro p h; cases h
  | succ n ih =>
    intro p h
    rw [symL] at h
    rcases List.mem_append.1 h with h | h
    · obtain ⟨i, h1, h2⟩ := ih h
      exact ⟨i, by omega, h2⟩
    · split at h
      · rename_i h0
        exact ⟨n, by omega, h0, List.mem_singleton.1 h⟩
      · cases h
theorem symL_in {lens : List Nat} {s k : Nat} (hs : lens[s]? = some k) (hk : 0 < k) : ∀ n, s < n → (keyV k (codeN lens s), Value.int .i64 (s : Nat)) ∈ symL lens n := by
  intro n
  induction n with
  | zero => intro h; omega
  | succ n ih =>
    intro h
    rw [symL]
    rcases Nat.lt_or_ge s n with h1 | h1
    · exact List.mem_append.2 (.inl (ih h1))
    · obtain rfl : s = n := by omega
      rw [getD_of hs, if_pos hk]
      exact List.mem_append.2 (.inr (List.mem_singleton.2 rfl))
theorem codeN_lt {lens : List Nat} (ht : Tab lens) {i : Nat} (h0 : 0 < lens.getD i 0) : lens.getD i 0 ≤ 15 ∧ codeN lens i < 32768 ∧ lens[i]? = some (lens.getD i 0) := by
  have hi : lens[i]? = some (lens.getD i 0) := by
    cases h : lens[i]? with
    | none => rw [List.getD, h] at h0; simp at h0
    | some k => rw [getD_of h]
  have h15 := ht.le _ (List.mem_of_getElem? hi)
  have h1 := code_mnum ht h0 hi
  have h2 := mnum_lt (code lens i)
  rw [code_length hi, h1] at h2
  have h3 : 2 ^ lens.getD i 0 ≤ 2 ^ 15 := Nat.pow_le_pow_right (by omega) h15
  exact ⟨h15, Nat.lt_of_lt_of_le h2 h3, hi⟩
theorem symL_keys {lens : List Nat} (ht : Tab lens) (n : Nat) : Keys (symL lens n) := fun p hp => by
  obtain ⟨i, _, h0, rfl⟩ := symL_mem hp
  obtain ⟨h1, h2, _⟩ := codeN_lt ht h0
  exact keyV_key h1 h2
theorem symL_new {lens : List Nat} (ht : Tab lens) {n : Nat} (h0 : 0 < lens.getD n 0) : ∀ p ∈ symL lens n, p.1 ≠ keyV (lens.getD n 0) (codeN lens n) := fun p hp e => by
  obtain ⟨i, hi, h1, rfl⟩ := symL_mem hp
  obtain ⟨h2, h3⟩ := keyV_inj e
  obtain ⟨_, _, h4⟩ := codeN_lt ht h0
  obtain ⟨_, _, h5⟩ := codeN_lt ht h1
  have h6 := cnt_lt lens _ h0 (by rw [h5, h2]) hi
  unfold codeN at h3
  rw [h2] at h3
  omega
theorem symL_apart {lens : List Nat} (ht : Tab lens) : ∀ n, (symL lens n).Pairwise fun p q => p.1 ≠ q.1 := by
  intro n
  induction n with
  | zero => exact List.Pairwise.nil
  | succ n ih =>
    rw [symL]
    split
    · rename_i h0
      refine List.pairwise_append.2 ⟨ih, List.pairwise_singleton _ _, fun p hp q hq => ?_⟩
      rw [List.mem_singleton.1 hq]
      exact symL_new ht h0 p hp
    · rw [List.append_nil]; exact ih
/-- The table at block t, of some lengths; neither it nor its map lies in S. -/
structure Tb (w : World) (S : List Nat) (t : Nat) (lens : List Nat) : Prop where
  nums : Nums w t lens
  out : t ∉ S
  mp : ∃ b, w.cell? ⟨t, 1, none⟩ = some (.map (some b)) ∧ Ms w b (symL lens lens.length) ∧ b ∉ S
  ty : ∃ cs, w.heap[t]? = some (.cells cs 82 (0, 0))
theorem Nums.kept {S : List Nat} {w w' : World} {t : Nat} {lens : List Nat} (h : Nums w t lens) (hk : Kp S w w') (h1 : t ∉ S) : Nums w' t lens :=
  have hb := hk.block t h.lt h1
  ⟨fun k h2 => (World.cell?_of_block (a := ⟨t, 2 + k, none⟩) hb).trans (h.fst k h2), fun k h2 => (World.cell?_of_block (a := ⟨t, 19 + k, none⟩) hb).trans (h.cnt k h2), Nat.lt_of_lt_of_le h.lt hk.size⟩
theorem Tb.kept {S T : List Nat} {w w' : World} {t : Nat} {lens : List Nat} (h : Tb w S t lens) (hk : Kp T w w') (hT : ∀ k ∈ T, k ∈ S ∨ w.heap.size ≤ k) : Tb w' S t lens := by
  obtain ⟨b, h1, h2, h3⟩ := h.mp
  have ht : t ∉ T := fun h4 => (hT t h4).elim h.out (fun h5 => by have := h.nums.lt; omega)
  have hb : b ∉ T := fun h4 => (hT b h4).elim h3 (fun h5 => by have := h2.lt; omega)
  exact ⟨h.nums.kept hk ht, h.out, ⟨b, (World.cell?_of_block (a := ⟨t, 1, none⟩) (hk.block t h.nums.lt ht)).trans h1, h2.kept hk hb, h3⟩, by obtain ⟨cs, h9⟩ := h.ty; exact ⟨cs, (hk.block t h.nums.lt ht).trans h9⟩⟩
/-- What a reading is. -/
def RdRel (lens : List Nat) (bs : List Bool) (sy how : Int) (bs' : List Bool) : Prop :=
  (∃ s k : Nat, dec lens bs = .got s k ∧ sy = s ∧ how = 0 ∧ bs' = bs.drop k) ∨ (dec lens bs = .more ∧ sy = 0 ∧ how = 1 ∧ bs' = bs) ∨ (∃ j, dec lens bs = .bad j ∧ sy = 0 ∧ how = 2 ∧ bs' = bs)
def ReadPost (w : World) (r : Nat) (lens : List Nat) (bs : List Bool) (e : Ending) (w' : World) : Prop :=
  ∃ (sy how : Int) (bs' : List Bool), e = .returned (.tuple #[.int .i64 sy, .int .i64 how]) ∧ RdRel lens bs sy how bs' ∧ Rd w' r bs' ∧ Kp [r] w w'
theorem dec_empty {lens : List Nat} (h : symL lens lens.length = []) (bs : List Bool) : dec lens bs = .bad 0 := by
  have hno : ∀ i k, 0 < k → ¬ lens[i]? = some k := fun i k hk hi => by
    have := symL_in hi hk lens.length (List.getElem?_eq_some_iff.1 hi).1
    rw [h] at this
    cases this
  rcases look_more (lens := lens) (held := bs.take 0) (fun i k hk hi => absurd hi (hno i k hk)) with ⟨_, i, k, hk, hi, _⟩ | ⟨h1, _⟩
  · exact absurd hi (hno i k hk)
  · unfold dec
    rw [decG, h1]
theorem run_len_map' {P : Program} {t k e ty : TypeId} (ht : P.underlying t = some (.map k e)) {b : Nat} {es : Array MapEntry} {clock : Nat} {w : World} (hb : w.heap[b]? = some (.map es clock)) :
    (Builtin.len_ #[t] ty #[.map (some b)]).run P w = .ok (.int .i64 es.size) w := by
  simp [Builtin.len_, run_underlying ht, MapKept.run_getObj_map hb, goInt]
set_option maxHeartbeats 1000000 in
theorem c_reverse0 (w : World) :
    Calls Tryd.prog 63 #[.int .u32 0, .int .i64 0] w fun e w' => e = .returned (.int .u32 0) ∧ w = w' := by
  go_enter Tryd.func63, Tryd.ntmps63
  go_wp2
  go_ret
  exact ⟨rfl, rfl⟩
theorem c_rev (l : List Bool) (k : Nat) (w : World) (hl : l.length ≤ 15) (hk : k ≤ l.length) (h : 0 < k ∨ l = []) :
    Calls Tryd.prog 63 #[.int .u32 (num l), .int .i64 k] w fun e w' => e = .returned (.int .u32 (mnum (l.take k))) ∧ w = w' := by
  rcases Nat.eq_zero_or_pos k with h0 | h0
  · rcases h with h | h
    · omega
    · subst h0 h
      exact c_reverse0 w
  · have hv : num l < 32768 := Nat.lt_of_lt_of_le (num_lt l) (Nat.pow_le_pow_right (n := 2) (by omega) (show _ ≤ 15 by omega))
    have := c_reverse (num l) k w hv h0 (by omega)
    rw [revN_take l k hl hk] at this
    exact this
set_option maxHeartbeats 1000000 in
set_option maxRecDepth 100000 in
theorem c_read (S : List Nat) (t r : Nat) (lens : List Nat) (bs : List Bool) (w : World) (ht : Tab lens) (hT : Tb w S t lens) (hr : Rd w r bs) (hrS : r ∈ S) (hl : bs.length < 64) :
    Calls Tryd.prog 54 #[.pointer (some ⟨t, 0, none⟩), .pointer (some ⟨r, 0, none⟩)] w (ReadPost w r lens bs) := by
  obtain ⟨b, hb1, hb2, hb3⟩ := hT.mp
  obtain ⟨es, clock, hes, hL⟩ := hb2
  have hne : ¬ t = r := fun h => hT.out (h ▸ hrS)
  by_cases h0 : symL lens lens.length = []
  · have hz : es.size = 0 := by
      have := congrArg List.length hL
      rw [h0] at this
      simpa using this
    have HD := Lib.hid (dec_empty h0 bs)
    have HR := Lib.hid hr
    have hlen := run_len_map' (ty := 3) mapU hes
    rw [hz] at hlen
    clear hT hr hes hL h0
    go_enter Tryd.func54, Tryd.ntmps54
    go_wp2
    go_ret2
    exact ⟨_, _, bs, rfl, .inr (.inr ⟨0, HD.out, rfl, rfl, rfl⟩), HR.out, Kp.refl _ _⟩
  · obtain ⟨Z, hZ⟩ : ∃ Z : Nat, es.size = Z := ⟨_, rfl⟩
    have hz : 0 < Z := by
      rcases Nat.eq_zero_or_pos Z with h | h
      · exfalso
        apply h0
        rw [h] at hZ
        have h1 : es = #[] := Array.eq_empty_of_size_eq_zero hZ
        rw [← hL, h1]
        rfl
      · exact h
    have hlen := run_len_map' (ty := 3) mapU hes
    rw [hZ] at hlen
    have hzi : ((Z : Int) == 0) = false := W.eqF (by omega)
    obtain ⟨n, hn⟩ : ∃ n, min bs.length 15 = n := ⟨_, rfl⟩
    have hnl : n ≤ bs.length := by omega
    have hn15 : n ≤ 15 := by omega
    have hmin : min ((bs.length : Nat) : Int) 15 = (n : Int) := by omega
    have cH := c_held r bs w hr (by omega)
    have cP := c_peek r bs n w hr hl (by omega)
    unfold HeldPost at cH
    unfold PeekPost at cP
    rw [if_pos hnl, W.decT hnl] at cP
    have CH := Lib.hid cH
    have CP := Lib.hid cP
    have HR := Lib.hid hr
    have HT := Lib.hid hT
    have HZ := Lib.hid ht
    have HNN := Lib.hid hn
    have HB1 := Lib.hid hb1
    clear hT hr hes hL h0 cH cP
    go_enter Tryd.func54, Tryd.ntmps54
    go_upto_region 3 with (fail)
    go_cut [6] (fun s6 wz => s6 = .int .i64 n ∧ w = wz)
    case first =>
      go_upto_region 3 with (fail)
      by_cases hm15 : bs.length ≤ 15
      · have hm16 : ((bs.length : Nat) : Int) ≤ 15 := by omega
        have hnm : n = bs.length := by omega
        go_wp2_with (first
          | (go_at_call 62; go_must (refine CH.out.mono ?_); rintro e w2 ⟨rfl, rfl⟩))
        go_meet
        exact ⟨by rw [hnm], rfl⟩
      · have hm16 : ¬ ((bs.length : Nat) : Int) ≤ 15 := by omega
        have hnm : n = 15 := by omega
        go_wp2_with (first
          | (go_at_call 62; go_must (refine CH.out.mono ?_); rintro e w2 ⟨rfl, rfl⟩))
        go_meet
        exact ⟨by rw [hnm]; rfl, rfl⟩
    case rest =>
      obtain ⟨rfl, rfl⟩ := hcut
      go_wp2_with (first
        | (go_at_call 50; go_must (refine CP.out.mono ?_); rintro e w2 ⟨rfl, rfl⟩))
      go_loopg [9] n (fun g s9 wx => ∃ k : Nat, k + g = n + 1 ∧ 1 ≤ k ∧ s9 = .int .i64 k ∧ (∀ j, 0 < j → j < k → ¬ hit lens bs j) ∧ w = wx)
      case atStart => exact ⟨1, by omega, by omega, by go_num, fun j h1 h2 => by omega, rfl⟩
      case round =>
        obtain ⟨k, hkg, hk1, rfl, hno, rfl⟩ := hrel
        have HL := Lib.hid (show (bs.take n).length = n by rw [List.length_take]; omega)
        cases gk with
        | zero =>
          obtain rfl : k = n + 1 := by omega
          have hk : ¬ ((n + 1 : Nat) : Int) ≤ (n : Int) := by omega
          have hND := dec_none HZ.out (bs := bs) (fun k h1 h2 h3 => hno k h1 (by have := HNN.out; omega))
          rw [HNN.out] at hND
          have HND := Lib.hid hND
          have CR := Lib.hid (c_rev (bs.take n) n w (by rw [HL.out]; exact hn15) (by rw [HL.out]; exact Nat.le_refl _) (by
            rcases Nat.eq_zero_or_pos n with h | h
            · right; rw [h]; rfl
            · exact .inl h))
          have hml := mnum_lt (bs.take n)
          rw [HL.out] at hml
          have HTT := Lib.hid (show (bs.take n).take n = bs.take n from take_take (Nat.le_refl n))
          have CB := Lib.hid (c_begins t lens (mnum (bs.take n)) n w HZ.out HT.out.nums hn15 hml)
          unfold BegPost at CB
          clear hml hno hND hzi hz hlen hb1 hn
          rw [HTT.out] at CR
          go_wp2_with (first
            | (go_at_call 63; go_must (refine CR.out.mono ?_); rintro e w3 ⟨rfl, rfl⟩)
            | (go_at_call 64; go_must (refine CB.out.mono ?_); rintro e w4 ⟨⟨b4, rfl, hbb⟩, hh4, hk4⟩; have HB4 := Lib.hid hbb; clear hbb; cases b4))
          · go_ret2
            rcases HND.out with ⟨_, h2⟩ | ⟨j, h1, _, _⟩
            · exact absurd (HB4.out.2 h2) (by simp)
            · exact ⟨_, _, bs, rfl, .inr (.inr ⟨j, h1, rfl, rfl, rfl⟩), HR.out.kept hk4 (by simp), hk4.mono (by simp)⟩
          · go_ret2
            rcases HND.out with ⟨h1, _⟩ | ⟨j, _, _, h2⟩
            · exact ⟨_, _, bs, rfl, .inr (.inl ⟨h1, rfl, rfl, rfl⟩), HR.out.kept hk4 (by simp), hk4.mono (by simp)⟩
            · exact absurd (HB4.out.1 trivial) h2
        | succ g =>
          have hk : (k : Int) ≤ (n : Int) := by omega
          have h1 := HT.out.nums.fst k (by omega)
          have h2 := HT.out.nums.cnt k (by omega)
          have hlt := HT.out.nums.lt
          have hfl := fst_le HZ.out.kr k (by omega)
          have hfl15 : fst_ lens k + cnt lens k ≤ 32768 := Nat.le_trans hfl (Nat.pow_le_pow_right (n := 2) (by omega) (show _ ≤ 15 by omega))
          have hcl := mnum_lt (bs.take k)
          have hC15 : mnum (bs.take k) < 32768 := Nat.lt_of_lt_of_le hcl (Nat.pow_le_pow_right (n := 2) (by omega) (show _ ≤ 15 by rw [List.length_take]; omega))
          have CR := Lib.hid (c_rev (bs.take n) k w (by rw [HL.out]; exact hn15) (by rw [HL.out]; omega) (.inl (by omega)))
          rw [take_take (show k ≤ n by omega)] at CR
          clear hfl hcl hlen hb1 hn hzi hz
          obtain ⟨F, hF⟩ : ∃ F, fst_ lens k = F := ⟨_, rfl⟩
          obtain ⟨N, hN⟩ : ∃ N, cnt lens k = N := ⟨_, rfl⟩
          obtain ⟨C, hC⟩ : ∃ C, mnum (bs.take k) = C := ⟨_, rfl⟩
          have HH := Lib.hid (show hit lens bs k ↔ F ≤ C ∧ C < F + N by unfold hit; rw [hF, hN, hC])
          rw [hF] at h1 hfl15
          rw [hN] at h2 hfl15
          rw [hC] at hC15 CR
          have HC := Lib.hid hC
          clear hF hN hC
          by_cases hhit : F ≤ C ∧ C < F + N
          · have g1 : ¬ (C : Int) - (F : Int) < 0 := by omega
            have g1' : 0 ≤ (C : Int) - (F : Int) := by omega
            have g2 : (C : Int) - (F : Int) < (N : Int) := by omega
            obtain ⟨s, hd, hs, hcs⟩ := dec_hit HZ.out (bs := bs) (k := k) (by omega) (by omega) (by omega) (HH.out.2 hhit) (fun j h3 h4 => hno j h3 h4)
            have hcode : codeN lens s = C := by
              have h5 := code_mnum HZ.out (by omega) hs
              rw [hcs, HC.out] at h5
              unfold codeN
              rw [getD_of hs]
              exact h5.symm
            have HLK := Lib.hid (show ∀ w3, Kp [r] w w3 → (Instr.lookup 78 (.map (some b)) (.agg #[.int .i64 k, .int .u32 C]) false).run Tryd.prog w3 = .ok (.int .i64 s) w3 from fun w3 hk3 => by
              obtain ⟨b', h6, h7, h8⟩ := HT.out.mp
              have h9 : b' = b := by
                rw [HB1.out] at h6
                injection h6 with h6
                injection h6 with h6
                injection h6 with h6
                exact h6.symm
              subst h9
              have h10 := symL_in hs (by omega) lens.length (List.getElem?_eq_some_iff.1 hs).1
              rw [hcode] at h10
              exact (h7.kept hk3 (fun h => h8 (by rw [List.mem_singleton.1 h]; exact hrS))).lookup (symL_keys HZ.out _) (symL_apart HZ.out _) h10)
            have HB3 := Lib.hid (show ∀ w3, Kp [r] w w3 → w3.cell? ⟨t, 1, none⟩ = some (.map (some b)) ∧ t < w3.heap.size from fun w3 hk3 => ⟨(World.cell?_of_block (a := ⟨t, 1, none⟩) (hk3.block t hlt (by simpa using hne))).trans HB1.out, Nat.lt_of_lt_of_le hlt hk3.size⟩)
            have cT := c_take r bs k w HR.out (by omega) (by omega)
            unfold TakePost at cT
            rw [if_pos (show k ≤ bs.length by omega), if_pos (show k ≤ bs.length by omega), W.decT (show k ≤ bs.length by omega)] at cT
            have CT := Lib.hid cT
            have HD := Lib.hid hd
            clear cT hs hcs hcode hno hd
            go_wp2_with (first
              | (go_at_call 63; go_must (refine CR.out.mono ?_); rintro e w3 ⟨rfl, rfl⟩)
              | (go_at_call 40; go_must (refine CT.out.mono ?_); rintro e w3 ⟨rfl, hr3, hk3⟩; have hlk := HLK.out w3 hk3; have hb3' := (HB3.out w3 hk3).1; have hl3 := (HB3.out w3 hk3).2))
            go_ret2
            exact ⟨_, _, bs.drop k, rfl, .inl ⟨s, k, HD.out, rfl, rfl, rfl⟩, hr3, hk3⟩
          · by_cases hge : F ≤ C
            · have g1' : 0 ≤ (C : Int) - (F : Int) := by omega
              have g2 : ¬ (C : Int) - (F : Int) < (N : Int) := by omega
              go_wp2_with (first
                | (go_at_call 63; go_must (refine CR.out.mono ?_); rintro e w3 ⟨rfl, rfl⟩))
              go_roundg g
              case measure => omega
              case rel => exact ⟨k + 1, by omega, by omega, by go_num, fun j h3 h4 => (by rcases Nat.lt_or_ge j k with h5 | h5; exact hno j h3 h5; rw [show j = k by omega]; exact fun h6 => hhit (HH.out.1 h6)), rfl⟩
            · have g1' : ¬ 0 ≤ (C : Int) - (F : Int) := by omega
              go_wp2_with (first
                | (go_at_call 63; go_must (refine CR.out.mono ?_); rintro e w3 ⟨rfl, rfl⟩))
              go_roundg g
              case measure => omega
              case rel => exact ⟨k + 1, by omega, by omega, by go_num, fun j h3 h4 => (by rcases Nat.lt_or_ge j k with h5 | h5; exact hno j h3 h5; rw [show j = k by omega]; exact fun h6 => hhit (HH.out.1 h6)), rfl⟩
end Go.Proofs.YtjjcemdoefigkaaDoor.Hf
