/- Report: words of a line, both sides. -/
import Derived.Test.YtgjningfpkoooaaDoorQg
namespace Go.Proofs.YtgjningfpkoooaaDoor.Ro
set_option linter.unusedVariables false
set_option linter.unusedSimpArgs false
open Go.RowKit Go.Proofs.YtgjningfpkoooaaDoor.W

theorem strE : El Tryd.prog 58 9 (.string ⟨#[]⟩) 16 := ⟨Tryd.underlying58, by kernel_rfl, rfl⟩
/-- What the library's Split tells. -/
def SplIs (w : World) (s : List UInt8) (e : Ending) (w' : World) : Prop := ∃ (n : Nat), e = .returned (.slice (some ⟨w.heap.size, 0, none⟩) n n) ∧ (spc 32 s).length = n ∧ w' = w.alloc (.cells (strs (spc 32 s)).toArray 9)
theorem c_split32 (s : ByteArray) (hs : s.size < 4294967281) (w : World) (hG : Gw w) : Calls Tryd.prog 36 #[.string s, .string ⟨#[32]⟩] w (SplIs w s.data.toList) := by
  obtain ⟨m, hm⟩ := hG.mx
  refine (Tryd.strings_Split s ⟨#[32]⟩ m w hs hm (by decide)).mono ?_
  rintro e w' ⟨rfl, rfl⟩
  have hsp : (Lib.splitB ⟨#[32]⟩ 0 (Lib.countB s ⟨#[32]⟩) s).map (·.data.toList) = spc 32 s.data.toList := by
    rw [Lib.splitB_data, ← spl_sp]
    rfl
  have hl : (Lib.splitB ⟨#[32]⟩ 0 (Lib.countB s ⟨#[32]⟩) s).length = Lib.countB s ⟨#[32]⟩ + 1 := by
    have h1 := congrArg List.length hsp
    rw [List.length_map, spl_cnt 32 _ _ (Nat.le_refl _)] at h1
    rw [h1]
  have hst : (Lib.splitB ⟨#[32]⟩ 0 (Lib.countB s ⟨#[32]⟩) s).map Value.string = strs (spc 32 s.data.toList) := by
    rw [← hsp]
    unfold strs
    rw [List.map_map]
    exact List.map_congr_left fun x _ => by simp
  refine ⟨_, rfl, ?_, ?_⟩
  · rw [← hsp, List.length_map, hl]
  · rw [← hst]
def WordsIs (w : World) (s : List UInt8) (e : Ending) (w' : World) : Prop := ∃ A n c, e = .returned (.slice A n c) ∧ (spc 32 s).length = n ∧ n ≤ c ∧ w'.ownsRow w.heap.size 9 1 (.slice A n c) n (strs (spc 32 s)) ∧ Below w.heap.size w w'
theorem strs_one (ws : List (List UInt8)) : ∀ u ∈ strs ws, u.oneCell' = true := by
  intro u hu
  obtain ⟨x, _, rfl⟩ := List.mem_map.1 hu
  rfl
theorem extract_str {S : ByteArray} {a b : Nat} : S.extract a b = ⟨((S.data.toList.drop a).take (b - a)).toArray⟩ := by
  apply ByteArray.ext
  apply Array.ext'
  rw [ByteArray.data_extract, Array.toList_extract]
/-- Where the reader of words stands. -/
def Cut (s : List UInt8) (i f : Nat) (ws : List (List UInt8)) : Prop := spc 32 s = ws ++ spc 32 (s.drop f) ∧ f ≤ i ∧ ∀ c ∈ (s.drop f).take (i - f), c ≠ 32
theorem Cut.go {s : List UInt8} {i f : Nat} {ws : List (List UInt8)} (h : Cut s i f ws) {c : UInt8} (hc : s[i]? = some c) (h32 : c ≠ 32) : Cut s (i + 1) f ws := by
  refine ⟨h.1, by have := h.2.1; omega, fun x hx => ?_⟩
  have hd : (s.drop f)[i - f]? = some c := by rw [List.getElem?_drop, show f + (i - f) = i by have := h.2.1; omega]; exact hc
  obtain ⟨q1, q2⟩ := List.getElem?_eq_some_iff.1 hd
  rw [show i + 1 - f = (i - f) + 1 by have := h.2.1; omega, List.take_succ_eq_append_getElem q1, q2] at hx
  rcases List.mem_append.1 hx with hx | hx
  · exact h.2.2 x hx
  · rw [List.mem_singleton.1 hx]; exact h32
theorem Cut.word {s : List UInt8} {i f : Nat} {ws : List (List UInt8)} (h : Cut s i f ws) (hc : s[i]? = some 32) : Cut s (i + 1) (i + 1) (ws ++ [(s.drop f).take (i - f)]) := by
  have hd : (s.drop f)[i - f]? = some 32 := by rw [List.getElem?_drop, show f + (i - f) = i by have := h.2.1; omega]; exact hc
  obtain ⟨q1, q2⟩ := List.getElem?_eq_some_iff.1 hd
  refine ⟨?_, Nat.le_refl _, fun x hx => by rw [Nat.sub_self, List.take_zero] at hx; cases hx⟩
  have e : s.drop f = (s.drop f).take (i - f) ++ 32 :: s.drop (i + 1) := by
    conv => lhs; rw [← List.take_append_drop (i - f) (s.drop f)]
    rw [List.drop_eq_getElem_cons q1, q2, List.drop_drop, show f + (i - f + 1) = i + 1 by have := h.2.1; omega]
  rw [h.1, e, spc_cut 32 _ _ h.2.2, ← e, List.append_assoc]
  rfl
theorem Cut.last {s : List UInt8} {i f : Nat} {ws : List (List UInt8)} (h : Cut s i f ws) (hi : i = s.length) : ws ++ [(s.drop f).take (i - f)] = spc 32 s := by
  have e : (s.drop f).take (i - f) = s.drop f := List.take_of_length_le (by rw [List.length_drop]; omega)
  have h2 := spc_words 32 (s.drop f) [] (by rw [← e]; exact h.2.2) (by simp)
  rw [List.flatMap_nil, List.append_nil] at h2
  rw [h.1, h2, e]
theorem Cut.few {s : List UInt8} {i f : Nat} {ws : List (List UInt8)} (h : Cut s i f ws) : ws.length ≤ s.length + 1 := by
  have h1 := congrArg List.length h.1
  rw [List.length_append, spl_cnt 32 _ _ (Nat.le_refl _)] at h1
  have h2 : ∀ t : List UInt8, (spc 32 t).length ≤ t.length + 1 := by
    intro t
    induction t with
    | nil => simp [spc]
    | cons c t ih =>
      unfold spc
      split
      · simp; omega
      · split
        · rename_i h9; rw [h9] at ih; simp at ih ⊢; omega
        · simp
  have h3 := h2 s
  rw [spl_cnt 32 _ _ (Nat.le_refl _)] at h3
  omega
set_option maxHeartbeats 8000000 in
set_option maxRecDepth 100000 in
theorem r_words (s : ByteArray) (w : World) (hs : s.size ≤ 1048576000) : Calls Tryd.prog 48 #[.string s] w (WordsIs w s.data.toList) := by
  obtain ⟨N, hN⟩ : ∃ N, s.size = N := ⟨_, rfl⟩
  have HN := Lib.hid (show s.data.toList.length = N by rw [← Lib.size_eq]; exact hN)
  rw [hN] at hs
  go_enter Tryd.func48, Tryd.ntmps48
  go_wp2_with (fail)
  go_loopg [3, 4, 5] (N + 1) (fun g s3 s4 s5 wx => ∃ (i f m : Nat) (A : Option Addr) (c : Nat) (ws : List (List UInt8)), i + g = N + 1 ∧ s5 = .int .i64 (i : Nat) ∧ s4 = .int .i64 (f : Nat) ∧ s3 = .slice A m c ∧ f ≤ i ∧ m ≤ i ∧ Hid (ws.length = m ∧ wx.ownsRow w.heap.size 9 1 (.slice A m c) m (strs ws) ∧ Below w.heap.size w wx ∧ ((i ≤ N ∧ Cut s.data.toList i f ws) ∨ (i = N + 1 ∧ ws = spc 32 s.data.toList))))
  case atStart => exact ⟨0, 0, 0, none, 0, [], by omega, rfl, rfl, rfl, by omega, by omega, Lib.hid ⟨rfl, World.ownsRow_nil _ _ _ _, Below.refl _ _, .inl ⟨by omega, rfl, by omega, fun x hx => by rw [Nat.sub_self, List.take_zero] at hx; cases hx⟩⟩⟩
  case round =>
    obtain ⟨i, f, m, A, c, ws, hig, rfl, rfl, rfl, hfi, hm, hst⟩ := hrel
    cases gk with
    | zero =>
      have hk : ¬ (i : Int) ≤ (N : Int) := by omega
      go_wp2_with (fail)
      go_ret
      obtain ⟨q1, q2, q3, q4⟩ := hst.out
      rcases q4 with ⟨h, _⟩ | ⟨_, rfl⟩
      · omega
      · obtain ⟨A', c', e, hc⟩ := slice_form q2
        injection e with e1 _ e2
        subst e1 e2
        exact ⟨A, m, c, rfl, q1, hc, q2, q3⟩
    | succ g =>
      have hk : (i : Int) ≤ (N : Int) := by omega
      have hk0 : (0 : Int) ≤ (i : Int) := by omega
      have hf0 : (0 : Int) ≤ (f : Int) := by omega
      have hfi2 : (f : Int) ≤ (i : Int) := by omega
      have HCUT := Lib.hid (show Cut s.data.toList i f ws from by
        rcases hst.out.2.2.2 with ⟨_, h⟩ | ⟨h, _⟩
        · exact h
        · omega)
      have HO0 := Lib.hid hst.out.2.1
      have HB0 := Lib.hid hst.out.2.2.1
      have HL0 := Lib.hid hst.out.1
      have hz0 : w.heap.size ≤ wr.heap.size := HB0.out.size
      have HEX := Lib.hid (extract_str (S := s) (a := f) (b := i))
      have hone : ∀ z ∈ (#[Value.string (s.extract f i)] : Array Value).toList, z.oneCell' = true := fun z hz => by rw [List.mem_singleton.1 hz]; rfl
      have h63 : m + 1 ≤ maxLen := by unfold maxLen; omega
      have hbb : (m + 1) * 16 ≤ 140737488355328 := by omega
      have hz1 : w.heap.size ≤ (wr.alloc (.cells #[.string (s.extract f i)] 9)).heap.size := Nat.le_trans hz0 (by simp)
      clear hst
      by_cases hiN : i = N
      · have HI := Lib.hid hiN
        obtain rfl : N = i := hiN.symm
        have i1 : ((N : Int) == (N : Int)) = true := W.eqT rfl
        have hin : (N : Int) + 1 ≤ 1048576001 := by omega
        go_wp2_with (at_builtin; go_must (refine wpList_ap strE rfl (.tmp 22) (.tmp 27) (by rfl) (by rfl) (HO0.out.alloc (.cells #[.string (s.extract f N)] 9)) (by rfl) rfl (RV.new (w := wr) #[.string (s.extract f N)] 9) hone h63 hbb hz1 ?_); intro A2 c2 w2 hown hgrow _ hle; have HO2 := Lib.hid hown; have HB2 := Lib.hid ((HB0.out.alloc hz0 (.cells #[.string (s.extract f N)] 9)).grown hgrow hz1 (fun k hk => (HO0.out.lt k hk).1)); clear hown hgrow hle)
        go_roundg g
        case measure => omega
        case rel =>
          refine ⟨N + 1, N + 1, m + 1, A2, c2, ws ++ [(s.data.toList.drop f).take (N - f)], by omega, by go_num, by go_num, rfl, by omega, by omega, Lib.hid ⟨by rw [List.length_append, HL0.out]; rfl, ?_, HB2.out, .inr ⟨rfl, HCUT.out.last HN.out.symm⟩⟩⟩
          have h9 := HO2.out
          rw [HEX.out] at h9
          unfold strs at h9 ⊢
          rw [List.map_append]
          exact h9
      · have HI := Lib.hid hiN
        have i1 : ((i : Int) == (N : Int)) = false := W.eqF (by omega)
        have hi2 : (i : Int) < (N : Int) := by omega
        have hin : (i : Int) + 1 ≤ 1048576001 := by omega
        obtain ⟨ch, hch⟩ : ∃ c, s.data.toList[i]? = some c := ⟨_, List.getElem?_eq_getElem (by rw [HN.out]; omega)⟩
        obtain ⟨x, hx⟩ : ∃ x, ch.toNat = x := ⟨_, rfl⟩
        have hix : (s[i]'(by omega)).toNat = x := by rw [ba_get hch]; exact hx
        have HCH := Lib.hid hch
        have HX := Lib.hid hx
        have hx256 : x < 256 := by rw [← hx]; exact ch.toNat_lt
        clear hch hx
        by_cases h32 : x = 32
        · have i2 : ((x : Int) == 32) = true := W.eqT (by omega)
          have HCE := Lib.hid (show ch = 32 from by apply UInt8.toNat_inj.1; rw [HX.out, h32]; rfl)
          clear h32
          go_wp2_with (at_builtin; go_must (refine wpList_ap strE rfl (.tmp 22) (.tmp 27) (by rfl) (by rfl) (HO0.out.alloc (.cells #[.string (s.extract f i)] 9)) (by rfl) rfl (RV.new (w := wr) #[.string (s.extract f i)] 9) hone h63 hbb hz1 ?_); intro A2 c2 w2 hown hgrow _ hle; have HO2 := Lib.hid hown; have HB2 := Lib.hid ((HB0.out.alloc hz0 (.cells #[.string (s.extract f i)] 9)).grown hgrow hz1 (fun k hk => (HO0.out.lt k hk).1)); clear hown hgrow hle)
          go_roundg g
          case measure => omega
          case rel =>
            refine ⟨i + 1, i + 1, m + 1, A2, c2, ws ++ [(s.data.toList.drop f).take (i - f)], by omega, by go_num, by go_num, rfl, by omega, by omega, Lib.hid ⟨by rw [List.length_append, HL0.out]; rfl, ?_, HB2.out, .inl ⟨by omega, HCUT.out.word (by rw [HCH.out, HCE.out])⟩⟩⟩
            have h9 := HO2.out
            rw [HEX.out] at h9
            unfold strs at h9 ⊢
            rw [List.map_append]
            exact h9
        · have i2 : ((x : Int) == 32) = false := W.eqF (by omega)
          have HCE := Lib.hid (show ch ≠ 32 from by rintro rfl; exact h32 HX.out.symm)
          clear h32
          go_wp2_with (fail)
          go_roundg g
          case measure => omega
          case rel => exact ⟨i + 1, f, m, A, c, ws, by omega, by go_num, rfl, rfl, by omega, by omega, Lib.hid ⟨HL0.out, HO0.out, HB0.out, .inl ⟨by omega, HCUT.out.go HCH.out HCE.out⟩⟩⟩
end Go.Proofs.YtgjningfpkoooaaDoor.Ro
