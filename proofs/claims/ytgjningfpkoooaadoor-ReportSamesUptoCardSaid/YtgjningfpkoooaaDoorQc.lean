/- Report: number, line. -/
import Derived.Test.YtgjningfpkoooaaDoorQb
import Derived.Test.YtgjningfpkoooaaDoorShelb
namespace Go.Proofs.YtgjningfpkoooaaDoor.Ro
set_option linter.unusedVariables false
set_option linter.unusedSimpArgs false
open Go.RowKit Go.Proofs.YtgjningfpkoooaaDoor.W

def numT (n : Int) : List UInt8 := if okN n then numL n else []
def NumTIs (w : World) (n : Int) (e : Ending) (w' : World) : Prop := e = .returned (.tuple #[.string ⟨(numT n).toArray⟩, .bool (okN n)]) ∧ Below w.heap.size w w'
theorem okP_one (n : Int) : okP [n] = okN n := by simp [okP, okN]
theorem text_one (n : Int) : textP [n] = if okN n then 47 :: numL n else [] := by
  unfold textP
  rw [okP_one]
  split
  · simp [nats, txt, numL]
  · rfl
theorem trim_one (n : Int) : Lib.trimPrefix (textP [n]) [47] = numT n := by
  rw [text_one]
  unfold numT
  split
  · simp [Lib.trimPrefix, Lib.hasPrefix, List.isPrefixOf]
  · simp [Lib.trimPrefix, Lib.hasPrefix, List.isPrefixOf]
set_option maxHeartbeats 2000000 in
set_option maxRecDepth 100000 in
theorem c_number (n : Int) (w : World) (hG : Gw w) : Calls Tryd.prog 41 #[.int .i64 n] w (NumTIs w n) := by
  have HB0 := Lib.hid (show Below w.heap.size w (w.alloc (.cells #[.int .i64 n] 3)) from (Below.refl _ _).alloc (Nat.le_refl _) _)
  have C1 := Lib.hid (c_text (some ⟨w.heap.size, 0, none⟩) 1 1 [n] (w.alloc (.cells #[.int .i64 n] 3)) rfl (by omega) (rv_lit rfl) (hG.below HB0.out hG.sz))
  go_enter Tryd.func41, Tryd.ntmps41
  go_wp2_with (first
    | (go_at_call 12; go_must (refine C1.out.mono ?_); rintro e w1 ⟨he, hb⟩; rw [okP_one] at he; obtain ⟨S, hS⟩ : ∃ S : ByteArray, (⟨(textP [n]).toArray⟩ : ByteArray) = S := ⟨_, rfl⟩; rw [hS] at he; subst he; have HS := Lib.hid hS; have HB1 := Lib.hid (HB0.out.trans (hb.mono HB0.out.size)); clear hb hS)
    | (go_at_call 61; go_must (refine (Tryd.strings_TrimPrefix S ⟨#[47]⟩ w1).mono ?_); rintro e w2 ⟨he, rfl⟩; rw [← HS.out] at he; have h9 := trim_one n; rw [show (⟨(textP [n]).toArray⟩ : ByteArray).data.toList = textP [n] from rfl, show (⟨#[47]⟩ : ByteArray).data.toList = [47] from rfl, h9] at he; subst he))
  go_ret2
  exact ⟨rfl, HB1.out⟩
set_option maxHeartbeats 2000000 in
set_option maxRecDepth 100000 in
theorem r_number (n : Int) (w : World) : Calls Tryd.prog 43 #[.int .i64 n] w (NumTIs w n) := by
  have HB0 := Lib.hid (show Below w.heap.size w (w.alloc (.cells #[.int .i64 n] 3)) from (Below.refl _ _).alloc (Nat.le_refl _) _)
  have C1 := Lib.hid (r_text (some ⟨w.heap.size, 0, none⟩) 1 1 [n] (w.alloc (.cells #[.int .i64 n] 3)) rfl (by omega) (rv_lit rfl))
  obtain ⟨OK, hok⟩ : ∃ b, okN n = b := ⟨_, rfl⟩
  have HOK := Lib.hid hok
  clear hok
  cases OK with
  | false =>
    go_enter Tryd.func43, Tryd.ntmps43
    go_wp2_with (first
      | (go_at_call 13; go_must (refine C1.out.mono ?_); rintro e w1 ⟨he, hb⟩; rw [okP_one, HOK.out] at he; obtain ⟨S, hS⟩ : ∃ S : ByteArray, (⟨(textP [n]).toArray⟩ : ByteArray) = S := ⟨_, rfl⟩; rw [hS] at he; subst he; have HB1 := Lib.hid (HB0.out.trans (hb.mono HB0.out.size)); clear hb hS))
    go_ret2
    refine ⟨?_, HB1.out⟩
    unfold numT
    rw [HOK.out]
    rfl
  | true =>
    go_enter Tryd.func43, Tryd.ntmps43
    go_upto_region 4 with (first
      | (go_at_call 13; go_must (refine C1.out.mono ?_); rintro e w1 ⟨he, hb⟩; rw [okP_one, HOK.out] at he; obtain ⟨S, hS⟩ : ∃ S : ByteArray, (⟨(textP [n]).toArray⟩ : ByteArray) = S := ⟨_, rfl⟩; rw [hS] at he; subst he; have HS := Lib.hid hS; have HB1 := Lib.hid (HB0.out.trans (hb.mono HB0.out.size)); clear hb hS))
    have hsz : 1 ≤ S.size := by rw [← HS.out, size_str, text_one, HOK.out]; simp
    go_wp2_with (fail)
    go_ret2
    have hb : S.extract 1 S.size = ⟨(numL n).toArray⟩ := by
      rw [← HS.out, text_one, HOK.out, if_pos rfl]
      apply ByteArray.ext
      apply Array.ext'
      rw [ByteArray.data_extract, Array.toList_extract]
      simp [List.extract, size_str]
    refine ⟨?_, HB1.out⟩
    unfold numT
    rw [HOK.out, if_pos rfl, ← hb]
    rfl
/-- Words as they lie. -/
def strs (ws : List (List UInt8)) : List Value := ws.map fun w => Value.string ⟨w.toArray⟩
def LineIs (w : World) (ok : Bool) (ws : List (List UInt8)) (e : Ending) (w' : World) : Prop := e = .returned (.tuple #[.string ⟨(Lib.join ws [32] ++ [10]).toArray⟩, .bool ok]) ∧ Below w.heap.size w w'
theorem str_snoc (l r : List UInt8) : (⟨l.toArray⟩ : ByteArray) ++ ⟨r.toArray⟩ = ⟨(l ++ r).toArray⟩ := by
  apply ByteArray.ext
  apply Array.ext'
  simp
set_option maxHeartbeats 2000000 in
set_option maxRecDepth 100000 in
theorem c_line (ok : Bool) (bk n : Nat) (ws : List (List UInt8)) (w : World) (hr : RV w (some ⟨bk, 0, none⟩) (strs ws)) (hlt : bk < w.heap.size) (hn : ws.length = n) (hm : n ≤ 10) (hl : (Lib.join ws [32]).length ≤ 100000000000000) : Calls Tryd.prog 42 #[.bool ok, .slice (some ⟨bk, 0, none⟩) n n] w (LineIs w ok ws) := by
  have C1 := Tryd.strings_Join bk 0 n (ws.map fun w => ⟨w.toArray⟩) ⟨#[32]⟩ w (fun j x hx => by
      rw [List.getElem?_map] at hx
      obtain ⟨y, hy, rfl⟩ := Option.map_eq_some_iff.1 hx
      obtain ⟨b, off, h1, _, h3⟩ := hr j (.string ⟨y.toArray⟩) (by unfold strs; rw [List.getElem?_map, hy]; rfl)
      injection h1 with h1
      injection h1 with h1 h2
      subst h1 h2
      exact h3) hlt (by rw [List.length_map]; omega) (by rw [List.length_map]; omega) (by
      rw [show (ws.map fun w => (⟨w.toArray⟩ : ByteArray)).map (·.data.toList) = ws by rw [List.map_map]; exact List.map_id' ws]
      show (Lib.join ws [32]).length ≤ _
      omega)
  rw [List.length_map, hn, show (ws.map fun w => (⟨w.toArray⟩ : ByteArray)).map (·.data.toList) = ws by rw [List.map_map]; exact List.map_id' ws, show (⟨#[32]⟩ : ByteArray).data.toList = [32] from rfl] at C1
  have D1 := Lib.hid C1
  have HL := Lib.hid hl
  clear C1 hl hr hlt hn hm
  go_enter Tryd.func42, Tryd.ntmps42
  go_wp2_with (first
    | (go_at_call 62; go_must (refine D1.out.mono ?_); rintro e w1 ⟨he, hb⟩; obtain ⟨S, hS⟩ : ∃ S : ByteArray, (⟨(Lib.join ws [32]).toArray⟩ : ByteArray) = S := ⟨_, rfl⟩; rw [hS] at he; subst he; have HS := Lib.hid hS; have HB1 := Lib.hid hb; have hsz : S.size + 1 ≤ 140737488355328 := (by rw [← HS.out, size_str]; have := HL.out; omega); clear hb hS))
  go_ret2
  refine ⟨?_, HB1.out⟩
  rw [← str_snoc, HS.out]
  rfl
end Go.Proofs.YtgjningfpkoooaaDoor.Ro
