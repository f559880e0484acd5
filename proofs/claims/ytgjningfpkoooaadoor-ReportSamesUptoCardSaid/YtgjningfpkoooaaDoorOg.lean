/- route.Text. -/
import Derived.Test.YtgjningfpkoooaaDoorOf
namespace Go.Proofs.YtgjningfpkoooaaDoor.Ro
set_option linter.unusedVariables false
set_option linter.unusedSimpArgs false
open Go.RowKit Go.Proofs.YtgjningfpkoooaaDoor.W

def is64 (l : List Int) : List Value := l.map (Value.int .i64)
theorem dec_len : ∀ (k u : Nat), u < 10 ^ (k + 1) → (Lib.decDigits u).length ≤ k + 1 := by
  intro k
  induction k with
  | zero => intro u h; rw [dec_step, if_pos (by omega)]; simp
  | succ k ih =>
    intro u h
    rw [dec_step]
    split
    · simp
    · rw [List.length_append]
      have := ih (u / 10) (by rw [Nat.pow_succ] at h; omega)
      simp
      omega
theorem dec_len10 {u : Nat} (h : u ≤ top) : (Lib.decDigits u).length ≤ 10 := dec_len 9 u (by have : top = 2147483647 := rfl; omega)
/-- A path that has a text, and the text. -/
def okP (l : List Int) : Bool := l.all fun n => decide (0 ≤ n ∧ n ≤ 2147483647)
def nats (l : List Int) : List Nat := l.map Int.toNat
def textP (l : List Int) : List UInt8 := if okP l then txt (nats l) else []
def preT (l : List Int) : List UInt8 := l.flatMap fun n => 47 :: Lib.decDigits n.toNat
theorem preT_len : ∀ (l : List Int), (∀ n ∈ l, 0 ≤ n ∧ n ≤ 2147483647) → (preT l).length ≤ 11 * l.length
  | [], _ => by simp [preT]
  | n :: l, h => by
    have h1 := preT_len l fun m hm => h m (List.mem_cons_of_mem _ hm)
    have h2 := h n List.mem_cons_self
    have h3 := dec_len10 (u := n.toNat) (by have : top = 2147483647 := rfl; omega)
    unfold preT at h1 ⊢
    rw [List.flatMap_cons, List.length_append, List.length_cons, List.length_cons]
    omega
theorem preT_take {l : List Int} {i : Nat} {x : Int} (h : l[i]? = some x) : preT (l.take (i + 1)) = preT (l.take i) ++ [47] ++ Lib.decDigits x.toNat := by
  obtain ⟨h1, h2⟩ := List.getElem?_eq_some_iff.1 h
  unfold preT
  rw [List.take_succ_eq_append_getElem h1, h2, List.flatMap_append]
  simp
theorem okP_iff (l : List Int) : okP l = true ↔ ∀ n ∈ l, 0 ≤ n ∧ n ≤ 2147483647 := by
  unfold okP
  rw [List.all_eq_true]
  simp
theorem textP_pre {l : List Int} (h : ∀ n ∈ l, 0 ≤ n ∧ n ≤ 2147483647) : textP l = if l = [] then [47] else preT l := by
  unfold textP
  rw [if_pos ((okP_iff l).2 h)]
  cases l with
  | nil => rfl
  | cons n l =>
    rw [if_neg (by simp)]
    show (nats (n :: l)).flatMap _ = _
    unfold nats preT
    rw [List.flatMap_map]
theorem own_same {w w' : World} {base : Nat} {e : TypeId} {size n : Nat} {v : Value} {xs : List Value} (h : w.ownsRow base e size v n xs) (hk : ∀ k, v.ownBlock = some k → w'.heap[k]? = w.heap[k]?) : w'.ownsRow base e size v n xs := by
  refine ⟨h.1, ?_⟩
  rcases h.2 with h2 | ⟨g, cap, cur, rfl, hb, hg, rest⟩
  · exact .inl h2
  · exact .inr ⟨g, cap, cur, rfl, hb, (hk g rfl).trans hg, rest⟩
theorem bd_keep {T e : TypeId} {B b : Nat} {p : Value} {bs : List Value} {w w' : World} (h : Lib.BuilderAt T e B b p bs w) (hb : Below w.heap.size w w') : Lib.BuilderAt T e B b p bs w' := by
  have hlt := h.lt
  obtain ⟨h1, v, h2, h3, h4⟩ := h
  exact ⟨h1, v, (hb.block b hlt).trans h2, own_same h3 (fun k hk => hb.block k (h3.lt k hk).2), h4⟩
theorem cells_byte (l : List UInt8) : Lib.byteCells l ++ [Value.int .u8 47] = Lib.byteCells (l ++ [47]) := by simp [Lib.byteCells]
theorem cells_str (l r : List UInt8) : Lib.byteCells l ++ Lib.strCells ⟨r.toArray⟩ = Lib.byteCells (l ++ r) := by simp [Lib.byteCells, Lib.strCells]
theorem size_str (r : List UInt8) : (⟨r.toArray⟩ : ByteArray).size = r.length := by show r.toArray.size = _; simp
theorem cells_len (l : List UInt8) : (Lib.byteCells l).length = l.length := by simp [Lib.byteCells]
def TextIs (w : World) (l : List Int) (e : Ending) (w' : World) : Prop := e = .returned (.tuple #[.string ⟨(textP l).toArray⟩, .bool (okP l)]) ∧ Below w.heap.size w w'
abbrev Bd (w : World) (B : Nat) (l : List UInt8) : Prop := Lib.IsBuilder 50 5 B B (Lib.byteCells l) w
set_option maxHeartbeats 8000000 in
set_option maxRecDepth 100000 in
theorem c_text (A : Option Addr) (L c : Nat) (l : List Int) (w : World) (hL : l.length = L) (hL2 : L ≤ 1000000000000) (hr : RV w A (is64 l)) (hG : Gw w) :
    Calls Tryd.prog 12 #[.slice A L c] w (TextIs w l) := by
  have HL := Lib.hid hL
  have HR := Lib.hid hr
  have HG := Lib.hid hG
  have HB0 := Lib.hid (show Bd (w.alloc (.cells #[.pointer none, .slice none 0 0] 50)) w.heap.size [] from Lib.fresh_isBuilder 50 5 w)
  have HW0 := Lib.hid (show Below w.heap.size w (w.alloc (.cells #[.pointer none, .slice none 0 0] 50)) from (Below.refl _ _).alloc (Nat.le_refl _) _)
  clear hL hr hG
  go_enter Tryd.func12, Tryd.ntmps12
  go_upto_block 0 with (fail)
  change Code.wp _ _ _ _ (w.alloc (.cells #[.pointer none, .slice none 0 0] 50))
  generalize w.alloc (.cells #[.pointer none, .slice none 0 0] 50) = w1 at *
  generalize hB : w.heap.size = B at *
  have HB := Lib.hid hB
  clear hB
  go_cut [] (fun wz => Hid (Bd wz B (preT l) ∧ Below B w wz ∧ ∀ n ∈ l, 0 ≤ n ∧ n ≤ 2147483647))
  case first =>
    go_wp2_with (fail)
    go_loopg [9] L (fun g s9 wx => ∃ i : Nat, i + g = L ∧ s9 = .int .i64 (i : Nat) ∧ Hid (Bd wx B (preT (l.take i)) ∧ Below B w wx ∧ ∀ n ∈ l.take i, 0 ≤ n ∧ n ≤ 2147483647))
    case atStart => exact ⟨0, by omega, rfl, Lib.hid ⟨HB0.out, HW0.out, fun n hn => by rw [List.take_zero] at hn; cases hn⟩⟩
    case round =>
      obtain ⟨i, hig, rfl, hst⟩ := hrel
      cases gk with
      | zero =>
        obtain rfl : i = L := by omega
        have hk : ¬ (i : Int) < (i : Int) := by omega
        go_wp2_with (fail)
        go_meet
        have h9 := hst.out
        rw [← HL.out, List.take_length] at h9
        exact Lib.hid h9
      | succ g =>
        have hk : (i : Int) < (L : Int) := by omega
        have hk0 : (0 : Int) ≤ (i : Int) := by omega
        obtain ⟨x, hx⟩ : ∃ x, l[i]? = some x := ⟨_, List.getElem?_eq_getElem (by rw [HL.out]; omega)⟩
        obtain ⟨gb, off, rfl, hlt, c0⟩ := (HR.out.below (w' := wr) (by rw [HB.out]; exact hst.out.2.1)) i (.int .i64 x) (by unfold is64; rw [List.getElem?_map, hx]; rfl)
        have HX := Lib.hid hx
        clear hx
        by_cases hx0 : x < 0
        · have HBAD := Lib.hid (show okP l = false from by
            cases ho : okP l with
            | false => rfl
            | true => have := ((okP_iff l).1 ho) x (List.mem_of_getElem? HX.out); omega)
          go_wp2_with (fail)
          go_ret2
          refine ⟨?_, by rw [HB.out]; exact hst.out.2.1⟩
          unfold textP
          rw [HBAD.out]
          rfl
        · by_cases hx1 : x > 2147483647
          · have HBAD := Lib.hid (show okP l = false from by
              cases ho : okP l with
              | false => rfl
              | true => have := ((okP_iff l).1 ho) x (List.mem_of_getElem? HX.out); omega)
            go_wp2_with (fail)
            go_ret2
            refine ⟨?_, by rw [HB.out]; exact hst.out.2.1⟩
            unfold textP
            rw [HBAD.out]
            rfl
          · obtain ⟨u, rfl⟩ : ∃ u : Nat, x = (u : Int) := ⟨x.toNat, by omega⟩
            have hu : u ≤ top := by show u ≤ 2147483647; omega
            have HPL := Lib.hid (show (preT (l.take i)).length ≤ 11 * 1000000000000 by
              have h1 := preT_len _ hst.out.2.2
              have h2 : (l.take i).length ≤ L := by rw [List.length_take, HL.out]; omega
              omega)
            have C1 := Lib.hid (c_wbyte B B (Lib.byteCells (preT (l.take i))) 47 wr hst.out.1 (by rw [cells_len]; have := HPL.out; omega) (by have h1 := hst.out.2.1.size; rw [HB.out] at h1; exact h1))
            go_wp2_with (first
              | (go_at_call 31; go_must (refine C1.out.mono ?_); rintro e w2 ⟨rfl, h1, h2⟩; have HB2 := Lib.hid h1; have HW2 := Lib.hid (hst.out.2.1.trans h2); have HG2 := Lib.hid (HG.out.below (hst.out.2.1.trans h2) (by rw [← HB.out]; exact HG.out.sz)); have C2 := Lib.hid (c_itoa u hu w2 HG2.out); clear h1 h2)
              | (go_at_call 33; go_must (refine C2.out.mono ?_); rintro e w3 ⟨rfl, h1⟩; have HB3 := Lib.hid (bd_keep HB2.out h1); have hz2 := HW2.out.size; rw [HB.out] at hz2; have HW3 := Lib.hid (HW2.out.trans (h1.mono hz2)); have hz3 := HW3.out.size; rw [HB.out] at hz3; have C3 := Lib.hid (c_wstring B B _ ⟨(Lib.decDigits u).toArray⟩ w3 (.inr HB3.out) (by rw [List.length_append, cells_len, size_str]; have h4 := HPL.out; have h5 := dec_len10 hu; simp; omega) hz3); clear h1)
              | (go_at_call 32; go_must (refine C3.out.mono ?_); rintro e w4 ⟨rfl, h1, h2⟩; have HB4 := Lib.hid h1; have HW4 := Lib.hid (HW3.out.trans h2); clear h1 h2))
            go_roundg g
            case measure => omega
            case rel =>
              refine ⟨i + 1, by omega, by go_num, Lib.hid ⟨.inr ?_, HW4.out, fun n hn => ?_⟩⟩
              · have h9 := HB4.out
                rw [cells_byte, cells_str] at h9
                rw [preT_take HX.out]
                exact h9
              · obtain ⟨q1, q2⟩ := List.getElem?_eq_some_iff.1 HX.out
                rw [List.take_succ_eq_append_getElem q1, q2] at hn
                rcases List.mem_append.1 hn with h | h
                · exact hst.out.2.2 n h
                · rw [List.mem_singleton.1 h]; omega
  case rest =>
    have HPL := Lib.hid (show (preT l).length ≤ 11 * 1000000000000 by
      have h1 := preT_len _ hcut.out.2.2
      have := HL.out
      omega)
    by_cases hL0 : L = 0
    · have hl0 : l = [] := List.eq_nil_of_length_eq_zero (by rw [HL.out, hL0])
      have C1 := Lib.hid (c_wbyte B B (Lib.byteCells (preT l)) 47 wc hcut.out.1 (by rw [cells_len]; have := HPL.out; omega) (by have h1 := hcut.out.2.1.size; rw [HB.out] at h1; exact h1))
      have HT := Lib.hid (show preT l ++ [47] = textP l by rw [textP_pre hcut.out.2.2, if_pos hl0, hl0]; rfl)
      have HOK := Lib.hid (show okP l = true from (okP_iff l).2 hcut.out.2.2)
      have iL : (L : Int) = 0 := by omega
      clear hl0
      go_wp2_with (first
        | (go_at_call 31; go_must (refine C1.out.mono ?_); rintro e w2 ⟨rfl, h1, h2⟩; rw [cells_byte, HT.out] at h1; have HW2 := Lib.hid (hcut.out.2.1.trans h2); have C2 := Lib.hid (Tryd.Builder_String_any B B (textP l) w2 (.inr h1) (by have h3 := HW2.out.size; rw [HB.out] at h3; exact h3)); clear h1 h2)
        | (go_at_call 34; go_must (refine C2.out.mono ?_); rintro e w3 ⟨rfl, h1⟩; have HW3 := Lib.hid (HW2.out.trans h1); clear h1))
      go_ret2
      refine ⟨?_, by rw [HB.out]; exact HW3.out⟩
      rw [HOK.out]
      rfl
    · have hl0 : l ≠ [] := fun h => hL0 (by rw [← HL.out, h]; rfl)
      have HT := Lib.hid (show preT l = textP l by rw [textP_pre hcut.out.2.2, if_neg hl0])
      have HOK := Lib.hid (show okP l = true from (okP_iff l).2 hcut.out.2.2)
      have C2 := Lib.hid (Tryd.Builder_String_any B B (preT l) wc hcut.out.1 (by have h1 := hcut.out.2.1.size; rw [HB.out] at h1; exact h1))
      have iL : ¬ (L : Int) = 0 := by omega
      clear hl0
      go_wp2_with (first
        | (go_at_call 34; go_must (refine C2.out.mono ?_); rintro e w3 ⟨rfl, h1⟩; have HW3 := Lib.hid (hcut.out.2.1.trans h1); clear h1))
      go_ret2
      refine ⟨?_, by rw [HB.out]; exact HW3.out⟩
      rw [HOK.out, ← HT.out]
      rfl
end Go.Proofs.YtgjningfpkoooaaDoor.Ro
