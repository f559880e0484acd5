/- Report: its text, and the report that has a text (plain). -/
import Derived.Test.YtgjningfpkoooaaDoorQa
import Derived.Lib.Join
namespace Go.Proofs.YtgjningfpkoooaaDoor.Ro
set_option linter.unusedVariables false
set_option linter.unusedSimpArgs false
open Go.Lib (decDigits)

theorem spc_words (d : UInt8) (w : List UInt8) (ws : List (List UInt8)) (h0 : ∀ c ∈ w, c ≠ d) (h : ∀ v ∈ ws, ∀ c ∈ v, c ≠ d) : spc d (w ++ ws.flatMap (fun v => d :: v)) = w :: ws := by
  have h1 := spc_word d w _ h0 _ _ (spc_flat d ws h)
  rwa [List.append_nil] at h1
theorem spc_cut (d : UInt8) (w s : List UInt8) (h0 : ∀ c ∈ w, c ≠ d) : spc d (w ++ d :: s) = w :: spc d s := by
  have h1 : spc d (d :: s) = [] :: spc d s := by
    conv => lhs; unfold spc
    rw [if_pos rfl]
  have h2 := spc_word d w _ h0 _ _ h1
  rwa [List.append_nil] at h2
/-- The number that has a text. -/
def valN (w : List UInt8) : Option Nat := match parseP (47 :: w) with
  | some [u] => some u
  | _ => none
theorem valN_iff (w : List UInt8) (u : Nat) : valN w = some u ↔ w = decDigits u ∧ u ≤ top := by
  have h0 : txt [u] = 47 :: decDigits u := by simp [txt]
  unfold valN
  constructor
  · intro h
    split at h
    · rename_i v hv
      injection h with h
      subst h
      obtain ⟨h1, h2⟩ := (parseP_iff _ _).1 hv
      rw [show txt [v] = 47 :: decDigits v by simp [txt]] at h1
      injection h1 with _ h1
      exact ⟨h1, h2 v (by simp)⟩
    · cases h
  · rintro ⟨h1, h2⟩
    have h3 : parseP (47 :: w) = some [u] := (parseP_iff _ _).2 ⟨by rw [h0, h1], by simpa using h2⟩
    rw [h3]
abbrev Ht := Int × List Int × Int
abbrev Vd := List Int × Int
abbrev Rp := List Ht × List Vd
def hitW : List UInt8 := [104, 105, 116]
def whyW : List UInt8 := [119, 104, 121]
def numL (n : Int) : List UInt8 := decDigits n.toNat
def okN (n : Int) : Bool := decide (0 ≤ n ∧ n ≤ 2147483647)
def okH (h : Ht) : Bool := okN h.1 && okP h.2.1 && okN h.2.2
def okV (v : Vd) : Bool := okP v.1 && okN v.2
def hitS (h : Ht) : List (List UInt8) := [hitW, numL h.1, textP h.2.1, numL h.2.2]
def whyS (v : Vd) : List (List UInt8) := [whyW, textP v.1, numL v.2]
def hitL (h : Ht) : List UInt8 := [104, 105, 116, 32] ++ numL h.1 ++ [32] ++ textP h.2.1 ++ [32] ++ numL h.2.2 ++ [10]
def whyL (v : Vd) : List UInt8 := [119, 104, 121, 32] ++ textP v.1 ++ [32] ++ numL v.2 ++ [10]
theorem hitL_join (h : Ht) : hitL h = Lib.join (hitS h) [32] ++ [10] := by simp [hitL, hitS, Lib.join, hitW]
theorem whyL_join (v : Vd) : whyL v = Lib.join (whyS v) [32] ++ [10] := by simp [whyL, whyS, Lib.join, whyW]
def okR (r : Rp) : Bool := r.1.all okH && r.2.all okV
def flatR (r : Rp) : List UInt8 := r.1.flatMap hitL ++ r.2.flatMap whyL
def textR (r : Rp) : List UInt8 := if okR r then flatR r else []
/-- A line's kind by its words. -/
def kindW (w : List (List UInt8)) : Nat := if w.getD 0 [] = hitW ∧ w.length = 4 then 1 else if w.getD 0 [] = whyW ∧ w.length = 3 then 2 else 0
def addH (a : Rp) (w : List (List UInt8)) : Option Rp := match valN (w.getD 1 []), parseP (w.getD 2 []), valN (w.getD 3 []) with
  | some x, some p, some y => some (a.1 ++ [((x : Int), zs p, (y : Int))], a.2)
  | _, _, _ => none
def addV (a : Rp) (w : List (List UInt8)) : Option Rp := match parseP (w.getD 1 []), valN (w.getD 2 []) with
  | some p, some x => some (a.1, a.2 ++ [(zs p, (x : Int))])
  | _, _ => none
def lineR (a : Rp) (w : List (List UInt8)) : Option Rp := if kindW w = 1 then (if a.2 = [] then addH a w else none) else if kindW w = 2 then addV a w else none
def linesR (a : Rp) : List (List UInt8) → Option Rp
  | [] => none
  | l :: ls => if ls = [] then (if l = [] then some a else none) else (lineR a (spc 32 l)).bind fun b => linesR b ls
def parseR (s : List UInt8) : Option Rp := linesR ([], []) (spc 10 s)
/-! ### no blank and no line's end within words -/
theorem num_chars (n : Int) : ∀ c ∈ numL n, isD c := dec_isD _
theorem text_chars (l : List Int) : ∀ c ∈ textP l, isD c ∨ c = 47 := by
  intro c hc
  unfold textP at hc
  split at hc
  · exact txt_chars _ c hc
  · cases hc
theorem isD_32 {c : UInt8} (h : isD c) : c ≠ 32 ∧ c ≠ 10 := by
  constructor
  · rintro rfl; unfold isD at h; simp at h
  · rintro rfl; unfold isD at h; simp at h
theorem num_no (n : Int) : ∀ c ∈ numL n, c ≠ 32 ∧ c ≠ 10 := fun c hc => isD_32 (num_chars n c hc)
theorem text_no (l : List Int) : ∀ c ∈ textP l, c ≠ 32 ∧ c ≠ 10 := fun c hc => by
  rcases text_chars l c hc with h | rfl
  · exact isD_32 h
  · decide
theorem hitW_no : ∀ c ∈ hitW, c ≠ 32 ∧ c ≠ 10 := by decide
theorem whyW_no : ∀ c ∈ whyW, c ≠ 32 ∧ c ≠ 10 := by decide
theorem join_flat (w : List UInt8) (ws : List (List UInt8)) : Lib.join (w :: ws) [32] = w ++ ws.flatMap (fun v => 32 :: v) := by
  rw [Lib.join_cons]
  unfold Lib.joinTail
  rw [List.flatMap_def]
  rfl
theorem hit_words (h : Ht) : spc 32 (Lib.join (hitS h) [32]) = hitS h := by
  unfold hitS
  rw [join_flat]
  refine spc_words 32 _ _ (fun c hc => (hitW_no c hc).1) fun v hv c hc => ?_
  simp only [List.mem_cons, List.not_mem_nil, or_false] at hv
  rcases hv with rfl | rfl | rfl
  · exact (num_no _ c hc).1
  · exact (text_no _ c hc).1
  · exact (num_no _ c hc).1
theorem why_words (v : Vd) : spc 32 (Lib.join (whyS v) [32]) = whyS v := by
  unfold whyS
  rw [join_flat]
  refine spc_words 32 _ _ (fun c hc => (whyW_no c hc).1) fun v hv c hc => ?_
  simp only [List.mem_cons, List.not_mem_nil, or_false] at hv
  rcases hv with rfl | rfl
  · exact (text_no _ c hc).1
  · exact (num_no _ c hc).1
theorem join_mem {c : UInt8} {ws : List (List UInt8)} (h : c ∈ Lib.join ws [32]) : c = 32 ∨ ∃ w ∈ ws, c ∈ w := by
  cases ws with
  | nil => simp [Lib.join] at h
  | cons w ws =>
    rw [join_flat] at h
    rcases List.mem_append.1 h with h | h
    · exact .inr ⟨w, by simp, h⟩
    · obtain ⟨v, hv, h⟩ := List.mem_flatMap.1 h
      rcases List.mem_cons.1 h with h | h
      · exact .inl h
      · exact .inr ⟨v, List.mem_cons_of_mem _ hv, h⟩
theorem hit_no10 (h : Ht) : ∀ c ∈ Lib.join (hitS h) [32], c ≠ 10 := fun c hc => by
  rcases join_mem hc with rfl | ⟨w, hw, hc⟩
  · decide
  · unfold hitS at hw
    simp only [List.mem_cons, List.not_mem_nil, or_false] at hw
    rcases hw with rfl | rfl | rfl | rfl
    · exact (hitW_no c hc).2
    · exact (num_no _ c hc).2
    · exact (text_no _ c hc).2
    · exact (num_no _ c hc).2
theorem why_no10 (v : Vd) : ∀ c ∈ Lib.join (whyS v) [32], c ≠ 10 := fun c hc => by
  rcases join_mem hc with rfl | ⟨w, hw, hc⟩
  · decide
  · unfold whyS at hw
    simp only [List.mem_cons, List.not_mem_nil, or_false] at hw
    rcases hw with rfl | rfl | rfl
    · exact (whyW_no c hc).2
    · exact (text_no _ c hc).2
    · exact (num_no _ c hc).2
/-! ### a line -/
theorem okN_iff (n : Int) : okN n = true ↔ 0 ≤ n ∧ n ≤ 2147483647 := by simp [okN]
theorem val_num {n : Int} (h : okN n = true) : ∃ u : Nat, valN (numL n) = some u ∧ (u : Int) = n := by
  have h1 := (okN_iff n).1 h
  exact ⟨n.toNat, (valN_iff _ _).2 ⟨rfl, by unfold top; omega⟩, by omega⟩
theorem num_of {w : List UInt8} {u : Nat} (h : valN w = some u) : okN (u : Int) = true ∧ w = numL (u : Int) := by
  obtain ⟨h1, h2⟩ := (valN_iff _ _).1 h
  unfold top at h2
  exact ⟨(okN_iff _).2 (by omega), h1⟩
theorem line_hit {a : Rp} {h : Ht} (hk : okH h = true) (ha : a.2 = []) : lineR a (hitS h) = some (a.1 ++ [h], a.2) := by
  obtain ⟨x, p, y⟩ := h
  simp only [okH, Bool.and_eq_true] at hk
  obtain ⟨u, hu, hux⟩ := val_num hk.1.1
  obtain ⟨v, hv, hvy⟩ := val_num hk.2
  have h1 : kindW (hitS (x, p, y)) = 1 := by unfold kindW; rw [if_pos ⟨rfl, rfl⟩]
  unfold lineR
  rw [if_pos h1, if_pos ha]
  unfold addH
  show (match valN (numL x), parseP (textP p), valN (numL y) with | some x, some p, some y => some (a.1 ++ [((x : Int), zs p, (y : Int))], a.2) | _, _, _ => none) = _
  rw [hu, parse_text hk.1.2, hv]
  dsimp only
  rw [hux, hvy, zs_nats hk.1.2]
theorem line_why {a : Rp} {v : Vd} (hk : okV v = true) : lineR a (whyS v) = some (a.1, a.2 ++ [v]) := by
  obtain ⟨p, x⟩ := v
  simp only [okV, Bool.and_eq_true] at hk
  obtain ⟨u, hu, hux⟩ := val_num hk.2
  have h1 : kindW (whyS (p, x)) = 2 := by
    unfold kindW
    rw [if_neg (by unfold whyS hitW whyW; simp), if_pos ⟨rfl, rfl⟩]
  unfold lineR
  rw [h1, if_neg (by decide), if_pos rfl]
  unfold addV
  show (match parseP (textP p), valN (numL x) with | some p, some x => some (a.1, a.2 ++ [(zs p, (x : Int))]) | _, _ => none) = _
  rw [hu, parse_text hk.1]
  dsimp only
  rw [hux, zs_nats hk.1]
theorem len4 {α : Type} {w : List α} (h : w.length = 4) (z : α) : w = [w.getD 0 z, w.getD 1 z, w.getD 2 z, w.getD 3 z] := by
  rcases w with _ | ⟨a, _ | ⟨b, _ | ⟨c, _ | ⟨d, _ | ⟨e, w⟩⟩⟩⟩⟩ <;> simp at h
  rfl
theorem len3 {α : Type} {w : List α} (h : w.length = 3) (z : α) : w = [w.getD 0 z, w.getD 1 z, w.getD 2 z] := by
  rcases w with _ | ⟨a, _ | ⟨b, _ | ⟨c, _ | ⟨d, w⟩⟩⟩⟩ <;> simp at h
  rfl
theorem line_inv {a b : Rp} {w : List (List UInt8)} (h : lineR a w = some b) :
    (∃ x, okH x = true ∧ a.2 = [] ∧ w = hitS x ∧ b = (a.1 ++ [x], a.2)) ∨ (∃ v, okV v = true ∧ w = whyS v ∧ b = (a.1, a.2 ++ [v])) := by
  unfold lineR at h
  split at h
  · rename_i hk
    split at h
    · rename_i ha
      unfold addH at h
      split at h
      · rename_i x p y h1 h2 h3
        injection h with h
        obtain ⟨o1, e1⟩ := num_of h1
        obtain ⟨o3, e3⟩ := num_of h3
        obtain ⟨o2, e2⟩ := ok_zs h2
        have hw : w.getD 0 [] = hitW ∧ w.length = 4 := by
          unfold kindW at hk
          split at hk
          · assumption
          · split at hk <;> cases hk
        refine .inl ⟨((x : Int), zs p, (y : Int)), by simp [okH, o1, o2, o3], ha, ?_, h.symm⟩
        rw [len4 hw.2 []]
        unfold hitS
        rw [hw.1, e2, ← e1, ← e3]
      · cases h
    · cases h
  · split at h
    · rename_i h0 hk
      unfold addV at h
      split at h
      · rename_i p x h1 h2
        injection h with h
        obtain ⟨o2, e2⟩ := num_of h2
        obtain ⟨o1, e1⟩ := ok_zs h1
        have hw : w.getD 0 [] = whyW ∧ w.length = 3 := by
          unfold kindW at hk
          split at hk
          · cases hk
          · split at hk
            · assumption
            · cases hk
        refine .inr ⟨(zs p, (x : Int)), by simp [okV, o1, o2], ?_, h.symm⟩
        rw [len3 hw.2 []]
        unfold whyS
        rw [hw.1, e1, ← e2]
      · cases h
    · cases h
/-! ### lines -/
theorem lines_why : ∀ (vs : List Vd) (a : Rp), (∀ v ∈ vs, okV v = true) → linesR a (spc 10 (vs.flatMap whyL)) = some (a.1, a.2 ++ vs)
  | [], a, _ => by simp [spc, linesR]
  | v :: vs, a, h => by
    have ih := lines_why vs (a.1, a.2 ++ [v]) (fun x hx => h x (List.mem_cons_of_mem _ hx))
    rw [List.flatMap_cons, whyL_join, List.append_assoc]
    show linesR a (spc 10 (Lib.join (whyS v) [32] ++ 10 :: vs.flatMap whyL)) = _
    rw [spc_cut 10 _ _ (why_no10 v)]
    unfold linesR
    rw [if_neg (spc_ne 10 _), why_words, line_why (h v (by simp))]
    show linesR (a.1, a.2 ++ [v]) _ = _
    rw [ih]
    simp
theorem lines_hit : ∀ (hs : List Ht) (vs : List Vd) (a : Rp), (∀ h ∈ hs, okH h = true) → (∀ v ∈ vs, okV v = true) → a.2 = [] → linesR a (spc 10 (hs.flatMap hitL ++ vs.flatMap whyL)) = some (a.1 ++ hs, a.2 ++ vs)
  | [], vs, a, _, hv, _ => by simpa using lines_why vs a hv
  | x :: hs, vs, a, h, hv, ha => by
    have ih := lines_hit hs vs (a.1 ++ [x], a.2) (fun y hy => h y (List.mem_cons_of_mem _ hy)) hv ha
    rw [List.flatMap_cons, hitL_join, List.append_assoc, List.append_assoc]
    show linesR a (spc 10 (Lib.join (hitS x) [32] ++ 10 :: (hs.flatMap hitL ++ vs.flatMap whyL))) = _
    rw [spc_cut 10 _ _ (hit_no10 x)]
    unfold linesR
    rw [if_neg (spc_ne 10 _), hit_words, line_hit (h x (by simp)) ha]
    show linesR (a.1 ++ [x], a.2) _ = _
    rw [ih]
    simp
theorem parse_flat {r : Rp} (h : okR r = true) : parseR (flatR r) = some r := by
  simp only [okR, Bool.and_eq_true, List.all_eq_true] at h
  have := lines_hit r.1 r.2 ([], []) h.1 h.2 rfl
  unfold parseR flatR
  rw [this]
  simp
/-- The text of pieces. -/
def unL : List (List UInt8) → List UInt8
  | [] => []
  | l :: ls => if ls = [] then l else l ++ 10 :: unL ls
theorem unL_spc : ∀ (ls : List (List UInt8)) (l s : List UInt8), spc 10 s = l :: ls → unL (l :: ls) = s := by
  intro ls
  have h0 : ∀ (ls : List (List UInt8)) (l : List UInt8), unL (l :: ls) = l ++ ls.flatMap (fun v => 10 :: v) := by
    intro ls
    induction ls with
    | nil => intro l; simp [unL]
    | cons k ls ih =>
      intro l
      unfold unL
      rw [if_neg (by simp), ih k, List.flatMap_cons]
      rfl
  intro l s h
  rw [h0, ← spc_join 10 s l ls h]
theorem lines_inv : ∀ (ls : List (List UInt8)) (a r : Rp), linesR a ls = some r → ∃ hs vs, (∀ h ∈ hs, okH h = true) ∧ (∀ v ∈ vs, okV v = true) ∧ (a.2 ≠ [] → hs = []) ∧ r = (a.1 ++ hs, a.2 ++ vs) ∧ unL ls = hs.flatMap hitL ++ vs.flatMap whyL
  | [], a, r, h => by cases h
  | l :: ls, a, r, h => by
    unfold linesR at h
    split at h
    · rename_i hl
      split at h
      · rename_i h0
        injection h with h
        refine ⟨[], [], by simp, by simp, fun _ => rfl, by rw [← h]; simp, ?_⟩
        unfold unL
        rw [if_pos hl, h0]
        rfl
      · cases h
    · rename_i hl
      cases hb : lineR a (spc 32 l) with
      | none => rw [hb] at h; cases h
      | some b =>
        rw [hb] at h
        obtain ⟨hs, vs, h1, h2, h3, h4, h5⟩ := lines_inv ls b r h
        have hu : unL (l :: ls) = l ++ 10 :: unL ls := by
          conv => lhs; unfold unL
          rw [if_neg hl]
        have hj : ∀ w ws, spc 32 l = w :: ws → l = Lib.join (w :: ws) [32] := fun w ws e => by rw [join_flat, ← spc_join 32 l w ws e]
        rcases line_inv hb with ⟨x, o1, o2, o3, o4⟩ | ⟨v, o1, o3, o4⟩
        · have e1 : l = Lib.join (hitS x) [32] := hj _ _ o3
          refine ⟨x :: hs, vs, fun y hy => ?_, h2, fun ha => absurd o2 ha, ?_, ?_⟩
          · rcases List.mem_cons.1 hy with rfl | hy
            · exact o1
            · exact h1 y hy
          · rw [h4, o4]; simp
          · rw [hu, h5, e1, List.flatMap_cons, hitL_join]; simp
        · have e1 : l = Lib.join (whyS v) [32] := hj _ _ o3
          have hne : b.2 ≠ [] := by rw [o4]; simp
          refine ⟨[], v :: vs, by simp, fun y hy => ?_, fun _ => rfl, ?_, ?_⟩
          · rcases List.mem_cons.1 hy with rfl | hy
            · exact o1
            · exact h2 y hy
          · rw [h4, o4, h3 hne]; simp
          · rw [hu, h5, e1, List.flatMap_cons, whyL_join, h3 hne]; simp
theorem parse_inv {s : List UInt8} {r : Rp} (h : parseR s = some r) : okR r = true ∧ s = flatR r := by
  unfold parseR at h
  cases hs : spc 10 s with
  | nil => exact absurd hs (spc_ne 10 s)
  | cons l ls =>
    rw [hs] at h
    obtain ⟨xs, vs, h1, h2, h3, h4, h5⟩ := lines_inv _ _ _ h
    rw [unL_spc ls l s hs] at h5
    simp at h4
    subst h4
    refine ⟨?_, h5⟩
    simp only [okR, Bool.and_eq_true, List.all_eq_true]
    exact ⟨h1, h2⟩
theorem parse_textR {r : Rp} (h : okR r = true) : parseR (textR r) = some r := by unfold textR; rw [if_pos h]; exact parse_flat h
theorem textR_of {s : List UInt8} {r : Rp} (h : parseR s = some r) : okR r = true ∧ textR r = s := by
  obtain ⟨h1, h2⟩ := parse_inv h
  refine ⟨h1, ?_⟩
  unfold textR
  rw [if_pos h1, h2]
theorem textR_inj {a b : Rp} (ha : okR a = true) (hb : okR b = true) (h : textR a = textR b) : a = b := by
  have h1 := parse_textR ha
  rw [h, parse_textR hb] at h1
  injection h1 with h1
  exact h1.symm
end Go.Proofs.YtgjningfpkoooaaDoor.Ro
