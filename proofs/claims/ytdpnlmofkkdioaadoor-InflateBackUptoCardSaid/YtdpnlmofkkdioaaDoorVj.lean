/- The reference's writer: what a dynamic block's code marks (plain). -/
import Derived.Test.YtdpnlmofkkdioaaDoorVi
namespace Go.Proofs.YtdpnlmofkkdioaaDoor.Hf
set_option linter.unusedVariables false
set_option linter.unusedSimpArgs false
open Go.RowKit Go.Proofs.YtdpnlmofkkdioaaDoor.W

def MarkT (LB DB : List Bool) (t : Tok) : Prop := if t.len = 0 then LB[t.x.toNat]? = some true else LB[257 + lsy t.len]? = some true ∧ DB[dsy t.dist]? = some true
structure Marks (l : List Tok) (i : Nat) (LB DB : List Bool) : Prop where
  ll : LB.length = 286
  dl : DB.length = 30
  e : LB[256]? = some true
  m : ∀ t ∈ l.take i, MarkT LB DB t
theorem set_true {l : List Bool} {j k : Nat} (h : l[j]? = some true) : (l.set k true)[j]? = some true := by
  rw [List.getElem?_set]
  obtain ⟨h1, _⟩ := List.getElem?_eq_some_iff.1 h
  split
  · rename_i h2; subst h2; rw [if_pos h1]
  · exact h
theorem set_true_at {l : List Bool} {k : Nat} (h : k < l.length) : (l.set k true)[k]? = some true := by
  rw [List.getElem?_set, if_pos rfl, if_pos h]
theorem MarkT.set {LB DB : List Bool} {t : Tok} (h : MarkT LB DB t) (k : Nat) : MarkT (LB.set k true) DB t := by
  unfold MarkT at h ⊢
  split
  · rename_i h0; rw [if_pos h0] at h; exact set_true h
  · rename_i h0; rw [if_neg h0] at h; exact ⟨set_true h.1, h.2⟩
theorem MarkT.set2 {LB DB : List Bool} {t : Tok} (h : MarkT LB DB t) (k : Nat) : MarkT LB (DB.set k true) t := by
  unfold MarkT at h ⊢
  split
  · rename_i h0; rw [if_pos h0] at h; exact h
  · rename_i h0; rw [if_neg h0] at h; exact ⟨h.1, set_true h.2⟩
theorem Marks.start (l : List Tok) : Marks l 0 ((List.replicate 286 false).set 256 true) (List.replicate 30 false) := ⟨by rw [List.length_set, List.length_replicate], List.length_replicate, set_true_at (by rw [List.length_replicate]; omega), fun t ht => by rw [List.take_zero] at ht; cases ht⟩
theorem take_mem {l : List Tok} {i : Nat} {t u : Tok} (h : l[i]? = some t) (hu : u ∈ l.take (i + 1)) : u ∈ l.take i ∨ u = t := by
  obtain ⟨h1, h2⟩ := List.getElem?_eq_some_iff.1 h
  rw [List.take_succ_eq_append_getElem h1, h2] at hu
  rcases List.mem_append.1 hu with h3 | h3
  · exact .inl h3
  · exact .inr (List.mem_singleton.1 h3)
theorem Marks.lit {l : List Tok} {i : Nat} {LB DB : List Bool} {t : Tok} (h : Marks l i LB DB) (ht : l[i]? = some t) (h0 : t.len = 0) (hx : t.x.toNat < 286) : Marks l (i + 1) (LB.set t.x.toNat true) DB :=
  ⟨by rw [List.length_set]; exact h.ll, h.dl, set_true h.e, fun u hu => by
    rcases take_mem ht hu with h1 | rfl
    · exact (h.m u h1).set _
    · unfold MarkT; rw [if_pos h0]; exact set_true_at (by rw [h.ll]; exact hx)⟩
theorem Marks.cpy {l : List Tok} {i : Nat} {LB DB : List Bool} {t : Tok} (h : Marks l i LB DB) (ht : l[i]? = some t) (h0 : t.len ≠ 0) (hx : 257 + lsy t.len < 286) (hd : dsy t.dist < 30) : Marks l (i + 1) (LB.set (257 + lsy t.len) true) (DB.set (dsy t.dist) true) :=
  ⟨by rw [List.length_set]; exact h.ll, by rw [List.length_set]; exact h.dl, set_true h.e, fun u hu => by
    rcases take_mem ht hu with h1 | rfl
    · exact ((h.m u h1).set _).set2 _
    · unfold MarkT; rw [if_neg h0]; exact ⟨set_true_at (by rw [h.ll]; exact hx), set_true_at (by rw [h.dl]; exact hd)⟩⟩
theorem Marks.uses {l : List Tok} {LB DB : List Bool} (h : Marks l l.length LB DB) : (∀ t ∈ l, Uses (fullL LB 1) (fullL DB 0) t) ∧ Has (fullL LB 1) 256 := by
  refine ⟨fun t ht => ?_, fullL_has (by rw [h.ll]; omega) h.e⟩
  have h1 := h.m t (by rw [List.take_length]; exact ht)
  unfold MarkT at h1
  unfold Uses
  split
  · rename_i h0; rw [if_pos h0] at h1; exact fullL_has (by rw [h.ll]; omega) h1
  · rename_i h0; rw [if_neg h0] at h1; exact ⟨fullL_has (by rw [h.ll]; omega) h1.1, fullL_has (by rw [h.dl]; omega) h1.2⟩
/-- The symbols that tell a row. -/
theorem Says.syms {row : List Nat} {i j : Nat} {l : List Say} (h : Says row i l j) (h9 : ∀ x ∈ row, x ≤ 15) : ∀ s ∈ l, s.sym < 19 ∧ s.v ≤ 127 ∧ s.n ≤ 7 := by
  induction h with
  | nil i => intro s hs; cases hs
  | one hx _ ih =>
    intro s hs
    rcases List.mem_cons.1 hs with rfl | h2
    · have := h9 _ (List.mem_of_getElem? hx); dsimp only; omega
    · exact ih s h2
  | long h1 h2 h3 _ ih =>
    intro s hs
    rcases List.mem_cons.1 hs with rfl | h9
    · dsimp only; omega
    · exact ih s h9
  | zero h1 h2 h3 _ ih =>
    intro s hs
    rcases List.mem_cons.1 hs with rfl | h9
    · dsimp only; omega
    · exact ih s h9
  | same h1 h2 h0 hx h3 _ ih =>
    intro s hs
    rcases List.mem_cons.1 hs with rfl | h9
    · dsimp only; omega
    · exact ih s h9
structure SMarks (l : List Say) (i : Nat) (U : List Bool) : Prop where
  len : U.length = 19
  m : ∀ s ∈ l.take i, U[s.sym]? = some true
theorem SMarks.start (l : List Say) : SMarks l 0 (List.replicate 19 false) := ⟨by simp, fun s hs => by simp at hs⟩
theorem SMarks.more {l : List Say} {i : Nat} {U : List Bool} {s : Say} (h : SMarks l i U) (hs : l[i]? = some s) (h19 : s.sym < 19) : SMarks l (i + 1) (U.set s.sym true) := ⟨by rw [List.length_set]; exact h.len, fun u hu => by
  obtain ⟨h1, h2⟩ := List.getElem?_eq_some_iff.1 hs
  rw [List.take_succ_eq_append_getElem h1, h2] at hu
  rcases List.mem_append.1 hu with h3 | h3
  · exact set_true (h.m u h3)
  · rw [List.mem_singleton.1 h3]; exact set_true_at (by rw [h.len]; exact h19)⟩
theorem SMarks.has {l : List Say} {U : List Bool} (h : SMarks l l.length U) : ∀ s ∈ l, Has (fullL U 2) s.sym := fun s hs => fullL_has (by rw [h.len]; omega) (h.m s (by rw [List.take_length]; exact hs))
theorem klog_small : ∀ n : _root_.Fin 20, klog n.val ≤ 4 := by decide +kernel
theorem fullL_le7 {u : List Bool} (hl : u.length = 19) : ∀ x ∈ fullL u 2, x ≤ 7 := fun x hx => by
  have hn : nU (fullU u 2) ≤ 19 := Nat.le_trans (nU_le _) (by unfold fullU; rw [fillU_length]; omega)
  have h1 := fullGo_le _ _ _ _ x hx
  have h2 := klog_small ⟨nU (fullU u 2), by omega⟩
  dsimp only at h2
  omega
theorem encSays_snoc {first : List Nat} {l : List Say} {i : Nat} {s : Say} (h : l[i]? = some s) : encSays first (l.take (i + 1)) = encSays first (l.take i) ++ encSay first s := by
  obtain ⟨h1, h2⟩ := List.getElem?_eq_some_iff.1 h
  rw [List.take_succ_eq_append_getElem h1, h2]
  unfold encSays
  rw [List.flatMap_append]
  simp
def sy3 (l : List Say) : List (Value × Value × Value) := l.map fun t => (.int .i64 (t.sym : Nat), .int .i64 (t.v : Nat), .int .i64 (t.n : Nat))
theorem syC_3 (l : List Say) : syC l = (sy3 l).flatMap fun t => [t.1, t.2.1, t.2.2] := by unfold syC sy3; rw [List.flatMap_map]
end Go.Proofs.YtdpnlmofkkdioaaDoor.Hf
