/- What every right program gives back, over one file (plain). -/
import Derived.Test.YtjjcemdoefigkaaDoorGr
import Derived.KernelRfl
namespace Go.Proofs.YtjjcemdoefigkaaDoor.Hf
set_option linter.unusedVariables false
set_option linter.unusedSimpArgs false
open Go.RowKit Go.Proofs.YtjjcemdoefigkaaDoor.W

def lGz : List Int := [31, 139, 8, 0, 0, 0, 0, 0, 0, 3, 75, 76, 74, 6, 0, 194, 65, 36, 53, 3, 0, 0, 0]
def bGz : List Bool := bits8 (lGz.drop 10)
def mGz : M := { m0 with last := true, lt := fixL, ds := fixD, ph := .lit }
theorem gz_dec (p s k : Nat) (hk : 0 < k) (hl : k ≤ (bGz.drop p).length) (hs : fixL[s]? = some k) (hc : code fixL s = (bGz.drop p).take k) (hmin : ∀ i : _root_.Fin k, 0 < i.val → ¬ hit fixL (bGz.drop p) i.val) : dec fixL (bGz.drop p) = .got s k :=
  decG_hit Tab.fixL hk hl hs hc (fun k' h1 h2 => hmin ⟨k', h2⟩ h1) k 0 _ (by omega) (by omega)
theorem gz_lit {bs : List Bool} {t : St} {s k : Nat} (hl : Live t.m) (hph : t.m.ph = .lit) (hd : dec t.m.lt (bs.drop t.pos) = .got s k) : next bs t = some (t.add (litM t.m s k)) :=
  next_of hl (by unfold step; rw [hph]; dsimp only; rw [hd])
theorem gz1 : next bGz st0 = some ⟨mGz, [], [], 3⟩ := by kernel_rfl
theorem gz_a : dec fixL (bGz.drop 3) = .got 97 8 := gz_dec 3 97 8 (by omega) (by decide +kernel) (by decide +kernel) (by decide +kernel) (by decide +kernel)
theorem gz_b : dec fixL (bGz.drop 11) = .got 98 8 := gz_dec 11 98 8 (by omega) (by decide +kernel) (by decide +kernel) (by decide +kernel) (by decide +kernel)
theorem gz_c : dec fixL (bGz.drop 19) = .got 99 8 := gz_dec 19 99 8 (by omega) (by decide +kernel) (by decide +kernel) (by decide +kernel) (by decide +kernel)
theorem gz_e : dec fixL (bGz.drop 27) = .got 256 7 := gz_dec 27 256 7 (by omega) (by decide +kernel) (by decide +kernel) (by decide +kernel) (by decide +kernel)
set_option maxRecDepth 100000 in
theorem gz2 : next bGz ⟨mGz, [], [], 3⟩ = some ⟨mGz, [97], [1], 11⟩ := (gz_lit ⟨rfl, rfl⟩ rfl gz_a).trans (by kernel_rfl)
set_option maxRecDepth 100000 in
theorem gz3 : next bGz ⟨mGz, [97], [1], 11⟩ = some ⟨mGz, [97, 98], [1, 2], 19⟩ := (gz_lit ⟨rfl, rfl⟩ rfl gz_b).trans (by kernel_rfl)
set_option maxRecDepth 100000 in
theorem gz4 : next bGz ⟨mGz, [97, 98], [1, 2], 19⟩ = some ⟨mGz, [97, 98, 99], [1, 2, 3], 27⟩ := (gz_lit ⟨rfl, rfl⟩ rfl gz_c).trans (by kernel_rfl)
set_option maxRecDepth 100000 in
theorem gz5 : next bGz ⟨mGz, [97, 98, 99], [1, 2, 3], 27⟩ = some ⟨overM mGz, [97, 98, 99], [1, 2, 3], 34⟩ := (gz_lit ⟨rfl, rfl⟩ rfl gz_e).trans (by kernel_rfl)
theorem gz_res : Res st0 (bits8 (lGz.drop 10)) 9 [97, 98, 99] [1, 2, 3] 4 0 true :=
  Res.dead (t := ⟨overM mGz, [97, 98, 99], [1, 2, 3], 34⟩) (.cons gz1 (.cons gz2 (.cons gz3 (.cons gz4 (.cons gz5 (.refl _)))))) (fun h => (by cases h.2)) (by show 3 ≤ 9; omega)
theorem gz_bytes : Bytes lGz := fun x hx => by unfold lGz at hx; simp at hx; omega
theorem bg_z0 : Bg z0 := ⟨rfl, rfl, rfl, rfl, rfl⟩
def eGz : List (Nat × Ev) := [(9, evOpen []), (11, evByte 97), (12, evByte 98), (13, evByte 99), (22, evClose)]
theorem gz_all : GzR lGz 9 eGz 0 := by
  have hb := gz_bytes
  obtain ⟨h1, h2⟩ := ((b_first (l := lGz) (i := 0) hb (zAt_zero lGz) bg_z0 (x := 31) rfl).1 rfl).no rfl
  rw [eAt_zero] at h2
  obtain ⟨h3, h4⟩ := ((b_magic (fr := 0) hb h1 rfl rfl rfl (Nat.zero_le _) (x := 139) rfl).1 rfl).no rfl
  obtain ⟨h5, h6⟩ := ((b_method (fr := 0) hb h3 rfl rfl rfl (Nat.zero_le _) (x := 8) rfl).1 rfl).no rfl
  obtain ⟨h7, h8⟩ := ((b_flags (fr := 0) hb h5 rfl rfl rfl (Nat.zero_le _) (x := 0) rfl).1 (by decide)).no rfl
  have h9 := b_ten (fr := 0) hb h7 rfl rfl rfl (Nat.zero_le _) (by decide)
  rw [h8, h6, h4, h2, extra_no rfl, named_no rfl, commented_no rfl, summed_no rfl] at h9
  obtain ⟨h10, h11⟩ := open_at h9
  obtain ⟨h12, h13, h14⟩ := (d_end (y := _) hb rfl rfl h10 (by decide) gz_res (by decide)).2 rfl
  obtain ⟨y2, h15, h16, h17, h18, h19, h20, h21⟩ := u_end hb rfl h13 (by decide) (by decide +kernel)
  obtain ⟨y3, h22, h23, h24, h25⟩ := v_end hb h17 h18 h19 h15 (by decide) (by rw [h21]; decide +kernel)
  rw [h16, h14, h11] at h25
  have he : eAt lGz lGz.length = eGz := h25
  have hz : zAt lGz lGz.length = y3 := h22
  have hw : y3.end_.why = 0 := by
    have hr := Rz.at_ hb lGz.length
    rw [hz] at hr
    unfold Z.end_
    rw [if_neg (by rw [hr.has, hr.ended, h23.why]; simp), if_pos h24]
    exact h23.why
  have h := GzR.all (l := lGz) (n := 9) (by rw [he]; decide)
  rw [he, hz, hw] at h
  exact h
theorem gz_parts : partsE eGz = [[97, 98, 99]] := rfl
end Go.Proofs.YtjjcemdoefigkaaDoor.Hf
