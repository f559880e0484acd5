/- What the machine holds, and what it says of it at the end (plain). -/
import Derived.Test.YtmalacamfjdimaaRd
namespace Go.Proofs.Ytmalacamfjdimaa.Pt
open Go.RowKit Go.Proofs.Ytmalacamfjdimaa.W

def Pre (p : List Int) : Prop := p = [] ∨ p = [10] ∨ p = [13, 10]
def Bl (l : List Int) : Prop := ∀ x ∈ l, x = 9 ∨ x = 32
def Hc (s : St) : Prop := match s.step with
  | .none => s.hold = []
  | .feed => s.hold = [13]
  | .border => ∃ p, Pre p ∧ s.hold = p ++ (strL s.want).take s.at_
  | .behind => ∃ p, Pre p ∧ s.hold = p ++ strL s.want
  | .dash => ∃ p, Pre p ∧ s.hold = p ++ (strL s.want ++ [45])
  | .blanks => ∃ p bl, Pre p ∧ Bl bl ∧ s.hold = p ++ (strL s.want ++ ((if s.last then [45, 45] else []) ++ bl))
  | .close => ∃ p bl, Pre p ∧ Bl bl ∧ s.hold = p ++ (strL s.want ++ ((if s.last then [45, 45] else []) ++ (bl ++ [13])))

theorem bl_snoc {l : List Int} {b : Int} (h : Bl l) (hb : b = 9 ∨ b = 32) : Bl (l ++ [b]) := fun x hx => by
  rcases List.mem_append.1 hx with h1 | h1
  · exact h x h1
  · simp at h1; subst h1; exact hb

theorem Hc.goes_blanks {s s' : St} {b : Int} {p bl : List Int} (hp : Pre p) (hbl : Bl bl) (hh : s.hold = p ++ (strL s.want ++ ((if s.last then [45, 45] else []) ++ bl))) (hs : s.step = .blanks) (hr : s.rBlanks b = (.goes, s')) : Hc { s' with hold := s'.hold ++ [b] } := by
  unfold St.rBlanks at hr
  split at hr
  · injection hr with e1 e2; cases e1
  · split at hr
    · rename_i h13
      injection hr with e1 e2; subst e2
      exact ⟨p, bl, hp, hbl, by simp only [hh, h13, List.append_assoc]⟩
    · split at hr
      · rename_i h9
        injection hr with e1 e2; subst e2
        unfold Hc
        simp only [hs]
        exact ⟨p, bl ++ [b], hp, bl_snoc hbl h9.1, by simp only [hh, List.append_assoc]⟩
      · injection hr with e1 e2; cases e1

theorem Hc.goes {s s' : St} {b : Int} (hi : Inv s) (hl : LI s) (hc : Hc s) (hs : s.step ≠ .none) (hr : s.run b = (.goes, s')) : Hc { s' with hold := s'.hold ++ [b] } := by
  unfold Hc at hc
  obtain ⟨h0, h1, h2, h3, h4⟩ := hi
  unfold St.run at hr
  cases hst : s.step with
  | none => exact absurd hst hs
  | feed =>
    rw [hst] at hr hc
    dsimp only at hr hc
    split at hr
    · rename_i hb
      injection hr with e1 e2; subst e2
      exact ⟨[13, 10], .inr (.inr rfl), by simp [St.rst, hc, hb]⟩
    · injection hr with e1 e2; cases e1
  | border =>
    rw [hst] at hr hc h4
    dsimp only at hr hc h4
    obtain ⟨p, hp, hh⟩ := hc
    unfold St.rBorder at hr
    split at hr
    · rename_i hb
      injection hr with e1 e2; subst e2
      obtain ⟨hlt, hx⟩ := List.getElem?_eq_some_iff.1 hb
      have e : (strL s.want).take (s.at_ + 1) = (strL s.want).take s.at_ ++ [b] := by rw [List.take_succ_eq_append_getElem hlt, hx]
      by_cases hsz : s.at_ + 1 = s.want.size
      · rw [if_pos hsz]
        refine ⟨p, hp, ?_⟩
        show s.hold ++ [b] = p ++ strL s.want
        rw [hh, List.append_assoc, ← e, List.take_of_length_le (by rw [strL_length]; omega)]
      · rw [if_neg hsz]
        unfold Hc
        simp only [hst]
        exact ⟨p, hp, by rw [hh, List.append_assoc, ← e]⟩
    · injection hr with e1 e2; cases e1
  | behind =>
    rw [hst] at hr hc h4
    dsimp only at hr hc h4
    obtain ⟨p, hp, hh⟩ := hc
    have hla := hl (.inr (.inl hst))
    split at hr
    · rename_i hb
      injection hr with e1 e2; subst e2
      exact ⟨p, hp, by simp only [hh, hb, List.append_assoc]⟩
    · exact Hc.goes_blanks (s := { s with step := .blanks }) hp (bl := []) (fun x hx => by cases hx) (by simp [hh, hla]) rfl hr
  | dash =>
    rw [hst] at hr hc
    dsimp only at hr hc
    obtain ⟨p, hp, hh⟩ := hc
    by_cases hb : b = 45
    · rw [if_pos hb] at hr
      injection hr with e1 e2; subst e2
      exact ⟨p, [], hp, (fun x hx => by cases hx), by simp [hh, hb]⟩
    · rw [if_neg hb] at hr
      injection hr with e1 e2; cases e1
  | blanks =>
    rw [hst] at hr hc
    dsimp only at hr hc
    obtain ⟨p, bl, hp, hbl, hh⟩ := hc
    exact Hc.goes_blanks hp hbl hh hst hr
  | close =>
    rw [hst] at hr
    dsimp only at hr
    split at hr <;> (injection hr with e1 e2; cases e1)

def V (l : List Int) : List UInt8 := l.map fun n => UInt8.ofNat n.toNat
theorem V_strL (s : ByteArray) : V (strL s) = s.data.toList := by
  unfold V strL
  rw [List.map_map]
  conv => rhs; rw [← List.map_id s.data.toList]
  apply List.map_congr_left
  intro x _
  simp
theorem V_append (a b : List Int) : V (a ++ b) = V a ++ V b := by simp [V]
theorem blk8_V {l : List Int} (h : Bl l) : blk8 (V l) = true := by
  unfold blk8 V
  simp only [List.all_map, List.all_eq_true]
  intro x hx
  rcases h x hx with rfl | rfl <;> rfl

theorem trim_pre {p body : List Int} (hp : Pre p) (hb : body.head? ≠ some 13 ∧ body.head? ≠ some 10) : trim1 (trim1 (p ++ body) 13) 10 = body := by
  have t : ∀ v, body.head? ≠ some v → trim1 body v = body := fun v h => by unfold trim1; rw [if_neg h]
  rcases hp with rfl | rfl | rfl
  · rw [List.nil_append, t 13 hb.1, t 10 hb.2]
  · have : trim1 ([10] ++ body) 13 = [10] ++ body := by unfold trim1; rw [if_neg (by simp)]
    rw [this]
    unfold trim1
    simp
  · have : trim1 ([13, 10] ++ body) 13 = [10] ++ body := by unfold trim1; simp
    rw [this]
    unfold trim1
    simp

theorem pre_self (a b : List UInt8) : Lib.hasPrefix (a ++ b) a = true ∧ Lib.trimPrefix (a ++ b) a = b := by
  have h : Lib.hasPrefix (a ++ b) a = true := by unfold Lib.hasPrefix; simp
  refine ⟨h, ?_⟩
  unfold Lib.trimPrefix
  rw [if_pos h]
  simp
theorem pre_short {a b : List UInt8} (h : b.length < a.length) : Lib.hasPrefix b a = false := by
  unfold Lib.hasPrefix
  cases hx : a.isPrefixOf b with
  | false => rfl
  | true =>
    have := (List.isPrefixOf_iff_prefix.1 hx).length_le
    omega

/-- Whether what is held is a delimiter that lacks its line's end alone. -/
theorem delims_fm {s : St} (hi : Inv s) (hl : LI s) (hc : Hc s) (hw : (strL s.want).head? = some 45) : s.delims8 = decide ((s.fm []).1 = 2) ∧ ((s.fm []).1 = 2 → (s.fm []).2 = s.last) := by
  obtain ⟨h0, h1, h2, h3, h4⟩ := hi
  have hwn : strL s.want ≠ [] := fun e => by rw [e] at hw; cases hw
  have hhead : ∀ r, (strL s.want ++ r).head? ≠ some 13 ∧ (strL s.want ++ r).head? ≠ some 10 := fun r => by
    rw [List.head?_append, hw]; simp
  have hlen : 0 < s.want.data.toList.length := by rw [data_len]; exact h0
  unfold Hc at hc
  have key : ∀ body, trim1 (trim1 s.hold 13) 10 = body → (strOfNums (trim1 (trim1 s.hold 13) 10)).data.toList = V body := fun body h => by rw [h]; rfl
  cases hst : s.step with
  | none =>
    have : s.delims8 = false := by unfold St.delims8; rw [hst]; simp
    rw [this]
    unfold St.fm
    rw [hst]
    exact ⟨rfl, fun h => by simp at h⟩
  | feed =>
    rw [hst] at hc
    dsimp only at hc
    have k := key [] (by rw [hc]; rfl)
    have : s.delims8 = false := by
      unfold St.delims8 has8
      rw [k, pre_short (by simpa [V] using hlen)]; rfl
    rw [this]
    unfold St.fm
    rw [hst]
    exact ⟨rfl, fun h => by simp [lkN] at h⟩
  | border =>
    rw [hst] at hc h4
    dsimp only at hc h4
    obtain ⟨p, hp, hh⟩ := hc
    have hbd : ((strL s.want).take s.at_).head? ≠ some 13 ∧ ((strL s.want).take s.at_).head? ≠ some 10 := by
      rw [List.head?_take]
      split
      · simp
      · rw [hw]; simp
    have k := key ((strL s.want).take s.at_) (by rw [hh]; exact trim_pre hp hbd)
    have : s.delims8 = false := by
      unfold St.delims8 has8
      rw [k, pre_short (by rw [data_len, V, List.length_map, List.length_take]; omega)]; rfl
    rw [this]
    have hlt : s.at_ < (strL s.want).length := by rw [strL_length]; exact h4.1
    have e : s.fm [] = (1, false) := by
      unfold St.fm
      rw [hst]
      dsimp only
      rw [List.drop_eq_getElem_cons hlt]; rfl
    rw [e]
    exact ⟨rfl, fun h => by simp at h⟩
  | behind =>
    rw [hst] at hc
    dsimp only at hc
    obtain ⟨p, hp, hh⟩ := hc
    have hla := hl (.inr (.inl hst))
    have k := key (strL s.want) (by rw [hh]; have := trim_pre (body := strL s.want) hp (by simpa using hhead []); exact this)
    have hps := pre_self s.want.data.toList []
    have : s.delims8 = true := by
      unfold St.delims8 has8 rest8
      rw [k, V_strL, hst, hla]
      simp only [List.append_nil] at hps
      rw [hps.1, hps.2]; rfl
    rw [this]
    unfold St.fm
    rw [hst]
    exact ⟨rfl, fun _ => hla.symm⟩
  | dash =>
    rw [hst] at hc
    dsimp only at hc
    obtain ⟨p, hp, hh⟩ := hc
    have hla := hl (.inr (.inr hst))
    have k := key (strL s.want ++ [45]) (by rw [hh]; exact trim_pre hp (hhead _))
    have hps := pre_self s.want.data.toList [45]
    have : s.delims8 = false := by
      unfold St.delims8 has8 rest8
      rw [k, V_append, V_strL, hst, hla, show V [45] = [45] from rfl, hps.1, hps.2]; rfl
    rw [this]
    unfold St.fm
    rw [hst]
    exact ⟨rfl, fun h => by simp at h⟩
  | blanks =>
    rw [hst] at hc
    dsimp only at hc
    obtain ⟨p, bl, hp, hbl, hh⟩ := hc
    have k := key (strL s.want ++ ((if s.last then [45, 45] else []) ++ bl)) (by rw [hh]; exact trim_pre hp (hhead _))
    have hb := blk8_V hbl
    have : s.delims8 = true := by
      unfold St.delims8 has8 rest8
      rw [k, V_append, V_strL, hst, (pre_self _ _).1, (pre_self _ _).2, V_append]
      cases s.last with
      | false => simpa [V] using hb
      | true =>
        simp only [if_true]
        rw [show V [45, 45] = [45, 45] from rfl, (pre_self _ _).2, hb]; rfl
    rw [this]
    unfold St.fm
    rw [hst]
    exact ⟨rfl, fun _ => rfl⟩
  | close =>
    rw [hst] at hc
    dsimp only at hc
    obtain ⟨p, bl, hp, hbl, hh⟩ := hc
    have k := key (strL s.want ++ ((if s.last then [45, 45] else []) ++ (bl ++ [13]))) (by rw [hh]; exact trim_pre hp (hhead _))
    have hb : ∀ l : List UInt8, blk8 (l ++ V [13]) = false := fun l => by unfold blk8; rw [List.all_append]; simp [V]
    have : s.delims8 = false := by
      unfold St.delims8 has8 rest8
      rw [k, V_append, V_strL, hst, (pre_self _ _).1, (pre_self _ _).2, V_append, V_append bl]
      cases s.last with
      | false =>
        have := hb (V bl)
        simpa [V] using this
      | true =>
        simp only [if_true]
        rw [show V [45, 45] = [45, 45] from rfl, (pre_self _ _).2, hb]; rfl
    rw [this]
    unfold St.fm
    rw [hst]
    exact ⟨rfl, fun h => by simp at h⟩
end Go.Proofs.Ytmalacamfjdimaa.Pt
