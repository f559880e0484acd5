/- The machine as the reference goes through a body: where it begins a look, and what comes of it (plain). -/
import Derived.Test.YtmalacamfjdimaaRg
namespace Go.Proofs.Ytmalacamfjdimaa.Pt
open Go.RowKit Go.Proofs.Ytmalacamfjdimaa.W

def byIf (opn : Bool) (at_ : Nat) (l : List Int) : List (Nat × Ev) := if opn then byEv at_ l else []
structure Sc0 (W : ByteArray) (l : List Int) (i : Nat) (fresh opn : Bool) (es : List (Nat × Ev)) : Prop where
  ex : ∃ s : St, Ok2 W s ∧ s.hold = [] ∧ s.over = false ∧ s.opn = opn ∧ (fresh = true → s = m0 W l i ∧ s.step = .border ∧ s.at_ = 0) ∧ (fresh = false → s.step = .none) ∧ es = T W l i ++ s.out.map (fun e => (i, e)) ∧
    (s = m0 W l i ∨ (fresh = false ∧ i < l.length ∧ (m0 W l i).over = false ∧ ∀ b, l[i]? = some b → (m0 W l i).take b = s.tail b))
structure Sc (W : ByteArray) (l : List Int) (i n : Nat) (fresh opn : Bool) (es : List (Nat × Ev)) : Prop where
  hold : (m0 W l (i + n)).hold = (l.drop i).take n
  step : (m0 W l (i + n)).step ≠ .none
  fm : ∀ y, look (strL W) ((l.drop i).take n ++ y) fresh = (m0 W l (i + n)).fm y
  over : (m0 W l (i + n)).over = false
  opn : (m0 W l (i + n)).opn = opn
  es : es = T W l (i + n)
structure Fin (W : ByteArray) (l : List Int) (es : List (Nat × Ev)) (opn over : Bool) : Prop where
  es : T W l (l.length + 1) = es ++ (if opn then [(l.length, .cl)] else [])
  over : (whole W l).1.over = over

section
variable {W : ByteArray} {l : List Int} {i n : Nat} {fresh opn : Bool} {es : List (Nat × Ev)}
theorem m0_succ (hi : i ≤ l.length) : m0 W l (i + 1) = { nxt W l i with out := [], told := 0 } := by
  unfold m0
  rw [stAt_succ hi]; rfl
theorem Sc0.start (h : Sc0 W l i true opn es) : Sc W l i 0 true opn es := by
  obtain ⟨s, hok, hh, hov, hop, hf, _, hes, _⟩ := h.ex
  obtain ⟨rfl, hst, hat⟩ := hf rfl
  refine ⟨by simpa using hh, by rw [Nat.add_zero, hst]; simp, fun y => ?_, hov, hop, by rw [hes]; simp [m0]⟩
  unfold look St.fm
  rw [Nat.add_zero, hst, hat, hok.want]
  simp
theorem look_begin {b : Int} (hb : b = 10 ∨ b = 13) (hW : 0 < W.size) : look (strL W) [b] false = (1, false) := by
  have hne : strL W ≠ [] := fun e => by have := strL_length W; rw [e] at this; simp at this; omega
  obtain ⟨x, r, hx⟩ := List.exists_cons_of_ne_nil hne
  rcases hb with rfl | rfl
  · unfold look
    rw [hx]; simp [lkN, lkW]
  · unfold look
    simp [lkN]
theorem Sc0.first (h : Sc0 W l i false opn es) (hM : Ms W l i) {b : Int} (hx : l[i]? = some b) (hb : b = 10 ∨ b = 13) : Sc W l i 1 false opn es := by
  obtain ⟨s, hok, hh, hov, hop, _, hs, hes, hm⟩ := h.ex
  have hs := hs rfl
  have hmo : (m0 W l i).over = false := by
    rcases hm with e | e
    · rw [← e]; exact hov
    · exact e.2.2.1
  have hlt := (List.getElem?_eq_some_iff.1 hx).1
  have htk : (m0 W l i).take b = s.tail b := by
    rcases hm with e | e
    · rw [← e]; exact take_none hs
    · exact e.2.2.2 b hx
  have hn : nxt W l i = s.tail b := by rw [nxt_byte hM hx, hmo, if_neg (by simp)]; exact htk
  have e := m0_succ (W := W) (l := l) (i := i) (by omega)
  have hd : (l.drop i).take 1 = [b] := by rw [drop_cons hx]; rfl
  have hout : (s.tail b).out = s.out := by
    unfold St.tail
    rcases hb with rfl | rfl <;> simp [St.rst]
  rw [hn] at e
  have hfeed : b = 13 → s.tail b = { s with step := .feed, hold := s.hold ++ [b] } := fun h => by unfold St.tail; rw [if_pos h]
  have hbord : b = 10 → s.tail b = { s.rst with hold := s.hold ++ [b] } := fun h => by unfold St.tail; rw [if_neg (by omega), if_pos h]
  refine ⟨?_, ?_, fun y => ?_, ?_, ?_, ?_⟩
  · rw [e, hd]
    rcases hb with h | h
    · rw [hbord h]; simp [hh]
    · rw [hfeed h]; simp [hh]
  · rw [e]
    rcases hb with h | h
    · rw [hbord h]; simp [St.rst]
    · rw [hfeed h]; simp
  · rw [e, hd]
    rcases hb with h | h
    · rw [hbord h, h]
      unfold look St.fm
      simp [St.rst, lkN, hok.want]
    · rw [hfeed h, h]
      unfold look St.fm
      simp [hok.want]
  · rw [e]
    rcases hb with h | h
    · rw [hbord h]; exact hov
    · rw [hfeed h]; exact hov
  · rw [e]
    rcases hb with h | h
    · rw [hbord h]; exact hop
    · rw [hfeed h]; exact hop
  · rw [hes, T, hn, hout]
theorem Sc0.say (h : Sc0 W l i false opn es) (hM : Ms W l i) {b : Int} (hx : l[i]? = some b) (h10 : b ≠ 10) (h13 : b ≠ 13) (hb : 0 ≤ b ∧ b < 256) : Sc0 W l (i + 1) false opn (es ++ byIf opn i [b]) := by
  obtain ⟨s, hok, hh, hov, hop, _, hs, hes, hm⟩ := h.ex
  have hs := hs rfl
  have hmo : (m0 W l i).over = false := by
    rcases hm with e | e
    · rw [← e]; exact hov
    · exact e.2.2.1
  have hlt := (List.getElem?_eq_some_iff.1 hx).1
  have htk : (m0 W l i).take b = s.tail b := by
    rcases hm with e | e
    · rw [← e]; exact take_none hs
    · exact e.2.2.2 b hx
  have ht : s.tail b = s.say b := by unfold St.tail; rw [if_neg h13, if_neg h10]
  have hn : nxt W l i = s.say b := by rw [nxt_byte hM hx, hmo, if_neg (by simp), ← ht]; exact htk
  have e := m0_succ (W := W) (l := l) (i := i) (by omega)
  rw [hn] at e
  have hok1 : Ok2 W (s.tail b) := hok.tail hs hh hb
  rw [ht] at hok1
  have hsay : s.say b = { s with out := (s.say b).out } := by unfold St.say; split <;> rfl
  refine ⟨⟨m0 W l (i + 1), by rw [e]; exact hok1.same rfl, ?_, ?_, ?_, (fun h => by cases h), ?_, ?_, .inl rfl⟩⟩
  · rw [e, hsay]; exact hh
  · rw [e, hsay]; exact hov
  · rw [e, hsay]; exact hop
  · intro _; rw [e, hsay]; exact hs
  · rw [T, hn, hes]
    unfold St.say byIf byEv
    rw [hop]
    cases opn <;> simp [m0]

theorem Fin.past {k : Nat} (hM : ∀ j, j ≤ l.length → Ms W l j) (hk : i + k = l.length) (ho : (m0 W l i).over = true) : Fin W l (T W l i) false true := by
  induction k generalizing i with
  | zero =>
    obtain rfl : i = l.length := by omega
    have hf : nxt W l l.length = (stAt W l l.length).1.e1 := by
      unfold nxt
      rw [List.getElem?_eq_none (Nat.le_refl _)]
      show (stAt W l l.length).1.fin8 = _
      unfold St.fin8
      rw [if_neg (by rw [(hM _ (Nat.le_refl _)).ended, (hM _ (Nat.le_refl _)).told]; simp), if_pos (show (stAt W l l.length).1.over = true from ho)]
    refine ⟨by rw [T, hf]; simp [St.e1], ?_⟩
    have e : whole W l = stAt W l (l.length + 1) := by rw [stAt, if_neg (by omega)]
    rw [e, stAt_succ (Nat.le_refl _), hf]
    exact ho
  | succ k ih =>
    have hlt : i < l.length := by omega
    obtain ⟨x, hx⟩ : ∃ x, l[i]? = some x := ⟨_, List.getElem?_eq_getElem hlt⟩
    have hn : nxt W l i = m0 W l i := by rw [nxt_byte (hM i (by omega)) hx, if_pos ho]
    have e := m0_succ (W := W) (l := l) (i := i) (by omega)
    rw [hn] at e
    have h := ih (i := i + 1) (by omega) (by rw [e]; exact ho)
    have hT : T W l (i + 1) = T W l i := by rw [T, hn]; simp [m0]
    rw [hT] at h
    exact h
theorem take_succ_drop {b : Int} (hx : l[i + n]? = some b) : (l.drop i).take (n + 1) = (l.drop i).take n ++ [b] := by
  have h : (l.drop i)[n]? = some b := by rw [List.getElem?_drop]; exact hx
  obtain ⟨h1, h2⟩ := List.getElem?_eq_some_iff.1 h
  rw [List.take_succ_eq_append_getElem h1, h2]
theorem fm_end {s : St} (hi : Inv s) (hs : s.step ≠ .none) : (s.fm []).1 = 1 ∨ (s.fm []).1 = 2 := by
  have h4 := hi.step
  unfold St.fm
  cases hst : s.step with
  | none => exact absurd hst hs
  | feed => exact .inl rfl
  | border =>
    rw [hst] at h4
    dsimp only at h4 ⊢
    have hlt : s.at_ < (strL s.want).length := by rw [strL_length]; exact h4.1
    rw [List.drop_eq_getElem_cons hlt]
    exact .inl rfl
  | behind => exact .inr rfl
  | dash => exact .inl rfl
  | blanks => exact .inr rfl
  | close => exact .inl rfl
/-- What one more byte does to a look. -/
theorem Sc.more (h : Sc W l i n fresh opn es) (hM : ∀ j, j ≤ l.length → Ms W l j) {b : Int} (hx : l[i + n]? = some b) (hb : 0 ≤ b ∧ b < 256) {K : Int} {L : Bool} (hR : look (strL W) ((l.drop i).take (n + 1)) fresh = (K, L)) :
    ((K = 1 ∨ K = 2) ∧ Sc W l i (n + 1) fresh opn es) ∨
    (K = 3 ∧ ((L = true ∧ Fin W l (delimEv es (i + n) opn true) false true) ∨ (L = false ∧ Sc0 W l (i + n + 1) true true (delimEv es (i + n) opn false)))) ∨
    (K = 0 ∧ Sc0 W l (i + n) false opn (es ++ byIf opn (i + n) ((l.drop i).take n))) := by
  have hlt := (List.getElem?_eq_some_iff.1 hx).1
  have hm := hM (i + n) (by omega)
  have hok := hm.ok
  have hn : nxt W l (i + n) = (m0 W l (i + n)).take b := by rw [nxt_byte hm hx, h.over, if_neg (by simp)]
  have e := m0_succ (W := W) (l := l) (i := i + n) (by omega)
  rw [hn] at e
  have hfm := h.fm [b]
  rw [← take_succ_drop hx, hR] at hfm
  have hk := run_keep (m0 W l (i + n)) b
  have hkh := run_hold (m0 W l (i + n)) b
  have htake := take_some (b := b) h.step
  obtain ⟨v, s', hr⟩ : ∃ v s', (m0 W l (i + n)).run b = (v, s') := ⟨_, _, rfl⟩
  have hF := run_fm hok.inv hok.li h.step hr
  have hI := hok.inv.run hb h.step hr
  have hok2 := hok.take hb
  rw [hr] at hk hkh htake
  dsimp only at hk hkh htake
  have hT : T W l (i + n + 1) = T W l (i + n) ++ ((m0 W l (i + n)).take b).out.map fun e => (i + n, e) := by rw [T, hn]
  cases v with
  | goes =>
    left
    dsimp only at htake
    have h1 := hF.1 []
    rw [← hfm] at h1
    refine ⟨?_, ?_⟩
    · have h2 := fm_end (s := { s' with hold := s'.hold ++ [b] }) hI hF.2.2
      have h3 : ({ s' with hold := s'.hold ++ [b] } : St).fm [] = (K, L) := h1.symm
      rw [h3] at h2
      exact h2
    · refine ⟨?_, ?_, fun y => ?_, ?_, ?_, ?_⟩
      · rw [← Nat.add_assoc, e, htake, take_succ_drop hx]
        show s'.hold ++ [b] = _
        rw [hkh.1, h.hold]
      · rw [← Nat.add_assoc, e, htake]
        exact hF.2.2
      · rw [← Nat.add_assoc, e, htake, take_succ_drop hx, List.append_assoc]
        rw [h.fm ([b] ++ y)]
        exact hF.1 y
      · rw [← Nat.add_assoc, e, htake]
        exact hk.2.2.trans h.over
      · rw [← Nat.add_assoc, e, htake]
        exact hk.2.1.trans h.opn
      · rw [← Nat.add_assoc, hT, htake, h.es]
        show _ = _ ++ List.map _ s'.out
        rw [hkh.2]
        simp [m0]
  | whole =>
    right; left
    dsimp only at htake
    have hF' : (m0 W l (i + n)).fm [b] = (3, s'.last) := hF
    rw [hF'] at hfm
    injection hfm with hK hL
    subst hK hL
    refine ⟨rfl, ?_⟩
    have hopn : s'.opn = opn := hk.2.1.trans h.opn
    have hout : s'.out = [] := hkh.2.trans rfl
    have hdo : s'.delim.out = (if opn then [Ev.cl] else []) ++ (if s'.last then [] else [Ev.op]) := by
      simp only [St.delim, St.fresh, hopn, hout]
      cases opn <;> rfl
    have hTe : T W l (i + n + 1) = delimEv es (i + n) opn s'.last := by
      rw [hT, htake, hdo, ← h.es]
      unfold delimEv
      cases opn <;> cases s'.last <;> simp
    cases hla : s'.last with
    | true =>
      left
      rw [hla] at hTe
      refine ⟨rfl, ?_⟩
      rw [← hTe]
      obtain ⟨k, hk2⟩ : ∃ k, i + n + 1 + k = l.length := ⟨l.length - (i + n + 1), by omega⟩
      exact Fin.past hM hk2 (by rw [e, htake]; exact hla)
    | false =>
      right
      rw [hla] at hTe
      refine ⟨rfl, ⟨m0 W l (i + n + 1), ?_, ?_, ?_, ?_, ?_, (fun h => by cases h), ?_, .inl rfl⟩⟩
      · exact (hM _ (by omega)).ok
      · rw [e, htake]; rfl
      · rw [e, htake]; exact hla
      · rw [e, htake]; show (!s'.last) = true; rw [hla]; rfl
      · intro _; rw [e, htake]; exact ⟨rfl, rfl, rfl⟩
      · rw [hTe]; simp [m0]
  | wrong =>
    right; right
    dsimp only at htake
    have hF' : (m0 W l (i + n)).fm [b] = (0, false) := hF
    rw [hF'] at hfm
    injection hfm with hK hL
    subst hK
    have hopn : s'.opn = opn := hk.2.1.trans h.opn
    have hout : s'.out = [] := hkh.2.trans rfl
    have hat := run_at hok.inv hb h.step hr rfl
    refine ⟨rfl, ⟨s'.free, ?_, rfl, ?_, hopn, (fun h => by cases h), fun _ => rfl, ?_, .inr ⟨rfl, hlt, h.over, fun c hc => ?_⟩⟩⟩
    · exact Ok2.free (hk.1.trans hok.want) (by rw [hk.1]; exact hok.inv.want0) (by rw [hk.1]; exact hok.inv.want) hat (by rw [hk.2.1, hk.2.2]; exact hok.ov)
    · exact hk.2.2.trans h.over
    · rw [h.es]
      unfold St.free byIf byEv
      simp only [hopn, hout, hkh.1, h.hold]
      cases opn <;> simp [Function.comp_def]
    · rw [hx] at hc
      injection hc with hc
      rw [← hc, htake]
theorem nxt_end (hM : Ms W l l.length) (ho : (m0 W l l.length).over = false) {d : Bool} (hd : (m0 W l l.length).delims8 = d) :
    nxt W l l.length = (let s2 := if d then (stAt W l l.length).1.e1.delim else (stAt W l l.length).1.e1.free; if s2.opn then { s2 with out := s2.out ++ [.cl] } else s2) := by
  unfold nxt
  rw [List.getElem?_eq_none (Nat.le_refl _)]
  show (stAt W l l.length).1.fin8 = _
  unfold St.fin8
  rw [if_neg (by rw [hM.ended, hM.told]; simp), if_neg (by rw [show (stAt W l l.length).1.over = false from ho]; simp)]
  unfold St.e2
  rw [show (stAt W l l.length).1.e1.delims8 = d from hd]
theorem whole_over : (whole W l).1.over = (nxt W l l.length).over := by
  have e : whole W l = stAt W l (l.length + 1) := by rw [stAt, if_neg (by omega)]
  rw [e, stAt_succ (Nat.le_refl _)]; rfl
theorem Sc.fin (h : Sc W l i n fresh opn es) (hM : Ms W l l.length) (hend : i + n = l.length) {K : Int} {L : Bool} (hR : look (strL W) ((l.drop i).take n) fresh = (K, L)) (hw : (strL W).head? = some 45) :
    (K = 2 ∧ Fin W l (delimEv es l.length opn L) (!L) L) ∨ (K = 1 ∧ Fin W l (es ++ byIf opn l.length ((l.drop i).take n)) opn false) := by
  obtain ⟨h1, h2, h3, h4, h5, h6⟩ := h
  rw [hend] at h1 h2 h3 h4 h5 h6
  have hfm := h3 []
  rw [List.append_nil, hR] at hfm
  have hok := hM.ok
  have hd := delims_fm hok.inv hok.li hok.hc (by rw [hok.want]; exact hw)
  rw [← hfm] at hd
  have hk := fm_end hok.inv h2
  rw [← hfm] at hk
  dsimp only at hd hk
  have hop1 : (stAt W l l.length).1.opn = opn := h5
  rcases hk with hk | hk
  · right
    refine ⟨hk, ?_⟩
    have hdd : (m0 W l l.length).delims8 = false := by rw [hd.1, hk]; rfl
    have hn := nxt_end hM h4 hdd
    have hh1 : (stAt W l l.length).1.hold = (l.drop i).take n := h1
    refine ⟨?_, ?_⟩
    · rw [T, hn, h6]
      simp only [Bool.false_eq_true, if_false, St.free, St.e1, hop1, hh1]
      unfold byIf byEv
      cases opn <;> simp [Function.comp_def]
    · rw [whole_over, hn]
      simp only [Bool.false_eq_true, if_false, St.free, St.e1, hop1]
      cases opn <;> exact h4
  · left
    refine ⟨hk, ?_⟩
    have hdd : (m0 W l l.length).delims8 = true := by rw [hd.1, hk]; rfl
    have hn := nxt_end hM h4 hdd
    have hL : (stAt W l l.length).1.last = L := (hd.2 hk).symm
    refine ⟨?_, ?_⟩
    · rw [T, hn, h6]
      simp only [if_true, St.delim, St.fresh, St.e1, hop1, hL]
      unfold delimEv
      cases opn <;> cases L <;> simp
    · rw [whole_over, hn]
      simp only [if_true, St.delim, St.fresh, St.e1, hop1, hL]
      cases L <;> rfl
theorem Sc0.fin (h : Sc0 W l l.length fresh opn es) (hM : Ms W l l.length) (hw : (strL W).head? = some 45) : Fin W l es opn false := by
  obtain ⟨s, hok, hh, hov, hop, hf, hs, hes, hm⟩ := h.ex
  have hm : s = m0 W l l.length := by
    rcases hm with e | e
    · exact e
    · omega
  subst hm
  have hd := (delims_fm hok.inv hok.li hok.hc (by rw [hok.want]; exact hw)).1
  have hdd : (m0 W l l.length).delims8 = false := by
    rw [hd]
    cases fresh with
    | false =>
      have := hs rfl
      unfold St.fm
      rw [this]; rfl
    | true =>
      obtain ⟨_, h1, h2⟩ := hf rfl
      unfold St.fm
      rw [h1, h2, hok.want]
      have hne : strL W ≠ [] := fun e => by rw [e] at hw; cases hw
      obtain ⟨x, r, hx⟩ := List.exists_cons_of_ne_nil hne
      rw [hx]; rfl
  have hn := nxt_end hM hov hdd
  have hop1 : (stAt W l l.length).1.opn = opn := hop
  have hh1 : (stAt W l l.length).1.hold = [] := hh
  refine ⟨?_, ?_⟩
  · rw [T, hn, hes]
    simp only [Bool.false_eq_true, if_false, St.free, St.e1, hop1, hh1]
    cases opn <;> simp [m0]
  · rw [whole_over, hn]
    simp only [Bool.false_eq_true, if_false, St.free, St.e1, hop1]
    cases opn <;> exact hov
theorem Sc0.new (h0 : 0 < W.size) (h1 : W.size ≤ 72) : Sc0 W l 0 true false [] := by
  have e : m0 W l 0 = St.new W := by simp [m0, stAt, runB, St.new]
  refine ⟨⟨m0 W l 0, ?_, ?_, ?_, ?_, ?_, (fun h => by cases h), ?_, .inl rfl⟩⟩
  · rw [e]; exact ⟨Inv.new h0 h1, fun _ => rfl, ⟨[], .inl rfl, by simp [St.new]⟩, rfl, fun h => by simp [St.new] at h⟩
  · rw [e]; rfl
  · rw [e]; rfl
  · rw [e]; rfl
  · intro _; rw [e]; exact ⟨rfl, rfl, rfl⟩
  · simp [T, m0]
end
end Go.Proofs.Ytmalacamfjdimaa.Pt
