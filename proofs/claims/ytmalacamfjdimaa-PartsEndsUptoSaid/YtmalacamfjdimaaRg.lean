/- The machine's events with the byte that each is known with (plain). -/
import Derived.Test.YtmalacamfjdimaaRf
namespace Go.Proofs.Ytmalacamfjdimaa.Pt
open Go.RowKit Go.Proofs.Ytmalacamfjdimaa.W

def m0 (W : ByteArray) (l : List Int) (i : Nat) : St := { (stAt W l i).1 with out := [], told := 0 }
def T (W : ByteArray) (l : List Int) : Nat → List (Nat × Ev)
  | 0 => []
  | i + 1 => T W l i ++ (nxt W l i).out.map fun e => (i, e)
theorem T_parts {W : ByteArray} {l : List Int} {i : Nat} (hi : i ≤ l.length + 1) : (stAt W l i).2 = ((T W l i).map Prod.snd).foldl addEv [] := by
  induction i with
  | zero => simp [stAt, runB, T]
  | succ i ih =>
    rw [stAt_succ (by omega), T, List.map_append, List.foldl_append, ← ih (by omega)]
    simp [Function.comp_def]

/-- What is true of a machine's state, besides Inv. -/
structure Ok2 (W : ByteArray) (s : St) : Prop where
  inv : Inv s
  li : LI s
  hc : Hc s
  want : s.want = W
  ov : s.over = true → s.opn = false

theorem run_keep (s : St) (b : Int) : (s.run b).2.want = s.want ∧ (s.run b).2.opn = s.opn ∧ (s.run b).2.over = s.over := by
  unfold St.run
  split
  · exact ⟨rfl, rfl, rfl⟩
  · exact ⟨rfl, rfl, rfl⟩
  · unfold St.rBorder
    split
    · dsimp only
      split <;> exact ⟨rfl, rfl, rfl⟩
    · exact ⟨rfl, rfl, rfl⟩
  · split
    · exact ⟨rfl, rfl, rfl⟩
    · unfold St.rBlanks
      repeat' split
      all_goals exact ⟨rfl, rfl, rfl⟩
  · exact ⟨rfl, rfl, rfl⟩
  · unfold St.rBlanks
    repeat' split
    all_goals exact ⟨rfl, rfl, rfl⟩
  · exact ⟨rfl, rfl, rfl⟩
theorem Ok2.tail {W : ByteArray} {s : St} (h : Ok2 W s) (hs : s.step = .none) (hh : s.hold = []) {b : Int} (hb : 0 ≤ b ∧ b < 256) : Ok2 W (s.tail b) := by
  refine ⟨h.inv.tail hh hb, ?_, ?_, ?_, ?_⟩
  · unfold St.tail St.say
    split
    · intro hx; simp at hx
    · split
      · intro _; rfl
      · split <;> exact h.li
  · unfold St.tail St.say
    split
    · rename_i e; show s.hold ++ [b] = [13]; rw [hh, e]; rfl
    · split
      · rename_i e
        exact ⟨[10], .inr (.inl rfl), by simp [St.rst, hh, e]⟩
      · split
        · unfold Hc; simp only [hs]; exact hh
        · unfold Hc; rw [hs]; exact hh
  · unfold St.tail St.say
    repeat' split
    all_goals exact h.want
  · unfold St.tail St.say
    repeat' split
    all_goals exact h.ov
theorem Ok2.free {W : ByteArray} {s : St} (hw : s.want = W) (h0 : 0 < s.want.size) (h1 : s.want.size ≤ 72) (ha : s.at_ ≤ 72) (ov : s.over = true → s.opn = false) : Ok2 W s.free :=
  ⟨Inv.free h0 h1 ha, (fun hx => by simp [St.free] at hx), rfl, hw, ov⟩
theorem Ok2.delim {W : ByteArray} {s : St} (hw : s.want = W) (h0 : 0 < s.want.size) (h1 : s.want.size ≤ 72) : Ok2 W s.delim :=
  ⟨Inv.delim h0 h1, fun _ => rfl, ⟨[], .inl rfl, by simp [St.delim, St.fresh]⟩, hw, fun h => by simp [St.delim, St.fresh] at h ⊢; exact h⟩
theorem run_at {s : St} (h : Inv s) {b : Int} (hb : 0 ≤ b ∧ b < 256) (hs : s.step ≠ .none) {s' : St} {v : Verd} (hr : s.run b = (v, s')) (hv : v = .wrong) : s'.at_ ≤ 72 := by
  subst hv
  have := h.run hb hs hr
  exact this.at_
theorem Ok2.take {W : ByteArray} {s : St} (h : Ok2 W s) {b : Int} (hb : 0 ≤ b ∧ b < 256) : Ok2 W (s.take b) := by
  by_cases hs : s.step = .none
  · rw [take_none hs]
    have hh : s.hold = [] := by
      have := h.hc
      unfold Hc at this
      rw [hs] at this
      exact this
    exact h.tail hs hh hb
  · rw [take_some hs]
    have hk := run_keep s b
    obtain ⟨v, s', hr⟩ : ∃ v s', s.run b = (v, s') := ⟨_, _, rfl⟩
    have hI := h.inv.run hb hs hr
    have hF := run_fm h.inv h.li hs hr
    have hw0 := h.inv.want0
    have hw1 := h.inv.want
    cases v with
    | wrong =>
      have ha := run_at h.inv hb hs hr rfl
      rw [hr] at hk ⊢
      dsimp only at hk ⊢
      exact (Ok2.free (hk.1.trans h.want) (by rw [hk.1]; exact hw0) (by rw [hk.1]; exact hw1) ha (by rw [hk.2.1, hk.2.2]; exact h.ov)).tail rfl rfl hb
    | goes =>
      have hcg := Hc.goes h.inv h.li h.hc hs hr
      rw [hr] at hk ⊢
      dsimp only at hk ⊢
      exact ⟨hI, hF.2.1, hcg, hk.1.trans h.want, by rw [show ({ s' with hold := s'.hold ++ [b] } : St).over = s'.over from rfl, show ({ s' with hold := s'.hold ++ [b] } : St).opn = s'.opn from rfl, hk.2.1, hk.2.2]; exact h.ov⟩
    | whole =>
      rw [hr] at hk ⊢
      dsimp only at hk ⊢
      exact Ok2.delim (hk.1.trans h.want) (by rw [hk.1]; exact hw0) (by rw [hk.1]; exact hw1)
theorem Ok2.same {W : ByteArray} {s s' : St} (h : Ok2 W s) (e : s' = { s with out := s'.out, told := s'.told, ended := s'.ended }) : Ok2 W s' := by
  rw [e]
  exact ⟨⟨h.inv.want0, h.inv.want, h.inv.at_, h.inv.by_, h.inv.step⟩, h.li, h.hc, h.want, h.ov⟩

/-- The machine between two bytes. -/
structure Ms (W : ByteArray) (l : List Int) (i : Nat) : Prop where
  ok : Ok2 W (m0 W l i)
  told : (stAt W l i).1.told = (stAt W l i).1.out.length
  ended : (stAt W l i).1.ended = false
  len : (T W l i).length ≤ 100 * i

theorem put_eq {s : St} (b : Int) (he : s.ended = false) (ht : s.told = s.out.length) : s.put b = if s.over then (true, { s with out := [], told := 0 }) else (true, St.take b { s with out := [], told := 0 }) := by
  unfold St.put
  rw [if_neg (by rw [he, ht]; simp)]
theorem nxt_byte {W : ByteArray} {l : List Int} {i : Nat} {x : Int} (h : Ms W l i) (hx : l[i]? = some x) : nxt W l i = if (m0 W l i).over then m0 W l i else (m0 W l i).take x := by
  unfold nxt
  rw [hx]
  dsimp only
  rw [put_eq x h.ended h.told]
  show (if (stAt W l i).1.over then _ else _ : Bool × St).2 = if (stAt W l i).1.over then _ else _
  split <;> rfl
theorem Ms.next {W : ByteArray} {l : List Int} {i : Nat} (h : Ms W l i) (hl : Bytes l) (hi : i < l.length) : Ms W l (i + 1) := by
  obtain ⟨x, hx⟩ : ∃ x, l[i]? = some x := ⟨_, List.getElem?_eq_getElem hi⟩
  have hm := hl x (List.mem_of_getElem? hx)
  have hn := nxt_byte h hx
  have e : m0 W l (i + 1) = { nxt W l i with out := [], told := 0 } := by
    unfold m0
    rw [stAt_succ (by omega)]; rfl
  have hok : Ok2 W (nxt W l i) := by
    rw [hn]
    split
    · exact h.ok
    · exact h.ok.take hm
  have hen : (nxt W l i).ended = false := by
    rw [hn]
    split
    · exact h.ended
    · exact (take_told _ _).2.trans h.ended
  have hln : (nxt W l i).out.length ≤ 100 := by
    rw [hn]
    split
    · exact Nat.zero_le _
    · exact Nat.le_succ_of_le (take_len rfl h.ok.inv.ok.hold)
  refine ⟨?_, ?_, ?_, ?_⟩
  · rw [e]; exact hok.same rfl
  · rw [stAt_succ (by omega)]; rfl
  · rw [stAt_succ (by omega)]; exact hen
  · rw [T, List.length_append, List.length_map]
    have := h.len
    omega
theorem Ms.all {W : ByteArray} {l : List Int} (h0 : 0 < W.size) (h1 : W.size ≤ 72) (hl : Bytes l) : ∀ i, i ≤ l.length → Ms W l i := by
  intro i
  induction i with
  | zero =>
    intro _
    have e : stAt W l 0 = (St.new W, []) := by simp [stAt, runB]
    refine ⟨?_, ?_, ?_, ?_⟩
    · unfold m0
      rw [e]
      exact ⟨Inv.new h0 h1, fun _ => rfl, ⟨[], .inl rfl, by simp [St.new]⟩, rfl, fun h => by simp [St.new] at h⟩
    · rw [e]; rfl
    · rw [e]; rfl
    · simp [T]
  | succ i ih => exact fun hi => (ih (by omega)).next hl (by omega)
end Go.Proofs.Ytmalacamfjdimaa.Pt
