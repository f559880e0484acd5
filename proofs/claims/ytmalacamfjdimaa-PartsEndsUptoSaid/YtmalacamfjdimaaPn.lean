/- The walk of parts.Whole. -/
import Derived.Test.YtmalacamfjdimaaPo
import Derived.Test.YtmalacamfjdimaaPrt
import Derived.Deep.RegionLaw
import Derived.Deep.AppendLies
namespace Go.Proofs.Ytmalacamfjdimaa.Pt
open Go.RowKit Go.Proofs.Ytmalacamfjdimaa.W

theorem el8 : El Try.prog 22 5 (.int .u8 0) 1 := ⟨Try.underlying22, by kernel_rfl, rfl⟩
theorem el88 : El Try.prog 23 22 (.slice none 0 0) 24 := ⟨Try.underlying23, by kernel_rfl, rfl⟩

/-- What an event's struct holds, or the empty one. -/
theorem evA_agg (e : Option Ev) : ∃ kk bb nn : Int, evA e = .agg #[.int .i64 kk, .int .u8 bb, .int .i64 nn, .int .i64 0, .string ⟨#[]⟩] ∧ (e = some .op → kk = 1) ∧ (∀ b, e = some (.by_ b) → kk = 2 ∧ bb = b) ∧ (e = some .cl → kk = 3) := by
  cases e with
  | none => exact ⟨0, 0, 0, rfl, by simp, by simp, by simp⟩
  | some e =>
    cases e with
    | op => exact ⟨1, 0, 3, rfl, by simp, by simp, by simp⟩
    | by_ b => exact ⟨2, b, 0, rfl, by simp, fun b' h => by simp at h; exact ⟨rfl, h⟩, by simp⟩
    | cl => exact ⟨3, 0, 0, rfl, by simp, by simp, by simp⟩

/-- One byte put in, and all its events taken. -/
def stepB (x : St × List (List Int)) (b : Int) : St × List (List Int) := ((x.1.put b).2.drain, (x.1.put b).2.out.foldl addEv x.2)
def stepE (x : St × List (List Int)) : St × List (List Int) := (x.1.fin8.drain, x.1.fin8.out.foldl addEv x.2)
def runB (W : ByteArray) (l : List Int) : St × List (List Int) := l.foldl stepB (St.new W, [])
def whole (W : ByteArray) (l : List Int) : St × List (List Int) := stepE (runB W l)

/-- Rows that are few and short. -/
def Sz (M : Nat) (ps : List (List Int)) : Prop := ps.length ≤ M ∧ ∀ r ∈ ps, r.length ≤ M
theorem Sz.add {M : Nat} {ps : List (List Int)} (h : Sz M ps) (e : Ev) : Sz (M + 1) (addEv ps e) := by
  obtain ⟨h1, h2⟩ := h
  cases e with
  | op =>
    refine ⟨by simp [addEv]; exact h1, fun r hr => ?_⟩
    rcases List.mem_append.1 hr with h | h
    · exact Nat.le_succ_of_le (h2 r h)
    · simp at h; subst h; exact Nat.zero_le _
  | by_ b =>
    refine ⟨by simp [addEv]; omega, fun r hr => ?_⟩
    rcases List.mem_or_eq_of_mem_set hr with h | h
    · exact Nat.le_succ_of_le (h2 r h)
    · subst h
      have : (ps.getD (ps.length - 1) []).length ≤ M := by
        rw [List.getD_eq_getElem?_getD]
        cases hx : ps[ps.length - 1]? with
        | none => exact Nat.zero_le _
        | some r => exact h2 r (List.mem_of_getElem? hx)
      simp
      exact this
  | cl => exact ⟨Nat.le_succ_of_le h1, fun r hr => Nat.le_succ_of_le (h2 r hr)⟩
theorem Sz.mono {M N : Nat} {ps : List (List Int)} (h : Sz M ps) (hmn : M ≤ N) : Sz N ps := ⟨Nat.le_trans h.1 hmn, fun r hr => Nat.le_trans (h.2 r hr) hmn⟩
theorem Sz.fold {l : List Ev} {M : Nat} {ps : List (List Int)} (h : Sz M ps) : Sz (M + l.length) (l.foldl addEv ps) := by
  induction l generalizing M ps with
  | nil => exact h
  | cons e l ih => exact (ih (h.add e)).mono (by simp; omega)
theorem delim_len {s : St} (h : s.out = []) : s.delim.out.length ≤ 2 := by
  rw [delim_eq]
  simp only [St.fresh, St.d2, St.d1, h]
  cases s.opn <;> cases s.last <;> simp
theorem tail_len {s : St} (b : Int) : (s.tail b).out.length ≤ s.out.length + 1 := by
  unfold St.tail
  split
  · exact Nat.le_succ _
  · split
    · exact Nat.le_succ _
    · unfold St.say; split
      · simp
      · exact Nat.le_succ _
theorem free_len {s : St} (h : s.out = []) : s.free.out.length ≤ s.hold.length := by
  unfold St.free
  cases s.opn <;> simp [h]
theorem take_len {s : St} {b : Int} (h : s.out = []) (hh : s.hold.length ≤ 93) : (s.take b).out.length ≤ 99 := by
  by_cases hs : s.step = .none
  · rw [take_none hs]
    have := tail_len (s := s) b
    rw [h] at this
    exact Nat.le_trans this (by decide)
  · rw [take_some hs]
    have hk := run_hold s b
    obtain ⟨v, s', hr⟩ : ∃ v s', s.run b = (v, s') := ⟨_, _, rfl⟩
    rw [hr] at hk ⊢
    dsimp only at hk
    cases v
    · have h1 := tail_len (s := s'.free) b
      have h2 := free_len (s := s') (by rw [hk.2, h])
      rw [hk.1] at h2
      dsimp only
      omega
    · dsimp only; rw [hk.2, h]; exact Nat.zero_le _
    · dsimp only; exact Nat.le_trans (delim_len (by rw [hk.2, h])) (by decide)

theorem next_told (s : St) (k : Nat) : ({ s with told := k } : St).next = (s.out[k]?, { s with told := if k < s.out.length then k + 1 else k }) := by
  unfold St.next
  dsimp only
  by_cases h : k < s.out.length
  · rw [List.getElem?_eq_getElem h, if_pos h]
  · rw [List.getElem?_eq_none (by omega), if_neg h]

/-- The blocks that the parts do not lie in. -/
def sS (w : World) (p hb ob : Nat) : List Nat := List.range w.heap.size ++ [p, hb, ob]
theorem sS_not {w : World} {p hb ob t : Nat} (h : t ∉ sS w p hb ob) : w.heap.size ≤ t ∧ t ≠ p ∧ t ≠ hb ∧ t ≠ ob := by
  unfold sS at h
  simp at h
  omega
theorem sS_lt {w wx : World} {p hb ob : Nat} {s : St} (hb_ : Below w.heap.size w wx) (h : Spl wx p hb ob s) : ∀ k ∈ sS w p hb ob, k < wx.heap.size := fun k hk => by
  have h1 := h.lt
  have h2 := own_lt h.hold
  have h3 := own_lt h.out
  have h4 := hb_.size
  unfold sS at hk
  simp at hk
  omega
theorem own_ne {w : World} {base : Nat} {e t : TypeId} {size n : Nat} {v : Value} {xs : List Value} {cs : Array Value} {xb k : Nat} (h : w.ownsRow base e size v n xs) (hx : w.heap[xb]? = some (.cells cs t (0, 0))) (hne : e ≠ t) (hk : v.ownBlock = some k) : k ≠ xb := by
  rcases h.2 with ⟨rfl, _⟩ | ⟨g, cap, cur, rfl, _, hg, _⟩
  · simp [Value.ownBlock] at hk
  · simp only [Value.ownBlock, Option.some.injEq] at hk
    subst hk
    rintro rfl
    rw [hg] at hx
    injection hx with h1
    injection h1 with _ h2 _
    exact hne h2
theorem own_fz {w : World} {base : Nat} {e : TypeId} {size g n cap : Nat} {xs : List Value} (h : w.ownsRow base e size (.slice (some ⟨g, 0, none⟩) n cap) n xs) (i : Nat) : w.frozen? ⟨g, i, none⟩ = false := by
  rcases h.2 with ⟨h1, _⟩ | ⟨g', cap', cur, h1, _, hg, _⟩
  · cases h1
  · injection h1 with h2 _ _
    injection h2 with h2
    injection h2 with h2
    subst h2
    exact frozen_of_row w g i _ _ hg
theorem Prt.slot {w w1 : World} {S : List Nat} {g m c : Nat} {vs : List Value} {ls : List (List Int)} {v : Value} {l : List Int} {o : Obj} (h : Prt w S (some ⟨g, 0, none⟩) (m + 1) c vs ls) (hv : vs[m]? = some v) (hl : ls[m]? = some l) (grow : (w.alloc o).grownBy w1 v.ownBlock) : w1.cell? ⟨g, m, none⟩ = some v ∧ w1.frozen? ⟨g, m, none⟩ = false := by
  obtain ⟨v', hv', hov, _⟩ := h.row m l hl
  rw [hv] at hv'
  injection hv' with hv'
  subst hv'
  have hgv : v.ownBlock ≠ some g := own_type h.own hov ty_ne rfl
  have hg : g < w.heap.size := own_lt h.own
  have hw1g : w1.heap[g]? = w.heap[g]? := (grow.block g (by simp; omega) (fun e => hgv e.symm)).trans (Below.heap_alloc w o g hg)
  have own1 : w1.ownsRow 0 22 1 (.slice (some ⟨g, 0, none⟩) (m + 1) c) (m + 1) vs := own_same h.own fun k hk => by
    simp [Value.ownBlock] at hk
    subst hk
    exact hw1g
  exact ⟨own_elem own1 hv, own_fz own1 m⟩
theorem Prt.narrow {w : World} {S T : List Nat} {A : Option Addr} {n c : Nat} {vs : List Value} {ls : List (List Int)} (h : Prt w S A n c vs ls) (hs : ∀ k ∈ T, k ∈ S) : Prt w T A n c vs ls :=
  ⟨h.own, h.len, fun k hk hm => h.avoid k hk (hs k hm), fun i l hl => by
    obtain ⟨v, hv, ho, ha⟩ := h.row i l hl
    exact ⟨v, hv, ho, fun k hk hm => ha k hk (hs k hm)⟩, h.apart⟩

/-- What holds while events are taken: k of them are told, the next one lies in block xb. -/
structure Dr (w wx : World) (p hb ob : Nat) (s : St) (ps0 : List (List Int)) (k : Nat) (A : Option Addr) (n c : Nat) (vs : List Value) (xb : Nat) (kk bb nn : Int) : Prop where
  spl : Spl wx p hb ob { s with told := if k < s.out.length then k + 1 else k }
  prt : Prt wx (sS w p hb ob) A n c vs ((s.out.take k).foldl addEv ps0)
  ev : evA s.out[k]? = .agg #[.int .i64 kk, .int .u8 bb, .int .i64 nn, .int .i64 0, .string ⟨#[]⟩]
  x : wx.heap[xb]? = some (.cells #[.int .i64 kk, .int .u8 bb, .int .i64 nn, .int .i64 0, .string ⟨#[]⟩] 46 (0, 0))
  below : Below w.heap.size w wx
  xge : w.heap.size ≤ xb
  xne : xb ≠ p ∧ xb ≠ hb ∧ xb ≠ ob

theorem Dr.step {w wx w' : World} {p hb ob : Nat} {s : St} {ps0 : List (List Int)} {k : Nat} {A : Option Addr} {n c : Nat} {vs : List Value} {xb : Nat} {kk bb nn : Int} (D : Dr w wx p hb ob s ps0 k A n c vs xb kk bb nn) (hk : k < s.out.length) {T : List Nat} (hK : Kp T wx w') (hT : ∀ t ∈ T, t ∉ sS w p hb ob ∧ t ≠ xb) :
    Spl w' p hb ob { s with told := k + 1 } ∧ w'.heap[xb]? = wx.heap[xb]? ∧ Below w.heap.size w w' := by
  have h1 := D.spl
  rw [if_pos hk] at h1
  have hn : ∀ t ∈ T, w.heap.size ≤ t ∧ t ≠ p ∧ t ≠ hb ∧ t ≠ ob := fun t ht => sS_not (hT t ht).1
  exact ⟨h1.kept hK (fun h => (hn _ h).2.1 rfl) (fun h => (hn _ h).2.2.1 rfl) (fun h => (hn _ h).2.2.2 rfl), hK.block xb (Array.getElem?_eq_some_iff.1 D.x).1 (fun h => (hT _ h).2 rfl), D.below.trans (hK.below D.below.size fun t ht => (hn t ht).1)⟩
theorem Dr.byte {w wq w6 : World} {p hb ob : Nat} {s : St} {ps0 pss : List (List Int)} {k : Nat} {g m c c6 cV : Nat} {A6 AV : Option Addr} {vs : List Value} {xb : Nat} {kk bb nn bv : Int} {rr : List Int} {o : Obj} (D : Dr w wq p hb ob s ps0 k (some ⟨g, 0, none⟩) (m + 1) c vs xb kk bb nn) (hk : k < s.out.length)
    (hf : (s.out.take (k + 1)).foldl addEv ps0 = addEv ((s.out.take k).foldl addEv ps0) (.by_ bv)) (hp : (s.out.take k).foldl addEv ps0 = pss) (hr : pss[m]? = some rr) (hv : vs[m]? = some (.slice AV rr.length cV))
    (own : w6.ownsRow 0 5 1 (.slice A6 (rr.length + 1) c6) (rr.length + 1) (u8s rr ++ [.int .u8 bv])) (grow : (wq.drew.alloc o).grownBy w6 (Value.slice AV rr.length cV).ownBlock)
    (hat : (Value.slice A6 (rr.length + 1) c6).ownBlock = (Value.slice AV rr.length cV).ownBlock ∨ (Value.slice A6 (rr.length + 1) c6).ownBlock = some (wq.drew.alloc o).heap.size) :
    ∃ A3 m3 c3 vs3, Value.slice (some ⟨g, 0, none⟩) (m + 1) c = Value.slice A3 m3 c3 ∧ Prt (w6.setCell ⟨g, m, none⟩ (.slice A6 (rr.length + 1) c6)) (sS w p hb ob) A3 m3 c3 vs3 ((s.out.take (k + 1)).foldl addEv ps0) ∧
      Spl (w6.setCell ⟨g, m, none⟩ (.slice A6 (rr.length + 1) c6)) p hb ob { s with told := k + 1 } ∧ (w6.setCell ⟨g, m, none⟩ (.slice A6 (rr.length + 1) c6)).heap[xb]? = wq.heap[xb]? ∧ Below w.heap.size w (w6.setCell ⟨g, m, none⟩ (.slice A6 (rr.length + 1) c6)) := by
  have hP := D.prt
  rw [hp] at hP hf
  have hPd : Prt wq.drew (sS w p hb ob) (some ⟨g, 0, none⟩) (m + 1) c vs pss := hP.kept (Kp.refl [] wq).drew (by simp)
  obtain ⟨v', hv', hov, hav⟩ := hP.row m rr hr
  rw [hv] at hv'
  injection hv' with hv'
  subst hv'
  have hlen := hP.len
  have e : addEv pss (.by_ bv) = pss.set m (rr ++ [bv]) := by
    simp only [addEv]
    rw [hlen, show m + 1 - 1 = m by omega, List.getD_eq_getElem?_getD, hr]
    rfl
  rw [hf, e]
  refine ⟨_, _, _, _, rfl, hPd.byte hr hv (x := rr ++ [bv]) (by rw [u8s_append]; exact own) (by simp) grow hat (fun k hk => sS_lt D.below D.spl k hk), ?_⟩
  refine D.step hk (T := g :: (Value.slice AV rr.length cV).ownBlock.toList) (((Kp.refl _ wq).drew).trans (Prt.kp_byte grow _ (fun k hk => by rw [hk]; simp) (by simp))) (fun t ht => ?_)
  rcases List.mem_cons.1 ht with rfl | ht
  · exact ⟨hP.avoid _ rfl, own_ne hP.own D.x (by decide) rfl⟩
  · have ht' : (Value.slice AV rr.length cV).ownBlock = some t := by simpa using ht
    exact ⟨hav t ht', own_ne hov D.x (by decide) ht'⟩
theorem nx_done {w5 w' : World} {X : Nat} {a b c d e a' b' c' d' e' : Value} {t : TypeId} (h : w5.heap[X]? = some (.cells #[a', b', c', d', e'] t (0, 0)))
    (hw : w' = ((((w5.setCell ⟨X, 0, none⟩ a).setCell ⟨X, 1, none⟩ b).setCell ⟨X, 2, none⟩ c).setCell ⟨X, 3, none⟩ d).setCell ⟨X, 4, none⟩ e) :
    w'.heap[X]? = some (.cells #[a, b, c, d, e] t (0, 0)) ∧ Kp [X] w5 w' := by
  subst hw
  refine ⟨?_, ?_⟩
  · exact heap_set (heap_set (heap_set (heap_set (heap_set h 0 a) 1 b) 2 c) 3 d) 4 e
  · exact (((((Kp.refl [X] w5).setCell (.inl (by simp)) a).setCell (.inl (by simp)) b).setCell (.inl (by simp)) c).setCell (.inl (by simp)) d).setCell (.inl (by simp)) e
theorem Dr.next {w wx w5 w' : World} {p hb ob : Nat} {s : St} {ps0 : List (List Int)} {k k' : Nat} {A : Option Addr} {n c : Nat} {vs : List Value} {kk bb nn : Int} {o : Obj}
    (hP : Prt wx (sS w p hb ob) A n c vs ((s.out.take k').foldl addEv ps0)) (hB : Below w.heap.size w wx) (hS0 : Spl wx p hb ob { s with told := k }) (hS : Spl w5 p hb ob { s with told := if k' < s.out.length then k' + 1 else k' }) (hK : Kp [p] (wx.alloc o) w5)
    (hx : w'.heap[wx.heap.size]? = some (.cells #[.int .i64 kk, .int .u8 bb, .int .i64 nn, .int .i64 0, .string ⟨#[]⟩] 46 (0, 0))) (hK' : Kp [wx.heap.size] w5 w') (hev : evA s.out[k']? = .agg #[.int .i64 kk, .int .u8 bb, .int .i64 nn, .int .i64 0, .string ⟨#[]⟩]) (hpw : w.heap.size ≤ p) :
    Dr w w' p hb ob s ps0 k' A n c vs wx.heap.size kk bb nn := by
  have h1 := hS0.lt
  have h2 := own_lt hS0.hold
  have h3 := own_lt hS0.out
  have h4 := hB.size
  have k1 : Kp [p] wx w5 := ((Kp.refl [p] wx).alloc o).trans (hK.mono (fun k hk => .inl hk) |> fun h => ⟨h.os, h.tape, h.output, h.size, fun k hk => h.block k hk⟩)
  have hxn : wx.heap.size ≠ p ∧ wx.heap.size ≠ hb ∧ wx.heap.size ≠ ob := ⟨by omega, by omega, by omega⟩
  have k2 : Kp [p] wx w' := ((k1.mono (T := [p, wx.heap.size]) (fun k hk => .inl (by simp at hk ⊢; exact .inl hk))).trans (hK'.mono (T := [p, wx.heap.size]) (fun k hk => .inl (by simp at hk ⊢; exact .inr hk)))).mono (fun k hk => by simp at hk; rcases hk with rfl | rfl; exact .inl (by simp); exact .inr (Nat.le_refl _))
  exact ⟨hS.kept hK' (by simpa using hxn.1.symm) (by simpa using hxn.2.1.symm) (by simpa using hxn.2.2.symm), hP.kept k2 (fun k hk => .inl (List.mem_append_right _ (by simp at hk; subst hk; simp))), hev, hx, hB.trans (k2.below h4 (fun k hk => by simp at hk; omega)), h4, hxn⟩

theorem Dr.first {w wc w3 : World} {p hb ob : Nat} {s : St} {ps0 : List (List Int)} {A : Option Addr} {n c : Nat} {vs : List Value} {kk bb nn : Int}
    (hP : Prt wc (sS w p hb ob) A n c vs ps0) (hB : Below w.heap.size w wc) (hM : Spl wc p hb ob s) (ht : s.told = 0) (hS : Spl w3 p hb ob s.next.2) (hK : Kp [p] wc w3) (hev : evA s.out[0]? = .agg #[.int .i64 kk, .int .u8 bb, .int .i64 nn, .int .i64 0, .string ⟨#[]⟩]) (hpw : w.heap.size ≤ p) :
    Dr w (w3.alloc (.cells #[.int .i64 kk, .int .u8 bb, .int .i64 nn, .int .i64 0, .string ⟨#[]⟩] 46)) p hb ob s ps0 0 A n c vs w3.heap.size kk bb nn := by
  have h1 := hS.lt
  have h2 := own_lt hS.hold
  have h3 := own_lt hS.out
  have hB3 : Below w.heap.size w w3 := hB.trans (hK.below hB.size (fun k hk => by simp at hk; omega))
  have h4 := hB3.size
  have e : s.next.2 = { s with told := if 0 < s.out.length then 0 + 1 else 0 } := by
    have h5 := next_told s 0
    rw [show ({ s with told := 0 } : St) = s by rw [← ht]] at h5
    rw [h5]
  rw [e] at hS
  have k1 : Kp [] w3 (w3.alloc (.cells #[.int .i64 kk, .int .u8 bb, .int .i64 nn, .int .i64 0, .string ⟨#[]⟩] 46)) := (Kp.refl _ _).alloc _
  exact ⟨hS.kept k1 (by simp) (by simp) (by simp), (hP.kept hK (fun k hk => .inl (List.mem_append_right _ (by simp at hk; subst hk; simp)))).kept k1 (by simp), hev, heap_alloc_new w3 _, hB3.trans (k1.below h4 (by simp)), h4, by omega, by omega, by omega⟩

/-- What holds ahead of byte i (i = length: ahead of the end; one more: behind it). -/
def stAt (W : ByteArray) (l : List Int) (i : Nat) : St × List (List Int) := if i ≤ l.length then runB W (l.take i) else whole W l
structure Ol (w wx : World) (p hb ob : Nat) (W : ByteArray) (l : List Int) (i : Nat) (A : Option Addr) (n c : Nat) (vs : List Value) : Prop where
  spl : Spl wx p hb ob (stAt W l i).1
  prt : Prt wx (sS w p hb ob) A n c vs (stAt W l i).2
  below : Below w.heap.size w wx
  inv : i ≤ l.length → Inv (stAt W l i).1
  opn : i ≤ l.length → (stAt W l i).1.opn = true → (stAt W l i).2 ≠ []
  told : (stAt W l i).1.told = (stAt W l i).1.out.length
  run : i ≤ l.length → (stAt W l i).1.ended = false
  sz : i ≤ l.length + 1 → Sz (100 * i) (stAt W l i).2

theorem runB_succ {W : ByteArray} {l : List Int} {i : Nat} {x : Int} (h : l[i]? = some x) : runB W (l.take (i + 1)) = stepB (runB W (l.take i)) x := by
  obtain ⟨hi, hx⟩ := List.getElem?_eq_some_iff.1 h
  unfold runB
  rw [List.take_succ_eq_append_getElem hi, List.foldl_append, hx]
  rfl
theorem take_told (s : St) (b : Int) : (s.take b).told = s.told ∧ (s.take b).ended = s.ended := by
  have tl : ∀ (t : St), (t.tail b).told = t.told ∧ (t.tail b).ended = t.ended := fun t => by
    unfold St.tail St.say
    repeat' split
    all_goals exact ⟨rfl, rfl⟩
  by_cases hs : s.step = .none
  · rw [take_none hs]; exact tl s
  · rw [take_some hs]
    have hr : (s.run b).2.told = s.told ∧ (s.run b).2.ended = s.ended := by
      unfold St.run
      split
      · exact ⟨rfl, rfl⟩
      · exact ⟨rfl, rfl⟩
      · unfold St.rBorder
        split
        · dsimp only
          split <;> exact ⟨rfl, rfl⟩
        · exact ⟨rfl, rfl⟩
      · split
        · exact ⟨rfl, rfl⟩
        · unfold St.rBlanks
          repeat' split
          all_goals exact ⟨rfl, rfl⟩
      · exact ⟨rfl, rfl⟩
      · unfold St.rBlanks
        repeat' split
        all_goals exact ⟨rfl, rfl⟩
      · exact ⟨rfl, rfl⟩
    obtain ⟨v, s', hv⟩ : ∃ v s', s.run b = (v, s') := ⟨_, _, rfl⟩
    rw [hv] at hr ⊢
    dsimp only at hr
    cases v
    · dsimp only
      rw [(tl _).1, (tl _).2]
      exact hr
    · exact hr
    · exact hr
theorem put_facts {s : St} {b : Int} (ps : List (List Int)) (hb : 0 ≤ b ∧ b < 256) (h : Inv s) (he : s.ended = false) (ht : s.told = s.out.length) (ho : s.opn = true → ps ≠ []) :
    (s.put b).1 = true ∧ (s.put b).2.told = 0 ∧ (s.put b).2.ended = false ∧ Inv (s.put b).2 ∧ (noBy (s.put b).2.out ∨ ps ≠ []) ∧ ((s.put b).2.opn = true → (s.put b).2.out.foldl addEv ps ≠ []) ∧ (s.put b).2.out.length ≤ 100 := by
  have hp : s.put b = if s.over then (true, { s with out := [], told := 0 }) else (true, St.take b { s with out := [], told := 0 }) := by
    unfold St.put
    rw [he, ht, decide_eq_false (Nat.lt_irrefl _)]
    rfl
  have hI := h.put hb
  by_cases hov : s.over = true
  · rw [if_pos hov] at hp
    rw [hp] at hI ⊢
    exact ⟨rfl, rfl, he, hI, .inl (fun b hb => by cases hb), ho, Nat.zero_le _⟩
  · rw [if_neg hov] at hp
    rw [hp] at hI ⊢
    have h1 := take_told { s with out := [], told := 0 } b
    refine ⟨rfl, h1.1, h1.2.trans he, hI, ?_, take_opn ps ho, Nat.le_succ_of_le (take_len rfl h.ok.hold)⟩
    rcases take_by (s := { s with out := [], told := 0 }) (b := b) rfl with h2 | h2
    · exact .inl h2
    · exact .inr (ho h2)
theorem fin_facts {s : St} (ps : List (List Int)) (he : s.ended = false) (ht : s.told = s.out.length) (ho : s.opn = true → ps ≠ []) (hh : s.hold.length ≤ 93) :
    s.fin8.told = 0 ∧ (noBy s.fin8.out ∨ ps ≠ []) ∧ s.fin8.out.length ≤ 100 := by
  have hf : s.fin8 = if s.over then s.e1 else if s.e2.opn then { s.e2 with out := s.e2.out ++ [.cl] } else s.e2 := by
    unfold St.fin8
    rw [he, ht, decide_eq_false (Nat.lt_irrefl _)]
    rfl
  have h2 : s.e2.told = 0 := by
    unfold St.e2
    split <;> rfl
  have hby : noBy s.e2.out ∨ s.opn = true := by
    unfold St.e2
    split
    · left; exact delim_noBy rfl
    · rcases free_out s.e1 with h1 | h1
      · left; rw [h1]; intro b hb; cases hb
      · right; exact h1
  have hln : s.e2.out.length ≤ 93 := by
    unfold St.e2
    split
    · exact Nat.le_trans (delim_len rfl) (by decide)
    · exact Nat.le_trans (free_len rfl) hh
  rw [hf]
  split
  · exact ⟨rfl, .inl (fun b hb => by cases hb), Nat.zero_le _⟩
  · split
    · refine ⟨h2, ?_, by simp; omega⟩
      rcases hby with h | h
      · left
        intro b hb
        rcases List.mem_append.1 hb with h3 | h3
        · exact h b h3
        · simp at h3
      · exact .inr (ho h)
    · refine ⟨h2, ?_, by omega⟩
      rcases hby with h | h
      · exact .inl h
      · exact .inr (ho h)

theorem Ol.start {w w1 : World} {p hb ob : Nat} {W : ByteArray} {l : List Int} (h : Spl w1 p hb ob (St.new W)) (hbl : Below w.heap.size w w1) (hW : 0 < W.size ∧ W.size ≤ 72) : Ol w w1 p hb ob W l 0 none 0 0 [] := by
  have e : stAt W l 0 = (St.new W, []) := by simp [stAt, runB]
  refine ⟨?_, ?_, hbl, ?_, ?_, ?_, ?_, ?_⟩
  all_goals rw [e]
  · exact h
  · exact Prt.nil _ _
  · exact fun _ => Inv.new hW.1 hW.2
  · intro _ h; cases h
  · rfl
  · exact fun _ => rfl
  · exact fun _ => ⟨Nat.le_refl _, fun r hr => by cases hr⟩

/-- The state behind the next byte, or the end, before its events are taken. -/
def nxt (W : ByteArray) (l : List Int) (i : Nat) : St := match l[i]? with
  | some x => ((stAt W l i).1.put x).2
  | none => (stAt W l i).1.fin8
theorem stAt_succ {W : ByteArray} {l : List Int} {i : Nat} (hi : i ≤ l.length) : stAt W l (i + 1) = ((nxt W l i).drain, (nxt W l i).out.foldl addEv (stAt W l i).2) := by
  unfold nxt
  cases hx : l[i]? with
  | some x =>
    have hlt := (List.getElem?_eq_some_iff.1 hx).1
    have e : stAt W l i = runB W (l.take i) := by simp [stAt, hi]
    rw [e, stAt, if_pos (by omega), runB_succ hx]
    rfl
  | none =>
    have hge := List.getElem?_eq_none_iff.1 hx
    have e : stAt W l i = runB W l := by rw [stAt, if_pos hi, List.take_of_length_le hge]
    rw [e, stAt, if_neg (by omega)]
    rfl
theorem nxt_facts {w wx : World} {p hb ob : Nat} {W : ByteArray} {l : List Int} {i : Nat} {A : Option Addr} {n c : Nat} {vs : List Value} (H : Ol w wx p hb ob W l i A n c vs) (hl : Bytes l) (hi : i ≤ l.length) :
    (nxt W l i).told = 0 ∧ (noBy (nxt W l i).out ∨ (stAt W l i).2 ≠ []) ∧ (nxt W l i).out.length ≤ 100 ∧ (i + 1 ≤ l.length → (nxt W l i).ended = false ∧ Inv (nxt W l i) ∧ ((nxt W l i).opn = true → (nxt W l i).out.foldl addEv (stAt W l i).2 ≠ [])) := by
  unfold nxt
  cases hx : l[i]? with
  | some x =>
    have hm := hl x (List.mem_of_getElem? hx)
    obtain ⟨_, h2, h3, h4, h5, h6, h7⟩ := put_facts (stAt W l i).2 hm (H.inv hi) (H.run hi) H.told (H.opn hi)
    exact ⟨h2, h5, h7, fun _ => ⟨h3, h4, h6⟩⟩
  | none =>
    have hge := List.getElem?_eq_none_iff.1 hx
    obtain ⟨h1, h2, h3⟩ := fin_facts (stAt W l i).2 (H.run hi) H.told (H.opn hi) (H.inv hi).ok.hold
    exact ⟨h1, h2, h3, fun h => absurd h (by omega)⟩
theorem Ol.next {w wx w' : World} {p hb ob : Nat} {W : ByteArray} {l : List Int} {i : Nat} {A A' : Option Addr} {n c n' c' : Nat} {vs vs' : List Value} (H : Ol w wx p hb ob W l i A n c vs) (hl : Bytes l) (hi : i ≤ l.length)
    (hS : Spl w' p hb ob { nxt W l i with told := (nxt W l i).out.length }) (hP : Prt w' (sS w p hb ob) A' n' c' vs' ((nxt W l i).out.foldl addEv (stAt W l i).2)) (hB : Below w.heap.size w w') : Ol w w' p hb ob W l (i + 1) A' n' c' vs' := by
  have hf := nxt_facts H hl hi
  have e := stAt_succ (W := W) hi
  refine ⟨?_, ?_, hB, ?_, ?_, ?_, ?_, ?_⟩
  all_goals rw [e]
  · exact hS
  · exact hP
  · exact fun h => (hf.2.2.2 h).2.1.drain
  · exact fun h ho => (hf.2.2.2 h).2.2 ho
  · rfl
  · exact fun h => (hf.2.2.2 h).1
  · exact fun _ => ((H.sz (by omega)).fold).mono (by have := hf.2.2.1; omega)

theorem step_ap {P : Program} {w : World} {t e : TypeId} {z : Value} {bytes : Nat} (E : El P t e z bytes) {ops : Array Oper} {o : Oper} {a : Act} {K : Act → World → Prop} {Q : Exit → Act → World → Prop} {X : Prop} (hgd : o.guard = none) (s x : Operand)
    (ho : o.op = .call { callee := .builtin .append, args := #[s, x], argTypes := #[t, t] })
    {base : Nat} {v : Value} {n : Nat} {xs : List Value} (hs : a.eval s = v) (hown : w.ownsRow base e 1 v n xs)
    {A : Option Addr} {m c : Nat} {news : List Value} (hx : a.eval x = .slice A m c) (hl : news.length = m) (hr : RV w A news) (h1 : ∀ u ∈ news, u.oneCell' = true) (h63 : n + m ≤ maxLen) (hb : (n + m) * bytes ≤ 140737488355328) (hbase : base ≤ w.heap.size)
    (h : ∀ A' c' w', w'.ownsRow base e 1 (.slice A' (n + m) c') (n + m) (xs ++ news) → w.grownBy w' v.ownBlock →
      ((Value.slice A' (n + m) c').ownBlock = v.ownBlock ∨ (Value.slice A' (n + m) c').ownBlock = some w.heap.size) → n + m ≤ c' → K (a.put o.dst (.slice A' (n + m) c')) w') :
    if Region.wanted o (yielded ops a.tmps) = true then Oper.wp P o a w K Q else X := by
  have hw : Region.wanted o (yielded ops a.tmps) = true := by simp [Region.wanted, hgd]
  rw [if_pos hw]
  exact wp_ap E s x ho hs hown hx hl hr h1 h63 hb hbase h

theorem want_size {b : ByteArray} (hv : validB b.data.toList = true) : 0 < ((⟨#[45, 45]⟩ : ByteArray) ++ b).size ∧ ((⟨#[45, 45]⟩ : ByteArray) ++ b).size ≤ 72 := by
  have h1 : ((⟨#[45, 45]⟩ : ByteArray) ++ b).size = 2 + b.size := by rw [ByteArray.size_append]; rfl
  have h2 : b.data.toList.length ≤ 70 := by
    unfold validB at hv
    simp only [Bool.and_eq_true, decide_eq_true_eq] at hv
    exact hv.1.2
  have h3 : b.data.toList.length = b.size := by rw [Array.length_toList]; rfl
  omega

theorem nx_cells {wc w5 : World} {p : Nat} {a b c d e : Value} {t : TypeId} (hK : Kp [p] (wc.alloc (.cells #[a, b, c, d, e] t)) w5) (hp : wc.heap.size ≠ p) :
    w5.heap[wc.heap.size]? = some (.cells #[a, b, c, d, e] t (0, 0)) ∧ w5.cell? ⟨wc.heap.size, 0, none⟩ = some a ∧ w5.cell? ⟨wc.heap.size, 1, none⟩ = some b ∧ w5.cell? ⟨wc.heap.size, 2, none⟩ = some c ∧ w5.cell? ⟨wc.heap.size, 3, none⟩ = some d ∧ w5.cell? ⟨wc.heap.size, 4, none⟩ = some e ∧ ∀ i, w5.frozen? ⟨wc.heap.size, i, none⟩ = false := by
  have h : w5.heap[wc.heap.size]? = some (.cells #[a, b, c, d, e] t (0, 0)) := (hK.block _ (by simp) (by simpa using hp)).trans (heap_alloc_new wc _)
  have hc := fun i => cell_of_row w5 wc.heap.size i _ _ _ h
  exact ⟨h, hc 0, hc 1, hc 2, hc 3, hc 4, fun i => frozen_of_row w5 wc.heap.size i _ _ h⟩

def WholePost (w : World) (W : ByteArray) (l : List Int) (e : Ending) (w' : World) : Prop :=
  ∃ A c vs, e = .returned (.tuple #[.slice A (whole W l).2.length c, .int .i64 (whole W l).1.reason, .int .i64 0]) ∧ Prt w' [] A (whole W l).2.length c vs (whole W l).2 ∧ Below w.heap.size w w'

theorem Ol.done {w wx : World} {p hb ob : Nat} {W : ByteArray} {l : List Int} {n m c : Nat} {A : Option Addr} {vs : List Value} (H : Ol w wx p hb ob W l (n + 1) A m c vs) (hl : l.length = n) (d : Nat) :
    WholePost w W l (.returned (.tuple #[.slice A m c, .int .i64 (stAt W l (n + 1)).1.reason, .int .i64 0])) (wx.drewN d) := by
  have e : stAt W l (n + 1) = whole W l := by rw [stAt, if_neg (by omega)]
  have hP := H.prt
  rw [e] at hP ⊢
  have hln := hP.len
  subst hln
  exact ⟨A, c, vs, rfl, Prt.narrow (hP.kept ((Kp.refl [] wx).drewN d) (by simp)) (by simp), H.below.trans (((Kp.refl [] wx).drewN d).below H.below.size (by simp))⟩

set_option maxHeartbeats 4000000 in
set_option maxRecDepth 100000 in
theorem c_whole (A : Option Addr) (n c : Nat) (l : List Int) (b : ByteArray) (w : World) (hl : l.length = n) (hn : n ≤ 1000000000) (hby : Bytes l) (hr : RB w A l) (hv : validB b.data.toList = true) :
    Calls Try.prog 10 #[.slice A n c, .string b] w (WholePost w (⟨#[45, 45]⟩ ++ b) l) := by
  have HC := Lib.hid hr
  have HL := Lib.hid hl
  have hn0 : (0 : Int) ≤ (n : Int) := by omega
  have HV := Lib.hid hv
  clear hr hl hv
  go_enter Try.func10, Try.ntmps10
  go_wp2_with (go_at_call 12; go_must (refine (c_new b _ HV.out).mono ?_); rintro e w1 ⟨p, hb, ob, rfl, hS, hp, hh, ho, hbl⟩)
  have hS3p := hp
  have hS3 : ∀ k ∈ [p, hb, ob], w.heap.size ≤ k := by simp; omega
  go_loopg [4, 8] (n + 1) (fun g s4 s8 wx => ∃ (i : Nat) (A' : Option Addr) (m c' : Nat) (vs : List Value), i + g = n + 1 ∧ s8 = .int .i64 i ∧ s4 = .slice A' m c' ∧ Ol w wx p hb ob (⟨#[45, 45]⟩ ++ b) l i A' m c' vs)
  case atStart => exact ⟨0, none, 0, 0, [], by omega, rfl, rfl, Ol.start hS hbl (want_size HV.out)⟩
  case round =>
    obtain ⟨i, A', m, c', vs, hig, rfl, rfl, H⟩ := hrel
    obtain ⟨wo, rfl⟩ : ∃ wo : World, wo = wr := ⟨_, rfl⟩
    cases gk with
    | zero =>
      have hin : ¬ (i : Int) ≤ (n : Int) := by omega
      obtain rfl : i = n + 1 := by omega
      have cR := c_reason p hb ob _ wo H.spl
      have CR := Lib.hid cR
      have HI := Lib.hid H
      clear cR H
      go_wp2_with (go_at_call 21; go_must (refine CR.out.mono ?_); rintro e w2 ⟨rfl, d, rfl⟩)
      refine bodyPost_ret (v := .tuple #[.slice A' m c', .int .i64 _, .int .i64 0]) (by simp [results, Try.results10, go_sem]; rfl) rfl ?_
      exact HI.out.done HL.out d
    | succ g =>
      have hin : (i : Int) ≤ (n : Int) := by omega
      have hi0 : (0 : Int) ≤ (i : Int) := by omega
      have hil : i ≤ l.length := by rw [HL.out]; omega
      have hf := nxt_facts H hby hil
      obtain ⟨s1, hs1⟩ : ∃ s1, nxt (⟨#[45, 45]⟩ ++ b) l i = s1 := ⟨_, rfl⟩
      obtain ⟨ps0, hps0⟩ : ∃ ps0, (stAt (⟨#[45, 45]⟩ ++ b) l i).2 = ps0 := ⟨_, rfl⟩
      have hprt := H.prt
      rw [hs1, hps0] at hf
      rw [hps0] at hprt
      obtain ⟨hf1, hf2, hf3, _⟩ := hf
      have HN := Lib.hid hs1
      have HP0 := Lib.hid hps0
      have HT := Lib.hid hf1
      clear hs1 hps0 hf1
      go_upto_if 28 with (fail)
      go_cut [] (fun wc => Spl wc p hb ob s1 ∧ Kp [p, hb, ob] wo wc)
      case first =>
        by_cases hlt : i < n
        · have hltI : (i : Int) < (n : Int) := by omega
          obtain ⟨x, hx⟩ : ∃ x, l[i]? = some x := ⟨_, List.getElem?_eq_getElem (by rw [HL.out]; exact hlt)⟩
          obtain ⟨bA, oA, rfl, hbA, hcA⟩ := RB.get (HC.out.below H.below) hx
          have hnx : nxt (⟨#[45, 45]⟩ ++ b) l i = ((stAt (⟨#[45, 45]⟩ ++ b) l i).1.put x).2 := by unfold nxt; rw [hx]
          have hN2 := HN.out
          rw [hnx] at hN2
          have HN2 := Lib.hid hN2
          have cP := c_put p hb ob _ x wo H.spl (H.inv hil).ok (by rw [H.told]; exact (own_cap H.spl.out).1)
          have CP := Lib.hid cP
          clear hx hnx hN2 cP
          go_wp2_with (go_at_call 19; go_must (refine CP.out.mono ?_); rintro e w2 ⟨rfl, hS2, hK2⟩)
          go_meet
          case rel => exact ⟨by rw [← HN2.out]; exact hS2, hK2⟩
        · have hltI : ¬ (i : Int) < (n : Int) := by omega
          have hnx : nxt (⟨#[45, 45]⟩ ++ b) l i = (stAt (⟨#[45, 45]⟩ ++ b) l i).1.fin8 := by unfold nxt; rw [List.getElem?_eq_none (by rw [HL.out]; omega)]
          have hN2 := HN.out
          rw [hnx] at hN2
          have HN2 := Lib.hid hN2
          have cP := c_end p hb ob _ wo H.spl (H.inv hil).by_ (H.inv hil).ok.hold
          have CP := Lib.hid cP
          clear hnx hN2 cP
          go_wp2_with (go_at_call 22; go_must (refine CP.out.mono ?_); rintro e w2 ⟨rfl, hS2, hK2⟩)
          go_meet
          case rel => exact ⟨by rw [← HN2.out]; exact hS2, hK2⟩
      case rest =>
        obtain ⟨hM, hkM⟩ := hcut
        have hprt2 := hprt.kept hkM (fun k hk => .inl (List.mem_append_right _ hk))
        have hbel2 : Below w.heap.size w wc := H.below.trans (hkM.below H.below.size hS3)
        have hnx0 : s1.next.1 = s1.out[0]? := by
          unfold St.next
          rw [HT.out]
          cases s1.out[0]? <;> rfl
        obtain ⟨kk, bb, nn, hev, _⟩ := evA_agg s1.out[0]?
        have HEV := Lib.hid hev
        have HNX := Lib.hid hnx0
        clear hev hnx0 hprt
        go_wp2_with (go_at_call 23; go_must (refine (c_next p hb ob s1 wc hM).mono ?_); rintro e w3 ⟨rfl, hS4, hK4⟩; go_must (rw [HNX.out, HEV.out]))
        have hsz := H.sz (by omega)
        rw [HP0.out] at hsz
        have HI := Lib.hid H
        obtain ⟨hxp, hxh, hxo⟩ : w3.heap.size ≠ p ∧ w3.heap.size ≠ hb ∧ w3.heap.size ≠ ob := by
          have h1 := hS4.lt
          have h2 := own_lt hS4.hold
          have h3 := own_lt hS4.out
          exact ⟨by omega, by omega, by omega⟩
        go_loopg [4, 9, 10] (s1.out.length) (fun g t4 t9 t10 wy => ∃ (k : Nat) (A2 : Option Addr) (m2 c2 : Nat) (vs2 : List Value) (xb : Nat) (k2 b2 n2 : Int), k + g = s1.out.length ∧ t4 = .slice A2 m2 c2 ∧ t9 = .pointer (some ⟨xb, 0, none⟩) ∧ t10 = .bool (decide (k < s1.out.length)) ∧ k ≤ s1.out.length ∧ Dr w wy p hb ob s1 ps0 k A2 m2 c2 vs2 xb k2 b2 n2)
        case atStart =>
          refine ⟨0, A', m, c', vs, w3.heap.size, kk, bb, nn, by omega, rfl, rfl, by cases s1.out <;> rfl, Nat.zero_le _, ?_⟩
          exact Dr.first hprt2 hbel2 hM HT.out hS4 hK4 HEV.out hS3p
        case round =>
          obtain ⟨k, A2, m2, c2, vs2, xb, k2, b2, n2, hkg, rfl, rfl, rfl, hkle, D⟩ := hrel
          obtain ⟨wq, rfl⟩ : ∃ wq : World, wq = wr := ⟨_, rfl⟩
          cases gk with
          | zero =>
            have hkl : decide (k < s1.out.length) = false := decF (by omega)
            rw [hkl]
            obtain rfl : k = s1.out.length := by omega
            go_wp2
            go_roundg g
            case measure => omega
            case rel =>
              have hD1 := D.spl
              have hD2 := D.prt
              rw [if_neg (Nat.lt_irrefl _)] at hD1
              rw [List.take_length] at hD2
              exact ⟨i + 1, A2, m2, c2, vs2, by omega, by go_num, rfl, HI.out.next hby hil (by rw [HN.out]; exact hD1) (by rw [HN.out, HP0.out]; exact hD2) D.below⟩
          | succ g2 =>
            have hkl : decide (k < s1.out.length) = true := decT (by omega)
            rw [hkl]
            have hcx := fun i => cell_of_row wq xb i _ _ _ D.x
            have hc0 := hcx 0
            have hc1 := hcx 1
            have hc2 := hcx 2
            have hc3 := hcx 3
            have hc4 := hcx 4
            simp only [List.getElem?_toArray, List.getElem?_cons_succ, List.getElem?_cons_zero] at hc0 hc1 hc2 hc3 hc4
            clear hcx
            obtain ⟨ev, hev⟩ : ∃ ev, s1.out[k]? = some ev := ⟨_, List.getElem?_eq_getElem (by omega)⟩
            have hfold : (s1.out.take (k + 1)).foldl addEv ps0 = addEv ((s1.out.take k).foldl addEv ps0) ev := by
              obtain ⟨hk1, hk2⟩ := List.getElem?_eq_some_iff.1 hev
              rw [List.take_succ_eq_append_getElem hk1, List.foldl_append, hk2]
              rfl
            have hszk : Sz (100 * i + 100) ((s1.out.take k).foldl addEv ps0) := (hsz.fold).mono (by rw [List.length_take]; omega)
            obtain ⟨hm2, hrl⟩ := hszk
            rw [D.prt.len] at hm2
            have hDev := D.ev
            rw [hev] at hDev
            have HF := Lib.hid hfold
            have HD := Lib.hid hDev
            have HE := Lib.hid hev
            have hlive := D.prt.own
            clear hfold hDev hev hkl
            go_upto_block 3 with (fail)
            go_cut [4] (fun t4 wz => ∃ (A3 : Option Addr) (m3 c3 : Nat) (vs3 : List Value), t4 = .slice A3 m3 c3 ∧ Prt wz (sS w p hb ob) A3 m3 c3 vs3 ((s1.out.take (k + 1)).foldl addEv ps0) ∧ Spl wz p hb ob { s1 with told := k + 1 } ∧ wz.heap[xb]? = wq.heap[xb]? ∧ Below w.heap.size w wz)
            case first =>
              cases ev with
              | op =>
                have hh := HD.out
                simp [evA, evC] at hh
                obtain ⟨rfl, rfl, rfl, _⟩ := hh
                have tk1 : True := trivial
                go_wp2_with (at_builtin; have _t := tk1; go_must (refine wpList_ap el88 rfl _ _ rfl rfl (D.prt.own.alloc _) rfl rfl (RV.new _ _) (by intro u hu; simp at hu; subst hu; rfl) (by unfold maxLen; omega) (by omega) (Nat.zero_le _) ?_); intro A3 c3 w4 hown4 hgrow4 hat4 hle4; clear tk1 _t)
                go_meet
                case rel => exact ⟨A3, m2 + 1, c3, _, rfl, by rw [HF.out]; exact D.prt.opened hown4 hgrow4 hat4 (sS_lt D.below D.spl), D.step (by omega) (((Kp.refl (Value.slice A2 m2 c2).ownBlock.toList wq).alloc _).grown hgrow4 (fun k hk => .inl (by have hk' : (Value.slice A2 m2 c2).ownBlock = some k := hk; simpa using hk'))) (fun t ht => by
                    have ht' : (Value.slice A2 m2 c2).ownBlock = some t := by simpa using ht
                    exact ⟨D.prt.avoid t ht', own_ne D.prt.own D.x (by decide) ht'⟩)⟩
              | by_ bv =>
                have hh := HD.out
                simp [evA, evC] at hh
                obtain ⟨rfl, rfl, rfl, _⟩ := hh
                have hne : (s1.out.take k).foldl addEv ps0 ≠ [] := by
                  rcases hf2 with h | h
                  · exact absurd (List.mem_of_getElem? HE.out) (h _)
                  · exact fold_ne h
                obtain ⟨pss, hpss⟩ : ∃ pss, (s1.out.take k).foldl addEv ps0 = pss := ⟨_, rfl⟩
                rw [hpss] at hne
                have hD := D.prt
                rw [hpss] at hD
                obtain ⟨m, hm⟩ : ∃ m, m2 = m + 1 := ⟨m2 - 1, by have := hD.len; have := List.length_pos_iff.2 hne; omega⟩
                subst hm
                obtain ⟨rw_, hrw⟩ : ∃ r, pss[m]? = some r := ⟨_, List.getElem?_eq_getElem (by have := hD.len; omega)⟩
                obtain ⟨v, hv, hvo, hva⟩ := hD.row m rw_ hrw
                obtain ⟨AV, cV, rfl, hcV⟩ := slice_form hvo
                obtain ⟨g5, cap5, hA5⟩ : ∃ g5 cap5, Value.slice A2 (m + 1) c2 = .slice (some ⟨g5, 0, none⟩) (m + 1) cap5 := by
                  rcases hD.own.2 with ⟨h, _⟩ | ⟨g, cap, cur, h, _⟩
                  · injection h with _ h2; omega
                  · exact ⟨g, cap, h⟩
                injection hA5 with hA5 _ hA6
                subst hA5 hA6
                have hcm := own_elem hD.own hv
                have hcm3 := fun o => own_elem (hD.own.alloc o) hv
                have hrl5 := hrl rw_ (by rw [hpss]; exact List.mem_of_getElem? hrw)
                have e1 : IntKind.i64.wrap (m : Int) = (m : Int) := IntWalk.i64_in _ (by omega)
                have e2 : (m : Int) < (m : Int) + 1 := by omega
                have e0 : (0 : Int) ≤ (m : Int) := by omega
                have e3 : rw_.length + 1 ≤ maxLen := by unfold maxLen; omega
                have e4 : (rw_.length + 1) * 1 ≤ 140737488355328 := by omega
                have hDd : Prt wq.drew (sS w p hb ob) (some ⟨g5, 0, none⟩) (m + 1) c2 vs2 pss := hD.kept (Kp.refl [] wq).drew (by simp)
                go_wp2
                go_region_law? (refine step_ap el8 rfl (.tmp 66) (.tmp 69) rfl (by rfl) ((hvo.drew).alloc _) (by rfl) rfl (RV.new _ _) (by intro u hu; simp at hu; subst hu; rfl) e3 e4 (Nat.zero_le _) ?_; intro A6 c6 w6 hown6 hgrow6 hat6 hle6; have hsz6 := Prt.slot hDd hv hrw hgrow6; obtain ⟨hs6, hz6⟩ := hsz6)
                all_goals clear hcm3 hcm e1 e2
                all_goals go_wp2
                all_goals go_meet
                all_goals exact D.byte (by omega) HF.out hpss hrw hv hown6 hgrow6 hat6
              | cl =>
                have hh := HD.out
                simp [evA, evC] at hh
                obtain ⟨rfl, rfl, rfl, _⟩ := hh
                go_wp2
                go_meet
                case rel => exact ⟨A2, m2, c2, vs2, rfl, by rw [HF.out]; exact D.prt, D.step (by omega) (Kp.refl [] wq) (by simp)⟩
            case rest =>
              obtain ⟨A3, m3, c3, vs3, rfl, P3, S3, X3, B3⟩ := hcut
              have hcx := fun i => cell_of_row wc xb i _ _ _ (X3.trans D.x)
              have hd0 := hcx 0
              have hd1 := hcx 1
              have hd2 := hcx 2
              have hd3 := hcx 3
              have hd4 := hcx 4
              simp only [List.getElem?_toArray, List.getElem?_cons_succ, List.getElem?_cons_zero] at hd0 hd1 hd2 hd3 hd4
              clear hcx hc0 hc1 hc2 hc3 hc4
              obtain ⟨k4, b4, n4, hev4, _⟩ := evA_agg s1.out[k + 1]?
              have HEV4 := Lib.hid hev4
              clear hev4
              have hcn := fun o => c_next p hb ob { s1 with told := k + 1 } (wc.alloc o) (S3.kept ((Kp.refl [] wc).alloc o) (by simp) (by simp) (by simp))
              rw [next_told] at hcn
              have HCN := Lib.hid hcn
              clear hcn
              go_wp2_with (go_at_call 23; go_must (refine (HCN.out _).mono ?_); rintro e w5 ⟨rfl, hS5, hK5⟩; go_must (rw [HEV4.out]); obtain ⟨hX5, hy0, hy1, hy2, hy3, hy4, hyf⟩ := nx_cells hK5 (Nat.ne_of_gt S3.lt))
              go_roundg g2
              case measure => omega
              case rel =>
                obtain ⟨hx6, hk6⟩ := nx_done hX5 rfl
                exact ⟨k + 1, A3, m3, c3, vs3, wc.heap.size, k4, b4, n4, by omega, rfl, rfl, by congr 1; rw [Bool.eq_iff_iff]; simp, by omega, Dr.next P3 B3 S3 hS5 hK5 hx6 hk6 HEV4.out hS3p⟩
end Go.Proofs.Ytmalacamfjdimaa.Pt
