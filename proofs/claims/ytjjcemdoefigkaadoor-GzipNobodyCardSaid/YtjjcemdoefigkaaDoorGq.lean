/- The walk of gzip.Whole. -/
import Derived.Test.YtjjcemdoefigkaaDoorGo
import Derived.Test.YtjjcemdoefigkaaDoorGr
import Derived.Test.YtjjcemdoefigkaaDoorPrt
import Derived.Deep.RegionLaw
import Derived.Deep.AppendLies
import Derived.Deep.CutBlock
import Derived.Deep.DeepCutAuto
namespace Go.Proofs.YtjjcemdoefigkaaDoor.Hf
set_option linter.unusedVariables false
set_option linter.unusedSimpArgs false
open Go.RowKit Go.Proofs.YtjjcemdoefigkaaDoor.W

theorem el88 : El Tryd.prog 37 34 (.slice none 0 0) 24 := ⟨Tryd.underlying37, by kernel_rfl, rfl⟩
theorem own_fz {w : World} {base : Nat} {e : TypeId} {size g n cap : Nat} {xs : List Value} (h : w.ownsRow base e size (.slice (some ⟨g, 0, none⟩) n cap) n xs) (i : Nat) : w.frozen? ⟨g, i, none⟩ = false := by
  rcases h.2 with ⟨h1, _⟩ | ⟨g', cap', cur, h1, _, hg, _⟩
  · cases h1
  · injection h1 with h2 _ _
    injection h2 with h2
    injection h2 with h2
    subst h2
    exact frozen_of_row w g i _ _ hg
theorem slot_p {w w1 : World} {S : List Nat} {g m c : Nat} {vs : List Value} {ls : List (List Int)} {v : Value} {l : List Int} {o : Obj} (h : Prt w S (some ⟨g, 0, none⟩) (m + 1) c vs ls) (hv : vs[m]? = some v) (hl : ls[m]? = some l) (grow : (w.alloc o).grownBy w1 v.ownBlock) : w1.cell? ⟨g, m, none⟩ = some v ∧ w1.frozen? ⟨g, m, none⟩ = false := by
  obtain ⟨v', hv', hov, _⟩ := h.row m l hl
  rw [hv] at hv'
  injection hv' with hv'
  subst hv'
  have hgv : v.ownBlock ≠ some g := W.own_type h.own hov ty_ne rfl
  have hg : g < w.heap.size := own_lt h.own
  have hw1g : w1.heap[g]? = w.heap[g]? := (grow.block g (by simp; omega) (fun e => hgv e.symm)).trans (Below.heap_alloc w o g hg)
  have own1 : w1.ownsRow 0 34 1 (.slice (some ⟨g, 0, none⟩) (m + 1) c) (m + 1) vs := W.own_same h.own fun k hk => by
    simp [Value.ownBlock] at hk
    subst hk
    exact hw1g
  exact ⟨own_elem own1 hv, own_fz own1 m⟩
theorem narrow_p {w : World} {S T : List Nat} {A : Option Addr} {n c : Nat} {vs : List Value} {ls : List (List Int)} (h : Prt w S A n c vs ls) (hs : ∀ k ∈ T, k ∈ S) : Prt w T A n c vs ls :=
  ⟨h.own, h.len, fun k hk hm => h.avoid k hk (hs k hm), fun i l hl => by
    obtain ⟨v, hv, ho, ha⟩ := h.row i l hl
    exact ⟨v, hv, ho, fun k hk hm => ha k hk (hs k hm)⟩, h.apart⟩
theorem step_ap {P : Program} {w : World} {t e : TypeId} {z : Value} {bytes : Nat} (E : El P t e z bytes) {ops : Array Oper} {o : Oper} {a : Act} {K : Act → World → Prop} {Q : Exit → Act → World → Prop} {X : Prop} (hgd : o.guard = none) (s x : Operand)
    (ho : o.op = .call { callee := .builtin .append, args := #[s, x], argTypes := #[t, t] })
    {base : Nat} {v : Value} {n : Nat} {xs : List Value} (hs : a.eval s = v) (hown : w.ownsRow base e 1 v n xs)
    {A : Option Addr} {m c : Nat} {news : List Value} (hx : a.eval x = .slice A m c) (hl : news.length = m) (hr : RV w A news) (h1 : ∀ u ∈ news, u.oneCell' = true) (h63 : n + m ≤ maxLen) (hb : (n + m) * bytes ≤ 140737488355328) (hbase : base ≤ w.heap.size)
    (h : ∀ A' c' w', w'.ownsRow base e 1 (.slice A' (n + m) c') (n + m) (xs ++ news) → w.grownBy w' v.ownBlock →
      ((Value.slice A' (n + m) c').ownBlock = v.ownBlock ∨ (Value.slice A' (n + m) c').ownBlock = some w.heap.size) → n + m ≤ c' → K (a.put o.dst (.slice A' (n + m) c')) w') :
    if Region.wanted o (yielded ops a.tmps) = true then Oper.wp P o a w K Q else X := by
  have hw : Region.wanted o (yielded ops a.tmps) = true := by simp [Region.wanted, hgd]
  rw [if_pos hw]
  exact wp_ap E s x ho hs hown hx hl hr h1 h63 hb hbase h
/-- The blocks that the members do not lie in. -/
def sG (w : World) (a : Ad) : List Nat := List.range w.heap.size ++ a.all
theorem sG_not {w : World} {a : Ad} {t : Nat} (h : t ∉ sG w a) : w.heap.size ≤ t ∧ t ∉ a.all := by
  unfold sG at h
  rw [List.mem_append, not_or] at h
  exact ⟨by have := h.1; simp at this; exact this, h.2⟩
theorem sG_lt {w wx : World} {a : Ad} {z : Z} {st : Value} (hb : Kp [] w wx) (h : GMv wx a st z) : ∀ k ∈ sG w a, k < wx.heap.size := fun k hk => by
  unfold sG at hk
  rcases List.mem_append.1 hk with h1 | h1
  · have := hb.size
    simp at h1
    omega
  · exact h.lts k h1
structure Iw (w wx : World) (a : Ad) (xb : Nat) (e : Ev) (ps : List (List Int)) (A : Option Addr) (n c : Nat) (vs : List Value) (z : Z) : Prop where
  gm : GM wx a z
  prt : Prt wx (sG w a) A n c vs ps
  x : wx.heap[xb]? = some (.cells (evL e).toArray 24 (0, 0))
  below : Kp [] w wx
  xge : w.heap.size ≤ xb
  xne : xb ∉ a.all
section
variable {w wx w' : World} {a : Ad} {xb : Nat} {e : Ev} {ps : List (List Int)} {A : Option Addr} {n c : Nat} {vs : List Value} {z : Z}
theorem own_tn {w : World} {base : Nat} {e : TypeId} {size n : Nat} {v : Value} {xs : List Value} (h : w.ownsRow base e size v n xs) (he : e ≠ 82) : Tn w v.ownBlock.toList := fun k hk => by
  have hk' : v.ownBlock = some k := by simpa using hk
  rcases h.2 with ⟨rfl, _⟩ | ⟨g, cap, cur, rfl, _, hg, _⟩
  · simp [Value.ownBlock] at hk'
  · simp only [Value.ownBlock, Option.some.injEq] at hk'
    subst hk'
    exact ⟨_, _, _, hg, he⟩
theorem Iw.step (D : Iw w wx a xb e ps A n c vs z) {T : List Nat} (hK : Kp T wx w') (hT : ∀ t ∈ T, t ∉ sG w a ∧ t ≠ xb) (hN : Tn wx T) : GM w' a z ∧ w'.heap[xb]? = wx.heap[xb]? ∧ Kp [] w w' := by
  have hn : ∀ t ∈ T, w.heap.size ≤ t ∧ t ∉ a.all := fun t ht => sG_not (hT t ht).1
  exact ⟨D.gm.kept hK hN (fun k hk h2 => (hn k h2).2 hk), hK.block xb (Array.getElem?_eq_some_iff.1 D.x).1 (fun h => (hT _ h).2 rfl), ((D.below.mono (T := T) (by simp)).trans hK).mono (fun k hk => .inr (hn k hk).1)⟩
theorem Iw.byte {wq w6 : World} {g m cV c6 : Nat} {A6 AV : Option Addr} {rr : List Int} {bv : Int} {o : Obj} (D : Iw w wq a xb e ps (some ⟨g, 0, none⟩) (m + 1) c vs z) (hr : ps[m]? = some rr) (hv : vs[m]? = some (.slice AV rr.length cV)) (he : e.kd = 2) (hb : e.by_ = bv)
    (own : w6.ownsRow 0 5 1 (.slice A6 (rr.length + 1) c6) (rr.length + 1) (u8s rr ++ [.int .u8 bv])) (grow : (wq.drew.alloc o).grownBy w6 (Value.slice AV rr.length cV).ownBlock)
    (hat : (Value.slice A6 (rr.length + 1) c6).ownBlock = (Value.slice AV rr.length cV).ownBlock ∨ (Value.slice A6 (rr.length + 1) c6).ownBlock = some (wq.drew.alloc o).heap.size) :
    ∃ A3 m3 c3 vs3, Value.slice (some ⟨g, 0, none⟩) (m + 1) c = Value.slice A3 m3 c3 ∧ Prt (w6.setCell ⟨g, m, none⟩ (.slice A6 (rr.length + 1) c6)) (sG w a) A3 m3 c3 vs3 (addE ps e) ∧
      GM (w6.setCell ⟨g, m, none⟩ (.slice A6 (rr.length + 1) c6)) a z ∧ (w6.setCell ⟨g, m, none⟩ (.slice A6 (rr.length + 1) c6)).heap[xb]? = wq.heap[xb]? ∧ Kp [] w (w6.setCell ⟨g, m, none⟩ (.slice A6 (rr.length + 1) c6)) := by
  have hP := D.prt
  have hPd : Prt wq.drew (sG w a) (some ⟨g, 0, none⟩) (m + 1) c vs ps := hP.kept (Kp.refl [] wq).drew (by simp)
  obtain ⟨v', hv', hov, hav⟩ := hP.row m rr hr
  rw [hv] at hv'
  injection hv' with hv'
  subst hv'
  have hlen := hP.len
  have e1 : addE ps e = ps.set m (rr ++ [bv]) := by
    unfold addE
    rw [if_neg (by omega), if_pos he, hlen, show m + 1 - 1 = m by omega, List.getD_eq_getElem?_getD, hr, hb]
    rfl
  rw [e1]
  refine ⟨_, _, _, _, rfl, hPd.byte hr hv (x := rr ++ [bv]) (by rw [u8s_append]; exact own) (by simp) grow hat (fun k hk => sG_lt D.below D.gm k hk), ?_⟩
  refine D.step (T := g :: (Value.slice AV rr.length cV).ownBlock.toList) (((Kp.refl _ wq).drew).trans (Prt.kp_byte grow _ (fun k hk => by rw [hk]; simp) (by simp))) (fun t ht => ?_) (fun t ht => ?_)
  · rcases List.mem_cons.1 ht with rfl | ht
    · exact ⟨hP.avoid _ rfl, own_ne hP.own D.x (by decide) rfl⟩
    · have ht' : (Value.slice AV rr.length cV).ownBlock = some t := by simpa using ht
      exact ⟨hav t ht', own_ne hov D.x (by decide) ht'⟩
  · rcases List.mem_cons.1 ht with rfl | ht
    · exact own_tn hP.own (by decide) _ (by simp [Value.ownBlock])
    · exact own_tn hov (by decide) t ht
theorem nx_done {w5 w' : World} {X : Nat} {a b c d e a' b' c' d' e' : Value} {t : TypeId} (h : w5.heap[X]? = some (.cells #[a', b', c', d', e'] t (0, 0)))
    (hw : w' = ((((w5.setCell ⟨X, 0, none⟩ a).setCell ⟨X, 1, none⟩ b).setCell ⟨X, 2, none⟩ c).setCell ⟨X, 3, none⟩ d).setCell ⟨X, 4, none⟩ e) :
    w'.heap[X]? = some (.cells #[a, b, c, d, e] t (0, 0)) ∧ Kp [X] w5 w' := by
  subst hw
  refine ⟨?_, ?_⟩
  · exact heap_set (heap_set (heap_set (heap_set (heap_set h 0 a) 1 b) 2 c) 3 d) 4 e
  · exact (((((Kp.refl [X] w5).setCell (.inl (by simp)) a).setCell (.inl (by simp)) b).setCell (.inl (by simp)) c).setCell (.inl (by simp)) d).setCell (.inl (by simp)) e
theorem nx_cells {wc w5 : World} {T : List Nat} {a b c d e : Value} {t : TypeId} (hK : Kp T (wc.alloc (.cells #[a, b, c, d, e] t)) w5) (hp : wc.heap.size ∉ T) :
    w5.heap[wc.heap.size]? = some (.cells #[a, b, c, d, e] t (0, 0)) ∧ w5.cell? ⟨wc.heap.size, 0, none⟩ = some a ∧ w5.cell? ⟨wc.heap.size, 1, none⟩ = some b ∧ w5.cell? ⟨wc.heap.size, 2, none⟩ = some c ∧ w5.cell? ⟨wc.heap.size, 3, none⟩ = some d ∧ w5.cell? ⟨wc.heap.size, 4, none⟩ = some e ∧ ∀ i, w5.frozen? ⟨wc.heap.size, i, none⟩ = false := by
  have h : w5.heap[wc.heap.size]? = some (.cells #[a, b, c, d, e] t (0, 0)) := (hK.block _ (by simp) hp).trans (heap_alloc_new wc _)
  have hc := fun i => cell_of_row w5 wc.heap.size i _ _ _ h
  exact ⟨h, hc 0, hc 1, hc 2, hc 3, hc 4, fun i => frozen_of_row w5 wc.heap.size i _ _ h⟩
end
/-- What the walker's Next answers, whatever waits. -/
def evO (oe : Option Ev) : Ev := oe.getD ev0
def NxP (w : World) (a : Ad) (oe : Option Ev) (z : Z) (e : Ending) (w' : World) : Prop := e = .returned (.tuple #[.agg #[.int .i64 ((evO oe).kd : Nat), .int .u8 (evO oe).by_, .int .i64 ((evO oe).nd : Nat), .int .i64 0, .string (strOfNums (evO oe).tx)], .bool oe.isSome]) ∧ GM w' a z ∧ Kp a.all w w'
/-- What is left to tell: the next event, the state behind it, what comes behind. -/
def Rest (z zf : Z) (oe : Option Ev) (zn : Z) (es : List Ev) : Prop := (∃ e, oe = some e ∧ z.has = true ∧ e = z.ev ∧ zn = z.next ∧ Dr zn zf es) ∨ (oe = none ∧ z.has = false ∧ zn = z ∧ zf = z ∧ es = [])
theorem rest_of {z zf : Z} {es : List Ev} (h : Dr z zf es) : ∃ oe zn es', Rest z zf oe zn es' ∧ es = oe.toList ++ es' := by
  cases h with
  | rest hh => exact ⟨none, z, [], .inr ⟨rfl, hh, rfl, rfl, rfl⟩, rfl⟩
  | more hh hd => exact ⟨some z.ev, z.next, _, .inl ⟨_, rfl, hh, rfl, rfl, hd⟩, rfl⟩
theorem g_nx {w : World} {a : Ad} {z zf zn : Z} {oe : Option Ev} {es : List Ev} (h : GM w a z) (hok : Zok z) (hG : Gg w a) (hr : Rest z zf oe zn es) : Calls Tryd.prog 6 #[.pointer (some ⟨a.b, 0, none⟩)] w (NxP w a oe zn) := by
  rcases hr with ⟨e, rfl, hh, rfl, rfl, _⟩ | ⟨rfl, hh, rfl, _, _⟩
  · exact (g_next_ev h hok hG hh).mono fun e w' he => he
  · refine (g_next_no h hh).mono ?_
    rintro e w' ⟨rfl, hk⟩
    exact ⟨rfl, h.keep hk, hk.mono (by simp)⟩
theorem Rest.ok {z zf zn : Z} {oe : Option Ev} {es : List Ev} (hr : Rest z zf oe zn es) (h : Zok z) : Zok zn := by
  rcases hr with ⟨e, rfl, hh, rfl, rfl, _⟩ | ⟨rfl, hh, rfl, _, _⟩
  · exact h.next.1
  · exact h
theorem Rest.dr {z zf zn : Z} {e : Ev} {es : List Ev} (hr : Rest z zf (some e) zn es) : Dr zn zf es := by
  rcases hr with ⟨e', h1, _, _, _, h⟩ | ⟨h, _⟩
  · exact h
  · cases h
theorem Rest.last {z zf zn : Z} {es : List Ev} (hr : Rest z zf none zn es) : zn = zf ∧ es = [] := by
  rcases hr with ⟨e', h1, _⟩ | ⟨_, _, h1, h2, h3⟩
  · cases h1
  · exact ⟨h1.trans h2.symm, h3⟩
end Go.Proofs.YtjjcemdoefigkaaDoor.Hf
