/- The reference's run: tell, bytes, delimiter. -/
import Derived.Test.YtmalacamfjdimaaRb
namespace Go.Proofs.Ytmalacamfjdimaa.Pt
open Go.RowKit Go.Proofs.Ytmalacamfjdimaa.W

def tmC (t : Nat × Ev) : List Value := .int .i64 t.1 :: evC t.2
def tms (l : List (Nat × Ev)) : List Value := l.flatMap tmC
theorem tmC_length (t : Nat × Ev) : (tmC t).length = 6 := by simp [tmC, evC_length]
theorem tm_info : (Try.prog.info? 67).map (fun i => (i.zero.map (fun z => z.cells.size), i.size, i.bytes)) = some (some 6, 6, 56) := by kernel_rfl

/-- The reference's run in block rb: the events that were told, and what else it knows; all at or above B. -/
structure Rn (w : World) (B rb : Nat) (es : List (Nat × Ev)) (why : Int) (opn over : Bool) : Prop where
  ex : ∃ A c, w.heap[rb]? = some (.cells #[.slice A es.length c, .int .i64 why, .bool opn, .bool over] 35 (0, 0)) ∧ w.ownsRow B 67 6 (.slice A es.length c) es.length (tms es)
  ge : B ≤ rb

theorem news_block' {w : World} {H : Nat} (hH : w.heap.size = H) (cs : Array Value) (t : TypeId) : ∀ j u, cs.toList[j]? = some u → (w.alloc (.cells cs t)).cell? ((⟨H, 0, none⟩ : Addr).add j) = some u := by subst hH; exact news_block w cs t
theorem grown_kept {w w3 : World} {B rb n m : Nat} {e t : TypeId} {v : Value} {xs : List Value} {cs : Array Value} {o o' : Obj} (hc : w.heap[rb]? = some (.cells cs t (0, 0))) (ho : w.ownsRow B e m v n xs) (hne : e ≠ t) (grow : (((w.alloc o).drew).alloc o').grownBy w3 v.ownBlock) :
    w3.heap[rb]? = some (.cells cs t (0, 0)) ∧ (∀ i, w3.cell? ⟨rb, i, none⟩ = cs[i]?) ∧ ∀ i, w3.frozen? ⟨rb, i, none⟩ = false := by
  have hlt : rb < w.heap.size := (Array.getElem?_eq_some_iff.1 hc).1
  have h : w3.heap[rb]? = some (.cells cs t (0, 0)) := by
    refine (grow.block rb (by simp; omega) (fun e => own_ne ho hc hne e.symm rfl)).trans ?_
    refine (Below.heap_alloc _ o' rb (by simp; omega)).trans ?_
    exact (Below.heap_alloc w o rb hlt).trans hc
  exact ⟨h, fun i => cell_of_row w3 rb i _ _ _ h, fun i => frozen_of_row w3 rb i _ _ h⟩
theorem Rn.told {w w3 : World} {B rb : Nat} {es : List (Nat × Ev)} {why : Int} {opn over : Bool} {A A3 : Option Addr} {c c3 : Nat} {t : Nat × Ev} {o o' : Obj} (hge : B ≤ rb) (hB : B ≤ w.heap.size) (hc : w.heap[rb]? = some (.cells #[.slice A es.length c, .int .i64 why, .bool opn, .bool over] 35 (0, 0))) (ho : w.ownsRow B 67 6 (.slice A es.length c) es.length (tms es))
    (own : w3.ownsRow B 67 6 (.slice A3 (es.length + 1) c3) (es.length + 1) (tms es ++ tmC t)) (grow : (((w.alloc o).drew).alloc o').grownBy w3 (Value.slice A es.length c).ownBlock) :
    Rn (w3.setCell ⟨rb, 0, none⟩ (.slice A3 (es.length + 1) c3)) B rb (es ++ [t]) why opn over ∧ Below B w (w3.setCell ⟨rb, 0, none⟩ (.slice A3 (es.length + 1) c3)) := by
  obtain ⟨h3, _, _⟩ := grown_kept hc ho (by decide) grow
  have hl : (es ++ [t]).length = es.length + 1 := by simp
  have ht : tms (es ++ [t]) = tms es ++ tmC t := by simp [tms]
  refine ⟨⟨⟨A3, c3, ?_, ?_⟩, hge⟩, ?_⟩
  · rw [hl]
    exact heap_set h3 0 _
  · rw [hl, ht]
    exact own_same own fun k hk => heap_setCell_other w3 ⟨rb, 0, none⟩ k _ (own_ne own h3 (by decide) hk)
  · have k1 : Kp ((Value.slice A es.length c).ownBlock.toList ++ [rb]) w (w3.setCell ⟨rb, 0, none⟩ (.slice A3 (es.length + 1) c3)) :=
      (((((Kp.refl _ w).alloc o).drew).alloc o').grown grow (fun k hk => .inl (List.mem_append_left _ (by simpa using hk)))).setCell (.inl (by simp)) _
    refine k1.below hB (fun k hk => ?_)
    rcases List.mem_append.1 hk with h | h
    · have h' : (Value.slice A es.length c).ownBlock = some k := by simpa using h
      exact (ho.lt k h').1
    · simp at h; omega

def TellPost (w : World) (B rb : Nat) (es : List (Nat × Ev)) (why : Int) (opn over : Bool) (e : Ending) (w' : World) : Prop := e = .returned (.tuple #[]) ∧ Rn w' B rb es why opn over ∧ Below B w w'

set_option maxHeartbeats 2000000 in
set_option maxRecDepth 100000 in
theorem r_tell (B rb : Nat) (es : List (Nat × Ev)) (why : Int) (opn over : Bool) (at_ : Nat) (ev : Ev) (w : World) (h : Rn w B rb es why opn over) (hB : B ≤ w.heap.size) (hlen : es.length ≤ 1000000000) :
    Calls Try.prog 32 #[.pointer (some ⟨rb, 0, none⟩), .int .i64 at_, evA (some ev)] w (TellPost w B rb (es ++ [(at_, ev)]) why opn over) := by
  obtain ⟨⟨A, c, hc, ho⟩, hge⟩ := h
  have hcx := fun i => cell_of_row w rb i _ _ _ hc
  have fz := fun i => frozen_of_row w rb i _ _ hc
  have c0 := hcx 0
  simp only [List.getElem?_toArray, List.getElem?_cons_succ, List.getElem?_cons_zero] at c0
  clear hcx
  obtain ⟨i, z, hi, hz, hs, hb, hzs⟩ : ∃ i z, Try.prog.info? 67 = some i ∧ i.zero = some z ∧ i.size = 6 ∧ i.bytes = 56 ∧ z.cells.size = 6 := by
    obtain ⟨i, hi, h2⟩ := Option.map_eq_some_iff.1 tm_info
    injection h2 with h2 h3
    injection h3 with h3 h4
    obtain ⟨z, hz, h5⟩ := Option.map_eq_some_iff.1 h2
    exact ⟨i, z, hi, hz, h3, h4, h5⟩
  obtain ⟨kk, bb, nn, hev⟩ : ∃ kk bb nn : Int, evC ev = [.int .i64 kk, .int .u8 bb, .int .i64 nn, .int .i64 0, .string ⟨#[]⟩] := by cases ev <;> exact ⟨_, _, _, rfl⟩
  have HEV := Lib.hid hev
  have hea : evA (some ev) = .agg #[.int .i64 kk, .int .u8 bb, .int .i64 nn, .int .i64 0, .string ⟨#[]⟩] := by simp [evA, hev]
  rw [hea]
  clear hev hea
  have hlt : rb < w.heap.size := (Array.getElem?_eq_some_iff.1 hc).1
  have k0 := fun o => cell_of_row (w.alloc o) rb 0 _ _ _ ((Below.heap_alloc w o rb hlt).trans hc)
  simp only [List.getElem?_toArray, List.getElem?_cons_zero] at k0
  go_enter Try.func32, Try.ntmps32
  go_wp2_with (fail)
  go_region_law (refine step_append_lies _ rfl (.tmp 10) (.tmp 14) _ (by rfl) B 67 i z 6 56 Try.underlying33 hi hz hs hb hzs (by omega) _ es.length (tms es) (by rfl) (((ho.alloc _).drew).alloc _) ⟨_, 0, none⟩ 1 1 (tmC (at_, ev)) (by rfl) (tmC_length _) (by rw [show tmC (at_, ev) = #[Value.int .i64 at_, .int .i64 kk, .int .u8 bb, .int .i64 nn, .int .i64 0, .string ⟨#[]⟩].toList by simp [tmC, HEV.out]]; exact news_block' (by simp) _ _) (by intro u hu; simp [tmC, HEV.out] at hu; rcases hu with rfl | rfl | rfl | rfl | rfl | rfl <;> rfl) (by omega) (by unfold maxLen; omega) (by omega) (by simp; omega) _ rfl ?_; intro g3 cap3 w3 hown3 hgrow3 hat3 hlt3; have hgk := grown_kept hc ho (by decide) hgrow3; obtain ⟨_, hs3, hz3⟩ := hgk; have hs0 := hs3 0; simp only [List.getElem?_toArray, List.getElem?_cons_zero] at hs0; clear hs3)
  all_goals refine bodyPost_ret (results_none rfl _ _ _) rfl ?_
  all_goals exact ⟨rfl, Rn.told hge hB hc ho hown3 hgrow3⟩

theorem Rn.cells_ {w : World} {B rb : Nat} {es : List (Nat × Ev)} {why : Int} {opn over : Bool} (h : Rn w B rb es why opn over) : w.cell? ⟨rb, 1, none⟩ = some (.int .i64 why) ∧ w.cell? ⟨rb, 2, none⟩ = some (.bool opn) ∧ w.cell? ⟨rb, 3, none⟩ = some (.bool over) ∧ (∀ i, w.frozen? ⟨rb, i, none⟩ = false) ∧ rb < w.heap.size := by
  obtain ⟨⟨A, c, hc, ho⟩, hge⟩ := h
  have hcx := fun i => cell_of_row w rb i _ _ _ hc
  exact ⟨hcx 1, hcx 2, hcx 3, fun i => frozen_of_row w rb i _ _ hc, (Array.getElem?_eq_some_iff.1 hc).1⟩

theorem Rn.flags {w : World} {B rb : Nat} {es : List (Nat × Ev)} {why : Int} {opn over : Bool} (h : Rn w B rb es why opn over) (hB : B ≤ w.heap.size) (a b : Bool) :
    Rn ((w.setCell ⟨rb, 2, none⟩ (.bool a)).setCell ⟨rb, 3, none⟩ (.bool b)) B rb es why a b ∧ Below B w ((w.setCell ⟨rb, 2, none⟩ (.bool a)).setCell ⟨rb, 3, none⟩ (.bool b)) := by
  obtain ⟨⟨A, c, hc, ho⟩, hge⟩ := h
  refine ⟨⟨⟨A, c, heap_set (heap_set hc 2 _) 3 _, own_same ho fun k hk => ?_⟩, hge⟩, ?_⟩
  · have hne := own_ne ho hc (by decide) hk
    exact (heap_setCell_other _ ⟨rb, 3, none⟩ k _ hne).trans (heap_setCell_other w ⟨rb, 2, none⟩ k _ hne)
  · exact (((Kp.refl [rb] w).setCell (.inl (by simp)) _).setCell (.inl (by simp)) _).below hB (fun k hk => by simp at hk; omega)

/-- A part's bytes, told with byte at_. -/
def byEv (at_ : Nat) (l : List Int) : List (Nat × Ev) := l.map fun b => (at_, .by_ b)

set_option maxHeartbeats 2000000 in
set_option maxRecDepth 100000 in
theorem r_bytes (B rb : Nat) (es : List (Nat × Ev)) (why : Int) (opn over : Bool) (A : Option Addr) (n c : Nat) (l : List Int) (at_ : Nat) (w : World) (h : Rn w B rb es why opn over) (hB : B ≤ w.heap.size) (hl : l.length = n) (hn : n ≤ 1048576) (hr : RB w A l) (hA : ∀ a, A = some a → a.block < B) (hlen : es.length + n ≤ 1000000000) :
    Calls Try.prog 29 #[.pointer (some ⟨rb, 0, none⟩), .slice A n c, .int .i64 at_] w (TellPost w B rb (es ++ if opn then byEv at_ l else []) why opn over) := by
  have HC := Lib.hid hr
  have HL := Lib.hid hl
  clear hr hl
  cases opn with
  | false =>
    obtain ⟨_, c2, _, _, _⟩ := h.cells_
    have HE := Lib.hid (show es ++ (if false = true then byEv at_ l else []) = es by simp)
    go_enter Try.func29, Try.ntmps29
    go_wp2
    go_loopg [6] 0 (fun g t6 wx => t6 = .int .i64 0 ∧ wx = w)
    case atStart => exact ⟨rfl, rfl⟩
    case round =>
      obtain ⟨rfl, rfl⟩ := hrel
      go_wp2
      all_goals refine bodyPost_ret (results_none rfl _ _ _) rfl ?_
      all_goals exact ⟨rfl, by simpa using h, Below.refl _ _⟩
  | true =>
    have HE := Lib.hid (show es ++ (if true = true then byEv at_ l else []) = es ++ byEv at_ l by simp)
    go_enter Try.func29, Try.ntmps29
    go_wp2
    go_loopg [6] n (fun g t6 wx => ∃ k : Nat, k + g = n ∧ t6 = .int .i64 k ∧ Rn wx B rb (es ++ byEv at_ (l.take k)) why true over ∧ Below B w wx)
    case atStart => exact ⟨0, by omega, rfl, by simpa [byEv] using h, Below.refl _ _⟩
    case round =>
      obtain ⟨k, hkg, rfl, hR, hbl⟩ := hrel
      obtain ⟨wo, rfl⟩ : ∃ wo : World, wo = wr := ⟨_, rfl⟩
      have hBo : B ≤ wo.heap.size := Nat.le_trans hB hbl.size
      obtain ⟨_, c2, _, _, hlt⟩ := hR.cells_
      cases gk with
      | zero =>
        obtain rfl : k = n := by omega
        have hk : ¬ (k : Int) < (k : Int) := by omega
        have HT := Lib.hid (show l.take k = l from List.take_of_length_le (by rw [HL.out]; omega))
        go_wp2
        refine bodyPost_ret (results_none rfl _ _ _) rfl ?_
        rw [HT.out] at hR
        exact ⟨rfl, by simpa using hR, hbl⟩
      | succ g =>
        have hk : (k : Int) < (n : Int) := by omega
        obtain ⟨x, hx⟩ : ∃ x, l[k]? = some x := ⟨_, List.getElem?_eq_getElem (by rw [HL.out]; omega)⟩
        obtain ⟨b, off, rfl, hb, hcell⟩ := RB.get HC.out hx
        have hbB : b < B := hA _ rfl
        have hcell2 : wo.cell? ⟨b, off + k, none⟩ = some (.int .u8 x) := by rw [hbl.cell (show (⟨b, off + k, none⟩ : Addr).block < B from hbB)]; exact hcell
        have HT := Lib.hid (show l.take (k + 1) = l.take k ++ [x] by
          obtain ⟨h1, h2⟩ := List.getElem?_eq_some_iff.1 hx
          rw [List.take_succ_eq_append_getElem h1, h2])
        have hln : (es ++ byEv at_ (l.take k)).length ≤ 1000000000 := by simp [byEv]; omega
        have cT := r_tell B rb _ why true over at_ (.by_ x) wo hR hBo hln
        have CT := Lib.hid cT
        clear cT hx hcell
        go_wp2_with (go_at_call 32; go_must (refine CT.out.mono ?_); rintro e w2 ⟨rfl, hR2, hb2⟩)
        go_roundg g
        case measure => omega
        case rel => exact ⟨k + 1, by omega, by go_num, by rw [HT.out]; simpa [byEv] using hR2, hbl.trans hb2⟩

def delimEv (es : List (Nat × Ev)) (at_ : Nat) (opn last : Bool) : List (Nat × Ev) := es ++ (if opn then [(at_, .cl)] else []) ++ (if last then [] else [(at_, .op)])
set_option maxHeartbeats 2000000 in
set_option maxRecDepth 100000 in
theorem r_delim (B rb : Nat) (es : List (Nat × Ev)) (why : Int) (opn over : Bool) (at_ : Nat) (last : Bool) (w : World) (h : Rn w B rb es why opn over) (hB : B ≤ w.heap.size) (hlen : es.length + 2 ≤ 1000000000) :
    Calls Try.prog 31 #[.pointer (some ⟨rb, 0, none⟩), .int .i64 at_, .bool last] w (TellPost w B rb (delimEv es at_ opn last) why (!last) last) := by
  obtain ⟨_, c2, c3, fz, hlt⟩ := h.cells_
  have tk1 : True := trivial
  cases opn with
  | false =>
    obtain ⟨hF, hFb⟩ := h.flags hB (!last) last
    have hFs := Nat.le_trans hB hFb.size
    cases last with
    | false =>
      have cT := r_tell B rb es why true false at_ .op _ hF hFs (by omega)
      have CT := Lib.hid cT
      clear cT
      go_enter Try.func31, Try.ntmps31
      go_wp2_with (go_at_call 32; go_must (refine CT.out.mono ?_); rintro e w2 ⟨rfl, hR2, hb2⟩)
      refine bodyPost_ret (results_none rfl _ _ _) rfl ?_
      exact ⟨rfl, by simpa [delimEv] using hR2, hFb.trans hb2⟩
    | true =>
      go_enter Try.func31, Try.ntmps31
      go_wp2_with (fail)
      refine bodyPost_ret (results_none rfl _ _ _) rfl ?_
      exact ⟨rfl, by simpa [delimEv] using hF, hFb⟩
  | true =>
    have cS := r_tell B rb es why true over at_ .cl _ h hB (by omega)
    have CS := Lib.hid cS
    clear cS
    cases last with
    | false =>
      go_enter Try.func31, Try.ntmps31
      go_wp2_with (first
        | (go_at_call 32; have _t := tk1; go_must (refine CS.out.mono ?_); rintro e w1 ⟨rfl, hR1, hb1⟩; obtain ⟨_, d2, d3, dz, dlt⟩ := hR1.cells_; have hB1 := Nat.le_trans hB hb1.size; have hFF := hR1.flags hB1 true false; obtain ⟨hF, hFb⟩ := hFF; have hFs := Nat.le_trans hB1 hFb.size; clear tk1 _t)
        | (go_at_call 32; go_must (refine (r_tell B rb _ why true false at_ .op _ hF hFs (by simp; omega)).mono ?_); rintro e w2 ⟨rfl, hR2, hb2⟩))
      refine bodyPost_ret (results_none rfl _ _ _) rfl ?_
      exact ⟨rfl, by simpa [delimEv] using hR2, hb1.trans (hFb.trans hb2)⟩
    | true =>
      go_enter Try.func31, Try.ntmps31
      go_wp2_with (go_at_call 32; go_must (refine CS.out.mono ?_); rintro e w1 ⟨rfl, hR1, hb1⟩; obtain ⟨_, d2, d3, dz, dlt⟩ := hR1.cells_; have hB1 := Nat.le_trans hB hb1.size; have hFF := hR1.flags hB1 false true; obtain ⟨hF, hFb⟩ := hFF; have hFs := Nat.le_trans hB1 hFb.size)
      refine bodyPost_ret (results_none rfl _ _ _) rfl ?_
      exact ⟨rfl, by simpa [delimEv] using hF, hb1.trans hFb⟩
end Go.Proofs.Ytmalacamfjdimaa.Pt
