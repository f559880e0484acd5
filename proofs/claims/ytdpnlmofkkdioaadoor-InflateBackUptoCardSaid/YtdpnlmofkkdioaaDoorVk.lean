/- The reference's writer: a dynamic block. -/
import Derived.Test.YtdpnlmofkkdioaaDoorVj
namespace Go.Proofs.YtdpnlmofkkdioaaDoor.Hf
set_option linter.unusedVariables false
set_option linter.unusedSimpArgs false
open Go.RowKit Go.Proofs.YtdpnlmofkkdioaaDoor.W

def BA (w : World) (b : Nat) (l : List Bool) : Prop := w.heap[b]? = some (.cells (bls l).toArray 4 (0, 0))
theorem BA.set {w : World} {b : Nat} {l : List Bool} (h : BA w b l) (k : Nat) : BA (w.setCell ⟨b, k, none⟩ (.bool true)) b (l.set k true) := by
  unfold BA at h ⊢
  rw [heap_set h k _]
  congr 2
  simp [bls, List.map_set]
theorem BA.other {w : World} {b c : Nat} {l : List Bool} (h : BA w b l) (hne : b ≠ c) (k : Nat) (v : Value) : BA (w.setCell ⟨c, k, none⟩ v) b l := (heap_setCell_other _ ⟨c, k, none⟩ b _ (by show b ≠ c; exact hne)).trans h
theorem BA.kp {w w' : World} {b : Nat} {l : List Bool} {S : List Nat} (h : BA w b l) (hk : Kp S w w') (hb : b ∉ S) : BA w' b l := (hk.block b (Array.getElem?_eq_some_iff.1 h).1 hb).trans h
theorem BA.cell {w : World} {b : Nat} {l : List Bool} (h : BA w b l) {k : Nat} {x : Bool} (hx : l[k]? = some x) : w.cell? ⟨b, k, none⟩ = some (.bool x) := by
  rw [cell_of_row w b k _ _ _ h]; simp [bls, hx]
theorem BA.fz {w : World} {b : Nat} {l : List Bool} (h : BA w b l) (k : Nat) : w.frozen? ⟨b, k, none⟩ = false := frozen_of_row w b k _ _ h
theorem BA.lt {w : World} {b : Nat} {l : List Bool} (h : BA w b l) : b < w.heap.size := (Array.getElem?_eq_some_iff.1 h).1
/-- What is made for a dynamic block. -/
structure Dyn (l : List Tok) (runs : Bool) (a d first : List Nat) (says : List Say) : Prop where
  sy : Says (a ++ d) 0 says 316
  ha : a.length = 286
  hd : d.length = 30
  h9 : ∀ x ∈ a ++ d, x ≤ 9
  na : newOk a = true
  nd : newOk d = true
  h7 : ∀ x ∈ first, x ≤ 7
  h19 : first.length = 19
  kr : kraft first = 32768
  us : ∀ s ∈ says, Has first s.sym
  ul : ∀ t ∈ l, Uses a d t
  e : Has a 256
def DyP (w : World) (B wb : Nat) (bs : List Bool) (l : List Tok) (runs : Bool) (e : Ending) (w' : World) : Prop := ∃ a d first says, Dyn l runs a d first says ∧ WP w B wb (bs ++ encDyn first says a d l) e w'
set_option maxHeartbeats 16000000 in
set_option maxRecDepth 100000 in
theorem w_dynamic (w : World) (B wb : Nat) (At : Option Addr) (n ct : Nat) (l : List Tok) (runs : Bool) (bs : List Bool) (h : Wz w B wb bs) (hl : l.length = n) (hr : R3 w 104 At (tk3 l)) (hok : ∀ t ∈ l, TokOk t) (hn : n ≤ 5000) (hbs : bs.length ≤ 700000000000) :
    Calls Tryd.prog 41 #[.pointer (some ⟨wb, 0, none⟩), .slice At n ct, .bool runs] w (DyP w B wb bs l runs) := by
  have H := Lib.hid h
  have HR := Lib.hid hr
  have HLL := Lib.hid hl
  have HOK := Lib.hid hok
  have HBS := Lib.hid hbs
  obtain ⟨cs1, hcs1⟩ : ∃ cs0, madeCells (Value.bool false).cells 286 = cs0 := ⟨_, rfl⟩
  obtain ⟨cs2, hcs2⟩ : ∃ cs0, madeCells (Value.bool false).cells 30 = cs0 := ⟨_, rfl⟩
  have HCS1 := Lib.hid (show cs1 = (bls (List.replicate 286 false)).toArray from by
    rw [← hcs1]
    apply Array.ext'
    rw [show (Value.bool false).cells = #[.bool false] from rfl, toList_madeCells_one]
    simp [bls])
  have HCS2 := Lib.hid (show cs2 = (bls (List.replicate 30 false)).toArray from by
    rw [← hcs2]
    apply Array.ext'
    rw [show (Value.bool false).cells = #[.bool false] from rfl, toList_madeCells_one]
    simp [bls])
  have hmk1 : ∀ w, (Instr.makeSlice 87 (.int .i64 286) (.int .i64 286)).run Tryd.prog w = .ok (.slice (some ⟨w.heap.size, 0, none⟩) 286 286) (w.alloc (.cells cs1 4)) := fun w => by
    have h9 := run_mk (P := Tryd.prog) bool1 .i64 .i64 (Nat.le_refl 286) (by omega) (by omega) w
    rw [hcs1] at h9
    exact h9
  have hmk2 : ∀ w, (Instr.makeSlice 87 (.int .i64 30) (.int .i64 30)).run Tryd.prog w = .ok (.slice (some ⟨w.heap.size, 0, none⟩) 30 30) (w.alloc (.cells cs2 4)) := fun w => by
    have h9 := run_mk (P := Tryd.prog) bool1 .i64 .i64 (Nat.le_refl 30) (by omega) (by omega) w
    rw [hcs2] at h9
    exact h9
  clear h hr hl hok hbs hcs1 hcs2
  go_enter Tryd.func41, Tryd.ntmps41
  go_upto_region 0 with (fail)
  go_cut [6, 7] (fun s6 s7 wz => ∃ lb db, s6 = .slice (some ⟨lb, 0, none⟩) 286 286 ∧ s7 = .slice (some ⟨db, 0, none⟩) 30 30 ∧ lb ≠ db ∧ Hid (BA wz lb (List.replicate 286 false) ∧ BA wz db (List.replicate 30 false) ∧ w.heap.size ≤ lb ∧ w.heap.size ≤ db ∧ Kp [] w wz))
  case first =>
    go_region
    · go_wp2_with (fail)
      go_meet
      have k1 : Kp [] w (w.alloc (.cells cs1 4)) := (Kp.refl _ _).alloc _
      have k2 : Kp [] (w.alloc (.cells cs1 4)) ((w.alloc (.cells cs1 4)).alloc (.cells cs2 4)) := (Kp.refl _ _).alloc _
      have s1 : (w.alloc (.cells cs1 4)).heap.size = w.heap.size + 1 := by simp
      refine ⟨w.heap.size, w.heap.size + 1, rfl, rfl, by omega, Lib.hid ⟨?_, ?_, Nat.le_refl _, by omega, (k1.trans k2).drew⟩⟩
      · show ((w.alloc (.cells cs1 4)).alloc (.cells cs2 4)).heap[w.heap.size]? = _
        rw [← HCS1.out]
        exact (k2.block _ (by omega) (by simp)).trans (heap_alloc_new w _)
      · show ((w.alloc (.cells cs1 4)).alloc (.cells cs2 4)).heap[w.heap.size + 1]? = _
        rw [← HCS2.out, ← s1]
        exact heap_alloc_new _ _
    · go_wp2_with (fail)
      go_meet
      have k1 : Kp [] w (w.alloc (.cells cs2 4)) := (Kp.refl _ _).alloc _
      have k2 : Kp [] (w.alloc (.cells cs2 4)) ((w.alloc (.cells cs2 4)).alloc (.cells cs1 4)) := (Kp.refl _ _).alloc _
      have s1 : (w.alloc (.cells cs2 4)).heap.size = w.heap.size + 1 := by simp
      refine ⟨w.heap.size + 1, w.heap.size, rfl, rfl, by omega, Lib.hid ⟨?_, ?_, by omega, Nat.le_refl _, (k1.trans k2).drew⟩⟩
      · show ((w.alloc (.cells cs2 4)).alloc (.cells cs1 4)).heap[w.heap.size + 1]? = _
        rw [← HCS1.out, ← s1]
        exact heap_alloc_new _ _
      · show ((w.alloc (.cells cs2 4)).alloc (.cells cs1 4)).heap[w.heap.size]? = _
        rw [← HCS2.out]
        exact (k2.block _ (by omega) (by simp)).trans (heap_alloc_new w _)
  case rest =>
    obtain ⟨lb, db, rfl, rfl, hne, hst⟩ := hcut
    clear hmk1 hmk2 HCS1 HCS2
    have hlb := hst.out.1.lt
    have hfz := hst.out.1.fz 256
    have hcl : wc.cell? ⟨lb, 256, none⟩ = some (.bool false) := hst.out.1.cell (by rw [List.getElem?_replicate, if_pos (by omega)])
    have HGE := Lib.hid (show w.heap.size ≤ lb ∧ w.heap.size ≤ db from ⟨hst.out.2.2.1, hst.out.2.2.2.1⟩)
    have HS1 := Lib.hid (show BA (wc.setCell ⟨lb, 256, none⟩ (.bool true)) lb ((List.replicate 286 false).set 256 true) ∧ BA (wc.setCell ⟨lb, 256, none⟩ (.bool true)) db (List.replicate 30 false) ∧ Marks l 0 ((List.replicate 286 false).set 256 true) (List.replicate 30 false) ∧ Kp [] w (wc.setCell ⟨lb, 256, none⟩ (.bool true)) from ⟨hst.out.1.set 256, hst.out.2.1.other (fun h => hne h.symm) _ _, Marks.start l, hst.out.2.2.2.2.setCell (.inr hst.out.2.2.1) _⟩)
    go_upto_block 0 with (fail)
    change Code.wp _ _ _ _ (wc.setCell ⟨lb, 256, none⟩ (.bool true))
    generalize wc.setCell ⟨lb, 256, none⟩ (.bool true) = w1 at *
    generalize (List.replicate 286 false).set 256 true = LB0 at *
    generalize List.replicate 30 false = DB0 at *
    clear hcl hfz hlb hst
    go_cut [] (fun wz => ∃ LB DB, Hid (BA wz lb LB ∧ BA wz db DB ∧ Marks l n LB DB ∧ Kp [] w wz))
    case first =>
      go_wp2_with (fail)
      go_loopg [8] n (fun g s8 wx => ∃ i LB DB, i + g = n ∧ s8 = .int .i64 (i : Nat) ∧ Hid (BA wx lb LB ∧ BA wx db DB ∧ Marks l i LB DB ∧ Kp [] w wx))
      case atStart => exact ⟨0, LB0, DB0, by omega, rfl, HS1⟩
      case round =>
        obtain ⟨i, LB, DB, hig, rfl, hst⟩ := hrel
        clear HS1
        cases gk with
        | zero =>
          obtain rfl : i = n := by omega
          have hk : ¬ (i : Int) < (i : Int) := by omega
          go_wp2_with (fail)
          go_meet
          exact ⟨LB, DB, hst⟩
        | succ g =>
          have hk : (i : Int) < (n : Int) := by omega
          have hk0 : (0 : Int) ≤ (i : Int) := by omega
          obtain ⟨t, ht⟩ : ∃ t, l[i]? = some t := ⟨_, List.getElem?_eq_getElem (by rw [HLL.out]; omega)⟩
          obtain ⟨x, len, dist⟩ := t
          obtain ⟨gb, xs, rfl, hg, x0, x1, x2⟩ := HR.out i (.int .u8 x) (.int .i64 (len : Nat)) (.int .i64 (dist : Nat)) (by unfold tk3; rw [List.getElem?_map, ht]; rfl)
          have hgl := (Array.getElem?_eq_some_iff.1 hg).1
          have HT := Lib.hid ht
          have HTO := Lib.hid (HOK.out _ (List.mem_of_getElem? ht))
          have HCE := Lib.hid (show ∀ wx, Kp [] w wx → wx.cell? ⟨gb, i * 3, none⟩ = some (.int .u8 x) ∧ wx.cell? ⟨gb, i * 3 + 1, none⟩ = some (.int .i64 (len : Nat)) ∧ wx.cell? ⟨gb, i * 3 + 2, none⟩ = some (.int .i64 (dist : Nat)) from fun wx hf => by
            have h1 := (hf.block gb hgl (by simp)).trans hg
            exact ⟨(cell_of_row wx gb _ _ _ _ h1).trans x0, (cell_of_row wx gb _ _ _ _ h1).trans x1, (cell_of_row wx gb _ _ _ _ h1).trans x2⟩)
          obtain ⟨c0, c1, c2⟩ := HCE.out _ hst.out.2.2.2
          have hll := hst.out.2.2.1.ll
          have hdl := hst.out.2.2.1.dl
          have z1 := hst.out.1.lt
          have z2 := hst.out.2.1.lt
          clear ht hg x0 x1 x2
          rcases HTO.out with ⟨hlen, hx0, hx1⟩ | ⟨h3, h258, hd1, hd200⟩
          · dsimp only at hlen hx0 hx1
            subst hlen
            obtain ⟨y, rfl⟩ : ∃ y : Nat, x = (y : Int) := ⟨x.toNat, by omega⟩
            have b1 : (0 : Int) ≤ (y : Int) := by omega
            have b2 : (y : Int) < 286 := by omega
            obtain ⟨bb, hbb⟩ : ∃ b, LB[y]? = some b := ⟨_, List.getElem?_eq_getElem (by omega)⟩
            have f1 := hst.out.1.cell hbb
            have f2 := hst.out.1.fz y
            have HN := Lib.hid (show BA (wr.setCell ⟨lb, y, none⟩ (.bool true)) lb (LB.set y true) ∧ BA (wr.setCell ⟨lb, y, none⟩ (.bool true)) db DB ∧ Marks l (i + 1) (LB.set y true) DB ∧ Kp [] w (wr.setCell ⟨lb, y, none⟩ (.bool true)) from
              ⟨hst.out.1.set y, hst.out.2.1.other (fun h => hne h.symm) _ _, hst.out.2.2.1.lit HT.out rfl (by show y < 286; omega), hst.out.2.2.2.setCell (.inr HGE.out.1) _⟩)
            clear hbb hll hdl
            go_wp2_with (fail)
            go_roundg g
            case measure => omega
            case rel => exact ⟨i + 1, _, _, by omega, by go_num, HN⟩
          · dsimp only at h3 h258 hd1 hd200
            have hl0 : ¬ (len : Int) = 0 := by omega
            have q1 := lsy_ok h3 h258
            have q2 := dsy_ok hd1 hd200
            obtain ⟨s1, hs1⟩ : ∃ s, 257 + lsy len = s := ⟨_, rfl⟩
            obtain ⟨v1, hv1⟩ : ∃ s, len - lL.getD (lsy len) 0 = s := ⟨_, rfl⟩
            obtain ⟨n1, hn1⟩ : ∃ s, mL.getD (lsy len) 0 = s := ⟨_, rfl⟩
            obtain ⟨s2, hs2⟩ : ∃ s, dsy dist = s := ⟨_, rfl⟩
            obtain ⟨v2, hv2⟩ : ∃ s, dist - lB.getD (dsy dist) 0 = s := ⟨_, rfl⟩
            obtain ⟨n2, hn2⟩ : ∃ s, mB.getD (dsy dist) 0 = s := ⟨_, rfl⟩
            have C1 := Lib.hid (fun wx => w_lsym wx len h3 h258)
            rw [hs1, hv1, hn1] at C1
            have C4 := Lib.hid (fun wx => w_dsym wx dist hd1 hd200)
            rw [hv2, hn2, hs2] at C4
            have b1 : (0 : Int) ≤ (s1 : Int) := by omega
            have b2 : (s1 : Int) < 286 := by omega
            have b3 : (0 : Int) ≤ (s2 : Int) := by omega
            have b4 : (s2 : Int) < 30 := by omega
            obtain ⟨bb, hbb⟩ : ∃ b, LB[s1]? = some b := ⟨_, List.getElem?_eq_getElem (by omega)⟩
            obtain ⟨bd, hbd⟩ : ∃ b, DB[s2]? = some b := ⟨_, List.getElem?_eq_getElem (by omega)⟩
            have f1 := hst.out.1.cell hbb
            have f2 := hst.out.1.fz s1
            have hk1 : Kp [] w (wr.setCell ⟨lb, s1, none⟩ (.bool true)) := hst.out.2.2.2.setCell (.inr HGE.out.1) _
            have hm := hst.out.2.2.1.cpy HT.out (show len ≠ 0 by omega) (show 257 + lsy len < 286 by omega) (show dsy dist < 30 by omega)
            dsimp only at hm
            rw [hs1, hs2] at hm
            have HN := Lib.hid (show BA (wr.setCell ⟨lb, s1, none⟩ (.bool true)) lb (LB.set s1 true) ∧ BA (wr.setCell ⟨lb, s1, none⟩ (.bool true)) db DB ∧ Marks l (i + 1) (LB.set s1 true) (DB.set s2 true) ∧ Kp [] w (wr.setCell ⟨lb, s1, none⟩ (.bool true)) from
              ⟨hst.out.1.set s1, hst.out.2.1.other (fun h => hne h.symm) _ _, hm, hk1⟩)
            have HBD := Lib.hid hbd
            clear hm hbb hbd hll hdl q1 q2 hs1 hv1 hn1 hs2 hv2 hn2 h3 h258 hd1 hd200 hst hk1
            have C1b := Lib.hid (C1.out wr)
            go_upto_region 8 with (first
              | (go_at_call 58; go_must (refine C1b.out.mono ?_); rintro e w2 ⟨rfl, rfl⟩))
            go_upto_region 9 with (fail)
            change Code.wp _ _ _ _ (wr.setCell ⟨lb, s1, none⟩ (.bool true))
            generalize wr.setCell ⟨lb, s1, none⟩ (.bool true) = w3 at *
            clear f1 f2 c0 c1 c2 z1 z2 C1 C1b
            obtain ⟨c0, c1, c2⟩ := HCE.out _ HN.out.2.2.2
            have C4b := Lib.hid (C4.out w3)
            go_upto_region 10 with (first
              | (go_at_call 59; go_must (refine C4b.out.mono ?_); rintro e w4 ⟨rfl, rfl⟩))
            have z1 := HN.out.2.1.lt
            have f1 := HN.out.2.1.cell HBD.out
            have f2 := HN.out.2.1.fz s2
            have HN2 := Lib.hid (show BA (w3.setCell ⟨db, s2, none⟩ (.bool true)) lb (LB.set s1 true) ∧ BA (w3.setCell ⟨db, s2, none⟩ (.bool true)) db (DB.set s2 true) ∧ Marks l (i + 1) (LB.set s1 true) (DB.set s2 true) ∧ Kp [] w (w3.setCell ⟨db, s2, none⟩ (.bool true)) from
              ⟨HN.out.1.other hne _ _, HN.out.2.1.set s2, HN.out.2.2.1, HN.out.2.2.2.setCell (.inr HGE.out.2) _⟩)
            go_wp2_with (fail)
            go_roundg g
            case measure => omega
            case rel => exact ⟨i + 1, _, _, by omega, by go_num, HN2⟩
    case rest =>
      obtain ⟨LB, DB, hst⟩ := hcut
      have hll := hst.out.2.2.1.ll
      have hdl := hst.out.2.2.1.dl
      clear HS1
      have HKW := Lib.hid hst.out.2.2.2
      have HMK := Lib.hid (show Marks l l.length LB DB by rw [HLL.out]; exact hst.out.2.2.1)
      have HDB := Lib.hid hst.out.2.1
      have C1 := Lib.hid ((w_full _ lb LB 1 286 hst.out.1 hll (by omega) (by omega)).mono (R' := fun e w' => ∃ ob, e = .returned (.slice (some ⟨ob, 0, none⟩) 286 286) ∧ w'.heap[ob]? = some (.cells (ints (fullL LB 1)).toArray 3 (0, 0)) ∧ Kp [lb] wc w' ∧ wc.heap.size ≤ ob) (by rintro e w' ⟨ob, h1, h2⟩; rw [hll] at h1; exact ⟨ob, h1, h2⟩))
      clear hst
      have tk1 : True := trivial
      go_upto_region 12 with (first
        | (go_at_call 61; have _t := tk1; go_must (refine C1.out.mono ?_); rintro e w2 ⟨oa, rfl, ha, hka, hoa⟩; have HA2 := Lib.hid ha; have HKA := Lib.hid hka; have HOA := Lib.hid hoa; clear ha hka hoa; have HK2 := Lib.hid (((HKW.out.mono (T := [lb]) (by simp)).trans HKA.out).mono (T := []) (fun k hm => .inr (by rw [List.mem_singleton.1 hm]; exact HGE.out.1))); have HDB2 := Lib.hid (HDB.out.kp HKA.out (by simp; exact fun h => hne h.symm)); have C2 := Lib.hid ((w_full w2 db DB 0 30 HDB2.out hdl (by omega) (by omega)).mono (R' := fun e w' => ∃ ob, e = .returned (.slice (some ⟨ob, 0, none⟩) 30 30) ∧ w'.heap[ob]? = some (.cells (ints (fullL DB 0)).toArray 3 (0, 0)) ∧ Kp [db] w2 w' ∧ w2.heap.size ≤ ob) (by rintro e w' ⟨ob, h1, h2⟩; rw [hdl] at h1; exact ⟨ob, h1, h2⟩)); clear tk1 _t)
        | (go_at_call 61; go_must (refine C2.out.mono ?_); rintro e w3 ⟨ob, rfl, hb, hkb, hob⟩; have HB3 := Lib.hid hb; have HKB := Lib.hid hkb; have HOB := Lib.hid hob; clear hb hkb hob))
      have HK3 := Lib.hid (((HK2.out.mono (T := [db]) (by simp)).trans HKB.out).mono (T := []) (fun k hm => .inr (by rw [List.mem_singleton.1 hm]; exact HGE.out.2)))
      have HA3 := Lib.hid ((HKB.out.block oa (Array.getElem?_eq_some_iff.1 HA2.out).1 (by have h1 := HDB.out.lt; have h2 := HOA.out; simp; omega)).trans HA2.out)
      have HAD := Lib.hid (show (fullL LB 1).length = 286 ∧ (fullL DB 0).length = 30 ∧ (∀ x ∈ fullL LB 1 ++ fullL DB 0, x ≤ 9) ∧ newOk (fullL LB 1) = true ∧ newOk (fullL DB 0) = true ∧ (∀ t ∈ l, Uses (fullL LB 1) (fullL DB 0) t) ∧ Has (fullL LB 1) 256 from
        ⟨fullL_length.trans hll, fullL_length.trans hdl, fun x hx => (List.mem_append.1 hx).elim (fullL_le (by omega) x) (fullL_le (by omega) x), fullL_ok (by omega), fullL_ok (by omega), HMK.out.uses.1, HMK.out.uses.2⟩)
      generalize fullL LB 1 = a at *
      generalize fullL DB 0 = d at *
      have rv_of : ∀ (wx : World) (g : Nat) (cs : List Nat), wx.heap[g]? = some (.cells (ints cs).toArray 3 (0, 0)) → RV wx (some ⟨g, 0, none⟩) (ints cs) := fun wx g cs hg i v hv => ⟨g, 0, rfl, (Array.getElem?_eq_some_iff.1 hg).1, by rw [Nat.zero_add, cell_of_row wx g i _ _ _ hg]; simpa using hv⟩
      have RVO := Lib.hid rv_of
      have HO0 := Lib.hid (show (w3.alloc (.cells #[] 3)).ownsRow w3.heap.size 3 1 (.slice (some ⟨w3.heap.size, 0, none⟩) 0 0) 0 [] from own_lit (w := w3) (base := w3.heap.size) (e := 3) #[] (n := 0) rfl (Nat.le_refl _) (by unfold maxLen; omega))
      have HRA := Lib.hid (RVO.out (w3.alloc (.cells #[] 3)) oa a ((((Kp.refl [] w3).alloc _).block oa (Array.getElem?_eq_some_iff.1 HA3.out).1 (by simp)).trans HA3.out))
      have HLA := Lib.hid (show (ints a).length = 286 by unfold ints; rw [List.length_map]; exact HAD.out.1)
      have HLD := Lib.hid (show (ints d).length = 30 by unfold ints; rw [List.length_map]; exact HAD.out.2.1)
      have HONE := Lib.hid (show ∀ (cs : List Nat) (u : Value), u ∈ ints cs → u.oneCell' = true from fun cs u hu => by
        unfold ints at hu
        obtain ⟨x, _, rfl⟩ := List.mem_map.1 hu
        rfl)
      clear rv_of
      have tk2 : True := trivial
      go_upto_region 13 with (first
        | (at_builtin; have _t := tk2; go_must (refine wpList_ap int8 rfl (.tmp 81) (.tmp 82) rfl (base := w3.heap.size) (n := 0) (m := 286) (xs := []) rfl HO0.out rfl HLA.out HRA.out (HONE.out a) (by unfold maxLen; omega) (by omega) (by simp) ?_); intro A4 c4 w4 hown4 hgrow4 hat4 hle4; have HO4 := Lib.hid (show w4.ownsRow w3.heap.size 3 1 (.slice A4 286 c4) 286 (ints a) from hown4); have HG4 := Lib.hid (grown_kpz HO0.out hgrow4); have HK4 := Lib.hid (show Kp [] w3 w4 by obtain ⟨T4, k4, t4⟩ := HG4.out; exact ((((Kp.refl [] w3).alloc _).mono (T := T4) (by simp)).trans k4).mono (fun k hm => .inr (t4 k hm))); clear hown4 hgrow4 hat4 hle4; have HRB := Lib.hid (RVO.out w4 ob d ((HK4.out.block ob (Array.getElem?_eq_some_iff.1 HB3.out).1 (by simp)).trans HB3.out)); clear tk2 _t)
        | (at_builtin; go_must (refine wpList_ap int8 rfl (.tmp 83) (.tmp 84) rfl (base := w3.heap.size) (n := 286) (m := 30) (xs := ints a) rfl HO4.out rfl HLD.out HRB.out (HONE.out d) (by unfold maxLen; omega) (by omega) HK4.out.size ?_); intro A5 c5 w5 hown5 hgrow5 hat5 hle5; have HO5 := Lib.hid (show w5.ownsRow w3.heap.size 3 1 (.slice A5 316 c5) 316 (ints a ++ ints d) from hown5); have HG5 := Lib.hid (grown_kpz HO4.out hgrow5); have HK5 := Lib.hid (show Kp [] w3 w5 by obtain ⟨T4, k4, t4⟩ := HG5.out; exact ((HK4.out.mono (T := T4) (by simp)).trans k4).mono (fun k hm => .inr (t4 k hm))); clear hown5 hgrow5 hat5 hle5))
      have hle15 : ∀ x ∈ a ++ d, x ≤ 15 := fun x hx => Nat.le_trans (HAD.out.2.2.1 x hx) (by omega)
      have H15 := Lib.hid hle15
      have C3 := Lib.hid (w_said w5 A5 316 c5 (a ++ d) runs (by rw [List.length_append, HAD.out.1, HAD.out.2.1]) (by have := RV.own HO5.out; unfold ints at this ⊢; rw [List.map_append]; exact this) (by omega) hle15)
      clear hle15
      go_upto_region 14 with (first
        | (go_at_call 62; go_must (refine C3.out.mono ?_); rintro e w6 ⟨As, cs, says, ns, rfl, hsl, hso, hsy, hsk⟩; have HSL := Lib.hid hsl; have HSO := Lib.hid hso; have HSY := Lib.hid hsy; have HSK := Lib.hid hsk; clear hsl hso hsy hsk))
      have HK6 := Lib.hid (HK3.out.trans (HK5.out.trans HSK.out))
      clear HA2 HKA HOA HK2 HDB2 C1 C2 HKB HOB HO0 HRA HO4 HG4 HK4 HRB HO5 HG5 C3 HKW HMK HDB
      obtain ⟨cs3, hcs3⟩ : ∃ cs0, madeCells (Value.bool false).cells 19 = cs0 := ⟨_, rfl⟩
      have HCS3 := Lib.hid (show cs3 = (bls (List.replicate 19 false)).toArray from by
        rw [← hcs3]
        apply Array.ext'
        rw [show (Value.bool false).cells = #[.bool false] from rfl, toList_madeCells_one]
        simp [bls])
      have hmk3 : (Instr.makeSlice 87 (.int .i64 19) (.int .i64 19)).run Tryd.prog w6 = .ok (.slice (some ⟨w6.heap.size, 0, none⟩) 19 19) (w6.alloc (.cells cs3 4)) := by
        have h9 := run_mk (P := Tryd.prog) bool1 .i64 .i64 (Nat.le_refl 19) (by omega) (by omega) w6
        rw [hcs3] at h9
        exact h9
      clear hcs3
      go_upto_block 2 with (fail)
      have HU7 := Lib.hid (show BA (w6.alloc (.cells cs3 4)) w6.heap.size (List.replicate 19 false) from by unfold BA; rw [← HCS3.out]; exact heap_alloc_new _ _)
      have HK7 := Lib.hid (show Kp [] w6 (w6.alloc (.cells cs3 4)) from (Kp.refl _ _).alloc _)
      have HR3 := Lib.hid (show R3 w6 113 As (sy3 says) from R3.own (by rw [← syC_3]; exact HSO.out))
      have HSYM := Lib.hid (HSY.out.syms H15.out)
      have HNS := Lib.hid (show ns ≤ 316 by have h8 := HSY.out.count; rw [List.length_append, HAD.out.1, HAD.out.2.1, HSL.out] at h8; omega)
      change Code.wp _ _ _ _ (w6.alloc (.cells cs3 4))
      generalize w6.alloc (.cells cs3 4) = w7 at *
      clear hmk3
      obtain ⟨ub, hub⟩ : ∃ ub, w6.heap.size = ub := ⟨_, rfl⟩
      rw [hub] at HU7 ⊢
      have HUB := Lib.hid hub
      clear hub
      go_cut [] (fun wz => ∃ U, Hid (BA wz ub U ∧ SMarks says ns U ∧ Kp [] w6 wz))
      case first =>
        go_wp2_with (fail)
        go_loopg [17] ns (fun g s17 wx => ∃ i U, i + g = ns ∧ s17 = .int .i64 (i : Nat) ∧ Hid (BA wx ub U ∧ SMarks says i U ∧ Kp [] w6 wx))
        case atStart => exact ⟨0, _, by omega, rfl, Lib.hid ⟨HU7.out, SMarks.start says, HK7.out⟩⟩
        case round =>
          obtain ⟨i, U, hig, rfl, hst⟩ := hrel
          cases gk with
          | zero =>
            obtain rfl : i = ns := by omega
            have hk : ¬ (i : Int) < (i : Int) := by omega
            go_wp2_with (fail)
            go_meet
            exact ⟨U, hst⟩
          | succ g =>
            have hns := HNS.out
            have hk : (i : Int) < (ns : Int) := by omega
            have hk0 : (0 : Int) ≤ (i : Int) := by omega
            obtain ⟨t, ht⟩ : ∃ t, says[i]? = some t := ⟨_, List.getElem?_eq_getElem (by rw [HSL.out]; omega)⟩
            have hsy := HSYM.out t (List.mem_of_getElem? ht)
            obtain ⟨sm, sv, sn⟩ := t
            dsimp only at hsy
            obtain ⟨gb, xs, rfl, hg, x0, x1, x2⟩ := HR3.out i (.int .i64 (sm : Nat)) (.int .i64 (sv : Nat)) (.int .i64 (sn : Nat)) (by unfold sy3; rw [List.getElem?_map, ht]; rfl)
            have h1 := (hst.out.2.2.block gb (Array.getElem?_eq_some_iff.1 hg).1 (by simp)).trans hg
            have c0 : wr.cell? ⟨gb, i * 3, none⟩ = some (.int .i64 (sm : Nat)) := (cell_of_row wr gb _ _ _ _ h1).trans x0
            have hul := hst.out.2.1.len
            have b1 : (0 : Int) ≤ (sm : Int) := by omega
            have b2 : (sm : Int) < 19 := by omega
            obtain ⟨bb, hbb⟩ : ∃ b, U[sm]? = some b := ⟨_, List.getElem?_eq_getElem (by omega)⟩
            have f1 := hst.out.1.cell hbb
            have f2 := hst.out.1.fz sm
            have z1 := hst.out.1.lt
            have HN := Lib.hid (show BA (wr.setCell ⟨ub, sm, none⟩ (.bool true)) ub (U.set sm true) ∧ SMarks says (i + 1) (U.set sm true) ∧ Kp [] w6 (wr.setCell ⟨ub, sm, none⟩ (.bool true)) from
              ⟨hst.out.1.set sm, hst.out.2.1.more ht hsy.1, hst.out.2.2.setCell (.inr (by rw [HUB.out]; exact Nat.le_refl _)) _⟩)
            clear ht hg x0 x1 x2 h1 hbb hul
            go_wp2_with (fail)
            go_roundg g
            case measure => omega
            case rel => exact ⟨i + 1, _, by omega, by go_num, HN⟩
      case rest =>
        obtain ⟨U, hst⟩ := hcut
        have hul := hst.out.2.1.len
        have HKU := Lib.hid hst.out.2.2
        have HUSE := Lib.hid (show (∀ s ∈ says, Has (fullL U 2) s.sym) ∧ (∀ x ∈ fullL U 2, x ≤ 7) ∧ (fullL U 2).length = 19 ∧ kraft (fullL U 2) = 32768 from
          ⟨(show SMarks says says.length U by rw [HSL.out]; exact hst.out.2.1).has, fullL_le7 hul, fullL_length.trans hul, fullL_kraft (by omega) (fullU_two (by omega) rfl)⟩)
        have C1 := Lib.hid ((w_full _ ub U 2 19 hst.out.1 hul (by omega) (by omega)).mono (R' := fun e w' => ∃ ob, e = .returned (.slice (some ⟨ob, 0, none⟩) 19 19) ∧ w'.heap[ob]? = some (.cells (ints (fullL U 2)).toArray 3 (0, 0)) ∧ Kp [ub] wc w' ∧ wc.heap.size ≤ ob) (by rintro e w' ⟨ob, h1, h2⟩; rw [hul] at h1; exact ⟨ob, h1, h2⟩))
        go_upto_region 20 with (first
          | (go_at_call 61; go_must (refine C1.out.mono ?_); rintro e w8 ⟨fb, rfl, hf8, hk8, hfb⟩; have HF8 := Lib.hid hf8; have HK8 := Lib.hid (((HKU.out.mono (T := [ub]) (by simp)).trans hk8).mono (T := []) (fun k hm => .inr (by rw [List.mem_singleton.1 hm, HUB.out]; exact Nat.le_refl _))); clear hf8 hk8 hfb))
        have HW9 := Lib.hid (H.out.fr (HK6.out.trans HK8.out))
        have C4 := Lib.hid (w_number w8 B wb bs 29 5 HW9.out (by omega) (by omega) (by have := HBS.out; omega))
        go_upto_region 21 with (first
          | (go_at_call 38; go_must (refine C4.out.mono ?_); rintro e wa ⟨rfl, h1, h2⟩; have HWa := Lib.hid h1; have HFa := Lib.hid h2; clear h1 h2))
        have hbl : ∀ k v, (bitsOf k v).length = k := fun k v => bitsOf_length k v
        have C5 := Lib.hid (w_number wa B wb _ 29 5 HWa.out (by omega) (by omega) (by rw [List.length_append, hbl]; have := HBS.out; omega))
        go_upto_region 22 with (first
          | (go_at_call 38; go_must (refine C5.out.mono ?_); rintro e wb2 ⟨rfl, h1, h2⟩; have HWb := Lib.hid h1; have HFb := Lib.hid h2; clear h1 h2))
        have C6 := Lib.hid (w_number wb2 B wb _ 15 4 HWb.out (by omega) (by omega) (by simp only [List.length_append, hbl]; have := HBS.out; omega))
        go_upto_region 23 with (first
          | (go_at_call 38; go_must (refine C6.out.mono ?_); rintro e wc2 ⟨rfl, h1, h2⟩; have HWc := Lib.hid h1; have HFc := Lib.hid h2; clear h1 h2))
        have HFC := Lib.hid (HFa.out.trans (HFb.out.trans HFc.out))
        obtain ⟨first, hfirst⟩ : ∃ f, fullL U 2 = f := ⟨_, rfl⟩
        rw [hfirst] at HUSE HF8
        clear hfirst C1 C4 C5 C6
        go_upto_block 4 with (first
          | (go_at_call 47; go_must (refine (r_order wc2).mono ?_); rintro e w3 ⟨rfl, rfl⟩))
        have k1 : Kp [] wc2 (wc2.alloc (.cells (ints ord).toArray 3)) := (Kp.refl _ _).alloc _
        have HWD := Lib.hid (HWc.out.fr k1)
        have HFD := Lib.hid (show Fw B w8 (wc2.alloc (.cells (ints ord).toArray 3)) from HFC.out.trans (Fw.of_kp k1 (fun k hk => (by cases hk))))
        have HOD := Lib.hid (show (wc2.alloc (.cells (ints ord).toArray 3)).heap[wc2.heap.size]? = some (.cells (ints ord).toArray 3 (0, 0)) from heap_alloc_new _ _)
        change Code.wp _ _ _ _ (wc2.alloc (.cells (ints ord).toArray 3))
        generalize wc2.alloc (.cells (ints ord).toArray 3) = wd at *
        generalize wc2.heap.size = oo at *
        clear k1
        obtain ⟨bs3, hbs3⟩ : ∃ x, bs ++ bitsOf 5 29 ++ bitsOf 5 29 ++ bitsOf 4 15 = x := ⟨_, rfl⟩
        have HL3 := Lib.hid (show bs3.length ≤ 700000000014 by rw [← hbs3]; simp only [List.length_append, hbl]; have := HBS.out; omega)
        rw [hbs3] at HWD
        have HBS3 := Lib.hid hbs3
        have HBL := Lib.hid hbl
        clear hbs3 hbl
        go_cut [] (fun wz => Hid (Wz wz B wb (bs3 ++ encLol first) ∧ Fw B wd wz))
        case first =>
          go_wp2_with (fail)
          go_loopg [20] 19 (fun g s20 wx => ∃ i : Nat, i + g = 19 ∧ s20 = .int .i64 (i : Nat) ∧ Hid (Wz wx B wb (bs3 ++ (ord.take i).flatMap fun o => bitsOf 3 (first.getD o 0)) ∧ Fw B wd wx ∧ (bs3 ++ (ord.take i).flatMap fun o => bitsOf 3 (first.getD o 0)).length ≤ 700000000014 + 3 * i))
          case atStart => exact ⟨0, by omega, rfl, Lib.hid ⟨by rw [List.take_zero, List.flatMap_nil, List.append_nil]; exact HWD.out, Fw.refl _ _, by rw [List.take_zero, List.flatMap_nil, List.append_nil]; exact HL3.out⟩⟩
          case round =>
            obtain ⟨i, hig, rfl, hst⟩ := hrel
            cases gk with
            | zero =>
              obtain rfl : i = 19 := by omega
              go_wp2_with (fail)
              go_meet
              exact Lib.hid ⟨hst.out.1, hst.out.2.1⟩
            | succ g =>
              have hk : (i : Int) < 19 := by omega
              have hk0 : (0 : Int) ≤ (i : Int) := by omega
              obtain ⟨j, hj⟩ : ∃ j, ord[i]? = some j := ⟨_, List.getElem?_eq_getElem (show i < 19 by omega)⟩
              have hj19 : j < 19 := (show ∀ x ∈ ord, x < 19 by decide +kernel) j (List.mem_of_getElem? hj)
              obtain ⟨v, hv⟩ : ∃ v, first[j]? = some v := ⟨_, List.getElem?_eq_getElem (by rw [HUSE.out.2.2.1]; exact hj19)⟩
              have hv7 := HUSE.out.2.1 v (List.mem_of_getElem? hv)
              have h1 := hst.out.2.1.block oo _ HOD.out (.inr ⟨_, _, rfl, by decide, by decide⟩)
              have h2 := (HFD.out.trans hst.out.2.1).block fb _ HF8.out (.inr ⟨_, _, rfl, by decide, by decide⟩)
              have c0 : wr.cell? ⟨oo, i, none⟩ = some (.int .i64 (j : Nat)) := by rw [cell_of_row wr oo _ _ _ _ h1]; simp [ints, hj]
              have c1 : wr.cell? ⟨fb, j, none⟩ = some (.int .i64 (v : Nat)) := by rw [cell_of_row wr fb _ _ _ _ h2]; simp [ints, hv]
              have b1 : (0 : Int) ≤ (j : Int) := by omega
              have b2 : (j : Int) < 19 := by omega
              have C7 := Lib.hid (w_number wr B wb _ v 3 hst.out.1 (by omega) (by omega) (by have := hst.out.2.2; omega))
              have HE := Lib.hid (show (ord.take (i + 1)).flatMap (fun o => bitsOf 3 (first.getD o 0)) = (ord.take i).flatMap (fun o => bitsOf 3 (first.getD o 0)) ++ bitsOf 3 v by
                obtain ⟨q1, q2⟩ := List.getElem?_eq_some_iff.1 hj
                rw [List.take_succ_eq_append_getElem q1, q2, List.flatMap_append]
                simp [List.getD_eq_getElem?_getD, hv])
              clear hj hv h1 h2
              go_wp2_with (first
                | (go_at_call 38; go_must (refine C7.out.mono ?_); rintro e w9 ⟨rfl, h1, h2⟩; have HW9 := Lib.hid h1; have HF9 := Lib.hid h2; clear h1 h2))
              go_roundg g
              case measure => omega
              case rel =>
                refine ⟨i + 1, by omega, by go_num, Lib.hid ⟨by rw [HE.out, ← List.append_assoc]; exact HW9.out, hst.out.2.1.trans HF9.out, ?_⟩⟩
                rw [HE.out, ← List.append_assoc, List.length_append, HBL.out]
                have := hst.out.2.2
                omega
        case rest =>
          have HWL := Lib.hid hcut.out.1
          have HFL := Lib.hid (HFD.out.trans hcut.out.2)
          have HRV := Lib.hid (RVO.out wc fb first (HFL.out.block fb _ HF8.out (.inr ⟨_, _, rfl, by decide, by decide⟩)))
          have CN := Lib.hid (r_new (some ⟨fb, 0, none⟩) 19 19 first wc HUSE.out.2.2.1 (by omega) (fun x hx => by have := HUSE.out.2.1 x hx; omega) HRV.out)
          have HOKF := Lib.hid (newOk_full HUSE.out.2.2.2)
          clear hcut HWD HFD HOD
          go_upto_block 6 with (first
            | (go_at_call 27; go_must (refine CN.out.mono ?_); rintro e wn hn; obtain ⟨tf, rfl, htf, hkf⟩ := hn.yes HOKF.out; have HTF := Lib.hid htf; have HKN := Lib.hid hkf; clear htf hkf hn))
          have HWN := Lib.hid (HWL.out.fr HKN.out)
          have HFN := Lib.hid (HFL.out.trans (Fw.of_kp HKN.out (fun k hk => (by cases hk))))
          have HSR := Lib.hid ((HR3.out.kp HK8.out).fw ⟨by decide, by decide⟩ HFN.out)
          obtain ⟨bs4, hbs4⟩ : ∃ x, bs3 ++ encLol first = x := ⟨_, rfl⟩
          have HL4 := Lib.hid (show bs4.length ≤ 700000000071 by
            have e : (encLol first).length = 57 := by simp [encLol, ord, bitsOf_length]
            rw [← hbs4, List.length_append, e]
            have := HL3.out
            omega)
          rw [hbs4] at HWN
          have HB4 := Lib.hid hbs4
          clear hbs4 CN HRV HWL HFL
          have hns := HNS.out
          go_cut [] (fun wz => Hid (Wz wz B wb (bs4 ++ encSays first says) ∧ Fw B wn wz ∧ (bs4 ++ encSays first says).length ≤ 700000000071 + 22 * ns))
          case first =>
            go_wp2_with (fail)
            go_loopg [23] ns (fun g s23 wx => ∃ i : Nat, i + g = ns ∧ s23 = .int .i64 (i : Nat) ∧ Hid (Wz wx B wb (bs4 ++ encSays first (says.take i)) ∧ Fw B wn wx ∧ (bs4 ++ encSays first (says.take i)).length ≤ 700000000071 + 22 * i))
            case atStart => exact ⟨0, by omega, rfl, Lib.hid ⟨by rw [List.take_zero]; show Wz wn B wb (bs4 ++ []); rw [List.append_nil]; exact HWN.out, Fw.refl _ _, by rw [List.take_zero]; show (bs4 ++ []).length ≤ _; rw [List.append_nil]; have := HL4.out; omega⟩⟩
            case round =>
              obtain ⟨i, hig, rfl, hsr⟩ := hrel
              clear hst
              cases gk with
              | zero =>
                obtain rfl : i = ns := by omega
                have hk : ¬ (i : Int) < (i : Int) := by omega
                go_wp2_with (fail)
                go_meet
                have h9 := hsr.out
                rw [← HSL.out, List.take_length, HSL.out] at h9
                exact Lib.hid h9
              | succ g =>
                have hk : (i : Int) < (ns : Int) := by omega
                have hk0 : (0 : Int) ≤ (i : Int) := by omega
                obtain ⟨t, ht⟩ : ∃ t, says[i]? = some t := ⟨_, List.getElem?_eq_getElem (by rw [HSL.out]; omega)⟩
                have hsy := HSYM.out t (List.mem_of_getElem? ht)
                have HSN := Lib.hid (encSays_snoc (first := first) ht)
                obtain ⟨sm, sv, sn⟩ := t
                dsimp only at hsy
                have HSB := Lib.hid hsy
                obtain ⟨gb, xs, rfl, hg, x0, x1, x2⟩ := HSR.out i (.int .i64 (sm : Nat)) (.int .i64 (sv : Nat)) (.int .i64 (sn : Nat)) (by unfold sy3; rw [List.getElem?_map, ht]; rfl)
                have HCE := Lib.hid (show ∀ wx, Fw B wn wx → wx.cell? ⟨gb, i * 3, none⟩ = some (.int .i64 (sm : Nat)) ∧ wx.cell? ⟨gb, i * 3 + 1, none⟩ = some (.int .i64 (sv : Nat)) ∧ wx.cell? ⟨gb, i * 3 + 2, none⟩ = some (.int .i64 (sn : Nat)) from fun wx hf => by
                  have h1 := hf.block gb _ hg (.inr ⟨_, _, rfl, by decide, by decide⟩)
                  exact ⟨(cell_of_row wx gb _ _ _ _ h1).trans x0, (cell_of_row wx gb _ _ _ _ h1).trans x1, (cell_of_row wx gb _ _ _ _ h1).trans x2⟩)
                obtain ⟨c0, c1, c2⟩ := HCE.out _ hsr.out.2.1
                clear ht hg x0 x1 x2 hsy
                have HF15 := Lib.hid (show ∀ x ∈ first, x ≤ 15 from fun x hx => by have := HUSE.out.2.1 x hx; omega)
                have h19 := HUSE.out.2.2.1
                have HLC := Lib.hid (code_len15 HF15.out (i := sm) (by have := HSB.out.1; omega))
                have C8 := Lib.hid (w_symbol wr B wb tf first _ sm hsr.out.1 (HTF.out.fw hsr.out.2.1) HF15.out (by have := HSB.out.1; omega) (by have := hsr.out.2.2; omega) (by omega))
                go_upto_region 33 with (first
                  | (go_at_call 57; go_must (refine C8.out.mono ?_); rintro e w2 ⟨rfl, h1, h2⟩; have HW2 := Lib.hid h1; have HF2 := Lib.hid (hsr.out.2.1.trans h2); clear h1 h2))
                clear c0 c1 c2
                obtain ⟨c0, c1, c2⟩ := HCE.out _ HF2.out
                have HL2 := Lib.hid (show (bs4 ++ encSays first (says.take i) ++ code first sm).length ≤ 700000000071 + 22 * i + 15 by rw [List.length_append]; have := hsr.out.2.2; have := HLC.out; omega)
                go_still_tail 11, (by kernel_rfl)
                change wpList _ _ _ _ _ w2.drew
                have hkd : Kp [] w2 w2.drew := (Kp.refl _ _).drew
                have HW2b := Lib.hid (HW2.out.fr hkd)
                have HF2b := Lib.hid (HF2.out.trans (Fw.of_kp (B := B) hkd (fun k hk => (by cases hk))))
                clear hkd HW2 HF2 c0 c1 c2
                generalize w2.drew = w2b at *
                have C9 := Lib.hid (w_number w2b B wb _ sv sn HW2b.out (by have := HSB.out; omega) (by have := HSB.out; omega) (by have := HL2.out; omega))
                go_wp2_with (first
                  | (go_at_call 38; go_must (refine C9.out.mono ?_); rintro e w3 ⟨rfl, h1, h2⟩; have HW3 := Lib.hid h1; have HF3 := Lib.hid (HF2b.out.trans h2); clear h1 h2))
                go_roundg g
                case measure => omega
                case rel =>
                  have e : bs4 ++ encSays first (says.take (i + 1)) = bs4 ++ encSays first (says.take i) ++ code first sm ++ bitsOf sn sv := by
                    rw [HSN.out]; simp only [List.append_assoc]; rfl
                  refine ⟨i + 1, by omega, by go_num, Lib.hid ⟨by rw [e]; exact HW3.out, HF3.out, ?_⟩⟩
                  rw [e, List.length_append, bitsOf_length]
                  have := HL2.out
                  have := HSB.out
                  omega
          case rest =>
            have HWS := Lib.hid hcut.out.1
            have HFS := Lib.hid (HFN.out.trans hcut.out.2.1)
            have HLS := Lib.hid hcut.out.2.2
            have HK8a := Lib.hid (HK5.out.trans (HSK.out.trans HK8.out))
            have HRA := Lib.hid (RVO.out wc oa a (HFS.out.block oa _ ((HK8a.out.block oa (Array.getElem?_eq_some_iff.1 HA3.out).1 (by simp)).trans HA3.out) (.inr ⟨_, _, rfl, by decide, by decide⟩)))
            have HRD := Lib.hid (RVO.out wc ob d (HFS.out.block ob _ ((HK8a.out.block ob (Array.getElem?_eq_some_iff.1 HB3.out).1 (by simp)).trans HB3.out) (.inr ⟨_, _, rfl, by decide, by decide⟩)))
            have HA15 := Lib.hid (show ∀ x ∈ a, x ≤ 15 from fun x hx => H15.out x (List.mem_append_left _ hx))
            have HD15 := Lib.hid (show ∀ x ∈ d, x ≤ 15 from fun x hx => H15.out x (List.mem_append_right _ hx))
            have CA := Lib.hid (r_new (some ⟨oa, 0, none⟩) 286 286 a wc HAD.out.1 (by omega) HA15.out HRA.out)
            go_upto_region 35 with (first
              | (go_at_call 27; go_must (refine CA.out.mono ?_); rintro e wa hn; obtain ⟨ta, rfl, hta, hka⟩ := hn.yes HAD.out.2.2.2.1; have HTA := Lib.hid hta; have HKA := Lib.hid hka; clear hta hka hn))
            have CD := Lib.hid (r_new (some ⟨ob, 0, none⟩) 30 30 d wa HAD.out.2.1 (by omega) HD15.out (HRD.out.below (HKA.out.below (Nat.le_refl _) (by simp))))
            go_upto_region 36 with (first
              | (go_at_call 27; go_must (refine CD.out.mono ?_); rintro e wd2 hn; obtain ⟨td, rfl, htd, hkd⟩ := hn.yes HAD.out.2.2.2.2.1; have HTD := Lib.hid htd; have HKD := Lib.hid hkd; clear htd hkd hn))
            have HFE := Lib.hid (HFS.out.trans (Fw.of_kp (HKA.out.trans HKD.out) (fun k hk => (by cases hk))))
            have HRT := Lib.hid ((HR.out.kp (HK6.out.trans HK8.out)).fw ⟨by decide, by decide⟩ HFE.out)
            have CB := Lib.hid (w_body wd2 B wb ta td a d At n ct l _ (HWS.out.fr (HKA.out.trans HKD.out)) (HTA.out.fw (Fw.of_kp (B := B) HKD.out (fun k hk => (by cases hk)))) HTD.out HLL.out HRT.out HOK.out (by have := HAD.out.1; omega) (by have := HAD.out.2.1; omega) HA15.out HD15.out (by omega) (by have := HLS.out; omega))
            clear CA CD
            go_wp2_with (first
              | (go_at_call 39; go_must (refine CB.out.mono ?_); rintro e we ⟨rfl, h1, h2⟩; have HWE := Lib.hid h1; have HFF := Lib.hid h2; clear h1 h2))
            refine bodyPost_end (results_none rfl _ _ _) rfl ?_
            have hal : (a ++ d).length = 316 := by rw [List.length_append, HAD.out.1, HAD.out.2.1]
            refine ⟨a, d, first, says, ⟨by have := HSY.out; rw [hal] at this; exact this, HAD.out.1, HAD.out.2.1, HAD.out.2.2.1, HAD.out.2.2.2.1, HAD.out.2.2.2.2.1, HUSE.out.2.1, HUSE.out.2.2.1, HUSE.out.2.2.2, HUSE.out.1, HAD.out.2.2.2.2.2.1, HAD.out.2.2.2.2.2.2⟩, rfl, ?_, (Fw.of_kp (HK6.out.trans HK8.out) (fun k hk => (by cases hk))).trans (HFE.out.trans HFF.out)⟩
            have e : bs ++ encDyn first says a d l = bs4 ++ encSays first says ++ (encToks a d l ++ code a 256) := by
              rw [← HB4.out, ← HBS3.out]
              unfold encDyn
              simp only [List.append_assoc]
            rw [e]
            exact HWE.out
end Go.Proofs.YtdpnlmofkkdioaaDoor.Hf
