/- The law PartsSteps. -/
import Derived.Test.YtmalacamfjdimaaRo
namespace Go.Proofs.Ytmalacamfjdimaa.Pt
open Go.RowKit Go.Proofs.Ytmalacamfjdimaa.W

/-- The reference's run where the law has put it, and where it stays. -/
structure Fx (w : World) (p hb ob H base n co : Nat) (Ao : Option Addr) (es : List (Nat × Ev)) (why : Int) (o v : Bool) : Prop where
  own : w.ownsRow base 67 6 (.slice Ao n co) n (tms es)
  cells : w.heap[H]? = some (.cells #[.slice Ao n co, .int .i64 why, .bool o, .bool v] 35 (0, 0))
theorem Spl.apart {w : World} {p hb ob : Nat} {s : St} {base n c : Nat} {A : Option Addr} {es : List (Nat × Ev)} (h : Spl w p hb ob s) (ho : w.ownsRow base 67 6 (.slice A n c) n (tms es)) : ∀ k, (Value.slice A n c).ownBlock = some k → k ∉ [p, hb, ob] := by
  intro k hk hm
  simp at hm
  rcases hm with h2 | h2 | h2
  · exact own_ne ho h.cells (by decide) hk h2
  · exact own_type ho h.hold (by decide) (k := k) hk (by rw [h2]; rfl)
  · exact own_type ho h.out (by decide) (k := k) hk (by rw [h2]; rfl)
theorem own_notcells {w : World} {base : Nat} {e t : TypeId} {size g n cap : Nat} {xs : List Value} {cs : Array Value} (h : w.ownsRow base e size (.slice (some ⟨g, 0, none⟩) n cap) n xs) {H : Nat} (hH : w.heap[H]? = some (.cells cs t (0, 0))) (hne : e ≠ t) : H ≠ g := fun e' => own_ne h hH hne rfl e'.symm
theorem Fx.kept {w w' : World} {p hb ob H base n co : Nat} {Ao : Option Addr} {es : List (Nat × Ev)} {why : Int} {o v : Bool} {s : St} (h : Fx w p hb ob H base n co Ao es why o v) (hS : Spl w p hb ob s) (hK : Kp [p, hb, ob] w w') : Fx w' p hb ob H base n co Ao es why o v := by
  have hlt := (Array.getElem?_eq_some_iff.1 h.cells).1
  refine ⟨own_same h.own fun k hk => hK.block k (h.own.lt k hk).2 (hS.apart h.own k hk), (hK.block H hlt ?_).trans h.cells⟩
  intro hm
  simp at hm
  rcases hm with h2 | h2 | h2
  · have h3 := h.cells
    rw [h2, hS.cells] at h3
    injection h3 with h4
    injection h4 with _ h5 _
    exact absurd h5 (by decide)
  · exact own_notcells hS.hold h.cells (by decide) h2
  · exact own_notcells hS.out h.cells (by decide) h2
theorem Fx.get {w : World} {p hb ob H base n co : Nat} {Ao : Option Addr} {es : List (Nat × Ev)} {why : Int} {o v : Bool} (h : Fx w p hb ob H base n co Ao es why o v) : w.cell? ⟨H, 0, none⟩ = some (.slice Ao n co) ∧ w.cell? ⟨H, 1, none⟩ = some (.int .i64 why) :=
  ⟨cell_of_row w H 0 _ _ _ h.cells, cell_of_row w H 1 _ _ _ h.cells⟩

def TellsT (W : ByteArray) (l : List Int) (w : World) (p hb ob i : Nat) (e : Ending) (w' : World) : Prop :=
  e = .returned (.tuple #[.int .i64 ((T W l (i + 1)).length : Nat), .bool true]) ∧ Spl w' p hb ob (stAt W l (i + 1)).1 ∧ Kp [p, hb, ob] w w'
theorem tells_T {W : ByteArray} {l : List Int} {w : World} {p hb ob H base co i : Nat} {Ao : Option Addr} {why : Int} {o v : Bool} (hi : i ≤ l.length) (hS : Spl w p hb ob (nxt W l i)) (hI : Inv (nxt W l i)) (ht : (nxt W l i).told = 0) (hF : Fx w p hb ob H base (T W l (l.length + 1)).length co Ao (T W l (l.length + 1)) why o v) (hT : (T W l (l.length + 1)).length ≤ 1000000000) :
    Calls Try.prog 20 #[.pointer (some ⟨p, 0, none⟩), .slice Ao (T W l (l.length + 1)).length co, .int .i64 ((T W l i).length : Nat), .int .i64 i] w (TellsT W l w p hb ob i) := by
  refine (c_tells p hb ob (nxt W l i) base Ao _ co _ _ i w hS hI.ok rfl hT hF.own (fun j e h => T_ev hi h) (fun t e h => T_end hi h) (T_le hi) ht).mono ?_
  rintro e w' ⟨he, h1, h2⟩
  rw [T_len_succ] at he
  refine ⟨he, ?_, h2⟩
  rw [stAt_succ hi]
  exact h1

set_option maxHeartbeats 4000000 in
set_option maxRecDepth 100000 in
theorem parts_steps (A : Option Addr) (n c : Nat) (l : List Int) (s : ByteArray) (w : World) (hl : l.length = n) (hnc : n ≤ c) (hn9 : n ≤ 140737488351232) (hby : Bytes l) (hr : RB w A l) (hs : s.size ≤ 140737488351232) (hn : n ≤ 1048576) :
    Calls Try.prog 4 #[.slice A n c, .string s] w (LawPost w) := by
  have HC := Lib.hid hr
  have HL := Lib.hid hl
  have HB := Lib.hid hby
  clear hr hl hby
  have hso : s.size ≤ 9223372036854775807 := by omega
  cases hv : validB s.data.toList
  · have rV := r_valid s
    rw [hv] at rV
    have HV := Lib.hid hv
    have RV' := Lib.hid rV
    clear hv rV
    go_enter Try.func4, Try.ntmps4
    go_wp2_with (first
      | (go_at_call 11; go_must (refine (RV'.out _ hso).mono ?_); rintro e w3 ⟨rfl, rfl⟩)
      | (go_at_call 12; go_must (refine (c_new_no s _ hso HV.out).mono ?_); rintro e w4 ⟨rfl, rfl⟩)
      | (go_at_call 14; go_must (refine (c_awake _).mono ?_); rintro e w5 ⟨rfl, hb5⟩))
    go_ret
    exact ⟨rfl, hb5⟩
  · have rV := r_valid s
    rw [hv] at rV
    have HV := Lib.hid hv
    have RV' := Lib.hid rV
    clear hv rV
    have hws := want_size HV.out
    go_enter Try.func4, Try.ntmps4
    go_wp2_with (first
      | (go_at_call 11; go_must (refine (RV'.out _ hso).mono ?_); rintro e w3 ⟨rfl, rfl⟩)
      | (go_at_call 12; go_must (refine (c_new s _ HV.out).mono ?_); rintro e w1 ⟨p, hb, ob, rfl, hS, hp, hh, ho, hbl⟩; have HS1 := Lib.hid hS; have HB1 := Lib.hid hbl; clear hS hbl)
      | (go_at_call 15; go_must (refine (c_of A n c l s _ HL.out hnc hn HB.out (HC.out.below HB1.out) HV.out).mono ?_); rintro e w3 ⟨Ao, co, opno, rfl, Oo, hb3⟩; have HOO := Lib.hid Oo; have HB3 := Lib.hid hb3; clear Oo hb3))
    generalize hW4 : World.alloc w3 _ = w4
    have HS4 : Hid (Spl w4 p hb ob (St.new (⟨#[45, 45]⟩ ++ s))) := Lib.hid (by subst hW4; exact (HS1.out.kept (Kp.of_below (S := []) HB3.out) (by simp) (by simp) (by simp)).kept ((Kp.refl [] _).alloc _) (by simp) (by simp) (by simp))
    have HF4 : Hid (Fx w4 p hb ob w3.heap.size w1.heap.size (T (⟨#[45, 45]⟩ ++ s) l (l.length + 1)).length co Ao (T (⟨#[45, 45]⟩ ++ s) l (l.length + 1)) (whole (⟨#[45, 45]⟩ ++ s) l).1.reason opno (whole (⟨#[45, 45]⟩ ++ s) l).1.over) := Lib.hid (by subst hW4; exact ⟨HOO.out.alloc _, heap_alloc_new _ _⟩)
    have HB4 : Hid (Below w.heap.size w w4) := Lib.hid (by subst hW4; exact bl_then HB1.out (bl_then HB3.out (bl_alloc _ _)))
    have HTL : Hid ((T (⟨#[45, 45]⟩ ++ s) l (l.length + 1)).length ≤ 1000000000) := Lib.hid (by
      have h1 := T_len hws.1 hws.2 HB.out _ (Nat.le_refl _)
      have h2 := HL.out
      omega)
    clear hW4
    have HW := Lib.hid hws
    clear hws
    generalize hWW : (⟨#[45, 45]⟩ ++ s : ByteArray) = W at *
    go_loopg [8, 9, 10] n (fun g t8 t9 t10 wx => ∃ i : Nat, i + g = n ∧ t8 = .int .i64 ((T W l i).length : Nat) ∧ t9 = .bool true ∧ t10 = .int .i64 i ∧ Spl wx p hb ob (stAt W l i).1 ∧ Kp [p, hb, ob] w4 wx)
    case atStart => exact ⟨0, by omega, rfl, rfl, rfl, by simpa [stAt, runB] using HS4.out, Kp.refl _ _⟩
    case round =>
      obtain ⟨i, hig, rfl, rfl, rfl, hS, hK⟩ := hrel
      obtain ⟨wq, rfl⟩ : ∃ wq : World, wq = wr := ⟨_, rfl⟩
      have HS := Lib.hid hS
      have HK := Lib.hid hK
      have hcap := (own_cap hS.out).1
      clear hS hK
      cases gk with
      | zero =>
        obtain rfl : i = n := by omega
        have hk : ¬ (i : Int) < (i : Int) := by omega
        have hli := HL.out
        have hM := Ms.all HW.out.1 HW.out.2 HB.out l.length (Nat.le_refl _)
        have hE := end_facts HW.out.1 HW.out.2 HB.out
        have hn8 : nxt W l l.length = (stAt W l l.length).1.fin8 := by unfold nxt; rw [List.getElem?_eq_none (Nat.le_refl _)]
        have hfe : (stAt W l (l.length + 1)).1.fin8 = (stAt W l (l.length + 1)).1 := by unfold St.fin8; rw [if_pos (by rw [hE.2.1]; rfl)]
        have hpe : (stAt W l (l.length + 1)).1.put 97 = (false, (stAt W l (l.length + 1)).1) := by unfold St.put; rw [if_pos (by rw [hE.2.1]; rfl)]
        have hwr : (stAt W l (l.length + 1)).1.reason = (whole W l).1.reason := by rw [show whole W l = stAt W l (l.length + 1) by rw [stAt, if_neg (by omega)]]
        rw [hli] at hM hE hn8 hfe hpe hwr
        have hc1 := c_end p hb ob (stAt W l i).1 wq HS.out hM.inv'.by_ hM.inv'.ok.hold
        rw [← hn8] at hc1
        have HC1 := Lib.hid hc1
        have HE := Lib.hid hE
        have HFE := Lib.hid hfe
        have HPE := Lib.hid hpe
        have HWR := Lib.hid hwr
        have HLI := Lib.hid hli
        have tk1 : True := trivial
        clear hM hE hn8 hfe hpe hwr hc1 hli
        go_wp2_with (first
          | (go_at_call 22; have _t := tk1; go_must (refine HC1.out.mono ?_); rintro e w5 ⟨rfl, hS5, hK5⟩; have HS5 := Lib.hid hS5; have HK5 := Lib.hid (HK.out.trans hK5); have HF5' := Lib.hid (HF4.out.kept HS4.out HK5.out); have hget := HF5'.out.get; obtain ⟨hg0, hg1⟩ := hget; clear hS5 hK5 tk1 _t)
          | (go_at_call 20; go_must (refine (tells_T (by rw [HLI.out]; exact Nat.le_refl _) HS5.out HE.out.2.2.2 HE.out.2.2.1 HF5'.out HTL.out).mono ?_); rintro e w6 ⟨rfl, hS6, hK6⟩; have HS6 := Lib.hid hS6; have HK6 := Lib.hid (HK5.out.trans hK6); clear hS6 hK6 hg0 hg1)
          | (go_at_call 22; go_must (have cE := c_end p hb ob (stAt W l (i + 1)).1 w6 HS6.out HE.out.1.by_ HE.out.1.ok.hold); go_must (rw [HFE.out] at cE); go_must (refine cE.mono ?_); rintro e w7 ⟨rfl, hS7, hK7⟩; have HS7 := Lib.hid hS7; have HK7 := Lib.hid (HK6.out.trans hK7); have HF7 := Lib.hid (HF4.out.kept HS4.out HK7.out); have HF7i := HF7.out; rw [HLI.out] at HF7i; clear hS7 hK7 cE))
        have hKK : ∀ wz, Kp [] w7 wz → Kp [p, hb, ob] w4 wz := fun wz h => HK7.out.trans (h.mono (by simp))
        have hSS : ∀ wz, Kp [] w7 wz → Spl wz p hb ob (stAt W l (i + 1)).1 := fun wz h => HS7.out.kept h (by simp) (by simp) (by simp)
        have hcap7 : (stAt W l (i + 1)).1.told ≤ 96 := by
          have h1 := (own_cap HS7.out.out).1
          have h2 : (stAt W l (i + 1)).1.told = (stAt W l (i + 1)).1.out.length := by rw [stAt_succ (by rw [HLI.out]; exact Nat.le_refl _)]; rfl
          omega
        have cR : ∀ wz, Kp [] w7 wz → Calls Try.prog 21 #[.pointer (some ⟨p, 0, none⟩)] wz fun e w' => e = .returned (.int .i64 (whole W l).1.reason) ∧ ∃ n, w' = wz.drewN n := fun wz h => by
          have := c_reason p hb ob _ wz (hSS wz h)
          rw [HWR.out] at this
          exact this
        have cP : ∀ wz, Kp [] w7 wz → Calls Try.prog 19 #[.pointer (some ⟨p, 0, none⟩), .int .u8 97] wz (PutPost wz p hb ob (false, (stAt W l (i + 1)).1)) := fun wz h => by
          have := c_put p hb ob _ 97 wz (hSS wz h) HE.out.1.ok hcap7
          rw [HPE.out] at this
          exact this
        have CR := Lib.hid cR
        have CP := Lib.hid cP
        have HKK := Lib.hid hKK
        clear hSS cR cP hKK hcap7
        have hg2 := HF7i.get
        obtain ⟨hg0, hg1⟩ := hg2
        clear HF7i
        go_region_with (first
          | (go_at_call 21; go_must (refine (CR.out _ ?_).mono ?_); (repeat (first | exact Kp.refl _ _ | refine Kp.drew ?_ | refine Kp.drewN ?_ _)); rintro e w8 ⟨rfl, d8, rfl⟩)
          | (go_at_call 19; go_must (refine (CP.out _ ?_).mono ?_); (repeat (first | exact Kp.refl _ _ | refine Kp.drew ?_ | refine Kp.drewN ?_ _)); rintro e w9 ⟨rfl, hS9, hK9⟩)
          | (go_at_call 14; go_must (refine (c_awake _).mono ?_); rintro e w10 ⟨rfl, hb10⟩))
        all_goals go_wp2
        all_goals go_ret
        all_goals exact ⟨rfl, bl_then (HB4.out.trans (((HKK.out _ (by repeat (first | exact Kp.refl _ _ | refine Kp.drew ?_ | refine Kp.drewN ?_ _))).trans hK9).below HB4.out.size (by simp; omega))) hb10⟩
      | succ g =>
        have hk : (i : Int) < (n : Int) := by omega
        obtain ⟨x, hx⟩ : ∃ x, l[i]? = some x := ⟨_, List.getElem?_eq_getElem (by rw [HL.out]; omega)⟩
        obtain ⟨bl, off, rfl, hblt, hcell0⟩ := RB.get HC.out hx
        have hcell : wq.cell? ⟨bl, off + i, none⟩ = some (.int .u8 x) := by
          refine (World.cell?_of_block (a := ⟨bl, off + i, none⟩) ((HK.out.block bl ?_ ?_).trans (HB4.out.block bl hblt))).trans hcell0
          · exact Nat.lt_of_lt_of_le hblt HB4.out.size
          · simp; omega
        obtain ⟨f1, f2, f3, f4, f5, f6⟩ := byte_facts HW.out.1 HW.out.2 HB.out hx
        have f3' : (stAt W l i).1.told ≤ 96 := by have := (Ms.all HW.out.1 HW.out.2 HB.out i (by rw [HL.out]; omega)).told; omega
        have hcp := c_put p hb ob (stAt W l i).1 x wq HS.out f2 f3'
        rw [f1] at hcp
        have HCP := Lib.hid hcp
        have HF5 := Lib.hid f5
        have HF4' := Lib.hid f4
        have HF6 := Lib.hid f6
        clear hcp f1 f2 f3 f4 f5 f6 f3' hx hcell0
        go_wp2_with (first
          | (go_at_call 19; go_must (refine HCP.out.mono ?_); rintro e w5 ⟨rfl, hS5, hK5⟩; have HS5 := Lib.hid hS5; have HK5 := Lib.hid (HK.out.trans hK5); have HF5' := Lib.hid (HF4.out.kept HS4.out HK5.out); have hget := HF5'.out.get; obtain ⟨hg0, hg1⟩ := hget; clear hS5 hK5)
          | (go_at_call 20; go_must (refine (tells_T (by rw [HL.out]; omega) HS5.out HF5.out HF4'.out HF5'.out HTL.out).mono ?_); rintro e w6 ⟨rfl, hS6, hK6⟩; have HS6 := Lib.hid hS6; have HK6 := Lib.hid (HK5.out.trans hK6); clear hS6 hK6)
          | (go_at_call 21; go_must (have cR := c_reason p hb ob (stAt W l (i + 1)).1 w6 HS6.out); go_must (rw [HF6.out] at cR); go_must (refine cR.mono ?_); rintro e w7 ⟨rfl, d7, rfl⟩; clear cR))
        go_roundg g
        case measure => omega
        case rel => exact ⟨i + 1, by omega, rfl, rfl, by go_num, HS6.out.drewN _, HK6.out.drewN _⟩
end Go.Proofs.Ytmalacamfjdimaa.Pt
