/- RouteStands: the walk. -/
import Derived.Test.YtgjningfpkoooaaDoorOl
namespace Go.Proofs.YtgjningfpkoooaaDoor.Ro
set_option linter.unusedVariables false
set_option linter.unusedSimpArgs false
open Go.RowKit Go.Proofs.YtgjningfpkoooaaDoor.W

theorem gw_heap {w w' : World} (h : Gw w) (he : w'.heap = w.heap) : Gw w' := by
  have hc : ∀ g, w'.cell? ⟨g, 0, none⟩ = w.cell? ⟨g, 0, none⟩ := fun g => World.cell?_of_block (a := ⟨g, 0, none⟩) (by rw [he])
  obtain ⟨h1, ⟨m, h2⟩, ⟨t, p, h3⟩, ⟨t', p', h4⟩, h5⟩ := h
  refine ⟨?_, ⟨m, (hc 3).trans h2⟩, ⟨t, p, (hc 0).trans h3⟩, ⟨t', p', (hc 1).trans h4⟩, by rw [he]; exact h5⟩
  unfold Lib.TabIs World.var? at h1 ⊢
  rw [he]
  exact h1
set_option maxHeartbeats 4000000 in
set_option maxRecDepth 100000 in
theorem c_stands (A : Option Addr) (n c : Nat) (a : List Int) (A2 : Option Addr) (n2 c2 : Nat) (b : List Int) (A3 : Option Addr) (n3 c3 : Nat) (d : List Int) (w : World) (hG : Gw w)
    (hl : a.length = n) (hc : n ≤ c) (hn : n ≤ 140737488351232) (hr : RV w A (is64 a)) (hl2 : b.length = n2) (hc2 : n2 ≤ c2) (hn2 : n2 ≤ 140737488351232) (hr2 : RV w A2 (is64 b)) (hl3 : d.length = n3) (hc3 : n3 ≤ c3) (hn3 : n3 ≤ 140737488351232) (hr3 : RV w A3 (is64 d)) :
    Calls Tryd.prog 6 #[.slice A n c, .slice A2 n2 c2, .slice A3 n3 c3] w (TrueP w) := by
  have HG := Lib.hid hG
  have HA := Lib.hid (fun (wx : World) (he : wx.heap = w.heap) => c_pless A A n n c c a a wx hl hl (by omega) (by omega) (rv_heap hr he) (rv_heap hr he))
  have HAB := Lib.hid (fun (wx : World) (he : wx.heap = w.heap) => c_pless A A2 n n2 c c2 a b wx hl hl2 (by omega) (by omega) (rv_heap hr he) (rv_heap hr2 he))
  have HBA := Lib.hid (fun (wx : World) (he : wx.heap = w.heap) => c_pless A2 A n2 n c2 c b a wx hl2 hl (by omega) (by omega) (rv_heap hr2 he) (rv_heap hr he))
  have HBC := Lib.hid (fun (wx : World) (he : wx.heap = w.heap) => c_pless A2 A3 n2 n3 c2 c3 b d wx hl2 hl3 (by omega) (by omega) (rv_heap hr2 he) (rv_heap hr3 he))
  have HAC := Lib.hid (fun (wx : World) (he : wx.heap = w.heap) => c_pless A A3 n n3 c c3 a d wx hl hl3 (by omega) (by omega) (rv_heap hr he) (rv_heap hr3 he))
  have HI := Lib.hid (c_ints A A2 n n2 c c2 a b w hl hl2 (by omega) (by omega) hr hr2)
  have t1 := less_asym a b
  have t2 := less_total a b
  have t3 := less_trans a b d
  have t4 := less_self b
  rw [less_self a] at HA
  have DONE := Lib.hid (show ∀ (wx w' : World), Below w.heap.size w wx → Below wx.heap.size wx w' → wx.heap = w.heap → TrueP w (.returned (.bool true)) w' from fun wx w' h1 h2 h3 => ⟨rfl, h1.trans (by rw [h3] at h2; exact h2)⟩)
  clear hG hl hr hl2 hr2 hl3 hr3
  have tk1 : True := trivial
  have tk2 : True := trivial
  have tk3 : True := trivial
  by_cases hab : a = b
  · have v1 : decide (a = b) = true := decide_eq_true hab
    have v2 : less a b = false := by rw [hab]; exact t4
    have v3 : less b a = false := by rw [hab]; exact t4
    rw [v1] at HI
    rw [v2] at HAB
    rw [v3] at HBA
    clear t1 t2 t3 t4 hab v1 v2 v3
    go_enter Tryd.func6, Tryd.ntmps6
    go_wp2_with (first
      | (go_at_call 16; go_must (refine HI.out.mono ?_); rintro e w2 ⟨rfl, d1, rfl⟩)
      | (go_at_call 19; have _t := tk1; go_must (refine (HAB.out _ (by rfl)).mono ?_); rintro e w3 ⟨rfl, d2, rfl⟩; clear tk1 _t)
      | (go_at_call 19; have _t := tk2; go_must (refine (HBA.out _ (by rfl)).mono ?_); rintro e w4 ⟨rfl, d3, rfl⟩; clear tk2 _t)
      | (go_at_call 19; go_must (refine (HA.out _ (by rfl)).mono ?_); rintro e w5 ⟨rfl, d4, rfl⟩)
      | (go_at_call 17; go_must (refine (c_awake _ (gw_heap HG.out (by rfl))).mono ?_); rintro e w6 ⟨rfl, hb6⟩))
    go_ret
    exact DONE.out _ _ (bel_draw (Below.refl _ _) _) hb6 rfl
  · have v1 : decide (a = b) = false := decide_eq_false hab
    rcases t2 hab with v2 | v3
    · have v3 := t1 v2
      rw [v1] at HI
      rw [v2] at HAB
      rw [v3] at HBA
      cases v4 : less b d with
      | false =>
        rw [v4] at HBC
        clear t1 t2 t3 t4 hab v1 v2 v3 v4
        go_enter Tryd.func6, Tryd.ntmps6
        go_wp2_with (first
          | (go_at_call 16; go_must (refine HI.out.mono ?_); rintro e w2 ⟨rfl, d1, rfl⟩)
          | (go_at_call 19; have _t := tk1; go_must (refine (HAB.out _ (by rfl)).mono ?_); rintro e w3 ⟨rfl, d2, rfl⟩; clear tk1 _t)
          | (go_at_call 19; have _t := tk2; go_must (refine (HBA.out _ (by rfl)).mono ?_); rintro e w4 ⟨rfl, d3, rfl⟩; clear tk2 _t)
          | (go_at_call 19; have _t := tk3; go_must (refine (HA.out _ (by rfl)).mono ?_); rintro e w5 ⟨rfl, d4, rfl⟩; clear tk3 _t)
          | (go_at_call 19; go_must (refine (HBC.out _ (by rfl)).mono ?_); rintro e w5 ⟨rfl, d5, rfl⟩)
          | (go_at_call 17; go_must (refine (c_awake _ (gw_heap HG.out (by rfl))).mono ?_); rintro e w6 ⟨rfl, hb6⟩))
        go_ret
        exact DONE.out _ _ (bel_draw (Below.refl _ _) _) hb6 rfl
      | true =>
        have v5 := t3 v2 v4
        rw [v4] at HBC
        rw [v5] at HAC
        have tk4 : True := trivial
        clear t1 t2 t3 t4 hab v1 v2 v3 v4 v5
        go_enter Tryd.func6, Tryd.ntmps6
        go_wp2_with (first
          | (go_at_call 16; go_must (refine HI.out.mono ?_); rintro e w2 ⟨rfl, d1, rfl⟩)
          | (go_at_call 19; have _t := tk1; go_must (refine (HAB.out _ (by rfl)).mono ?_); rintro e w3 ⟨rfl, d2, rfl⟩; clear tk1 _t)
          | (go_at_call 19; have _t := tk2; go_must (refine (HBA.out _ (by rfl)).mono ?_); rintro e w4 ⟨rfl, d3, rfl⟩; clear tk2 _t)
          | (go_at_call 19; have _t := tk3; go_must (refine (HA.out _ (by rfl)).mono ?_); rintro e w5 ⟨rfl, d4, rfl⟩; clear tk3 _t)
          | (go_at_call 19; have _t := tk4; go_must (refine (HBC.out _ (by rfl)).mono ?_); rintro e w5 ⟨rfl, d5, rfl⟩; clear tk4 _t)
          | (go_at_call 19; go_must (refine (HAC.out _ (by rfl)).mono ?_); rintro e w5 ⟨rfl, d6, rfl⟩)
          | (go_at_call 17; go_must (refine (c_awake _ (gw_heap HG.out (by rfl))).mono ?_); rintro e w6 ⟨rfl, hb6⟩))
        go_ret
        exact DONE.out _ _ (bel_draw (Below.refl _ _) _) hb6 rfl
    · have v2 : less a b = false := by
        cases h : less a b with
        | false => rfl
        | true => rw [t1 h] at v3; cases v3
      rw [v1] at HI
      rw [v2] at HAB
      rw [v3] at HBA
      clear t1 t2 t3 t4 hab v1 v2 v3
      go_enter Tryd.func6, Tryd.ntmps6
      go_wp2_with (first
        | (go_at_call 16; go_must (refine HI.out.mono ?_); rintro e w2 ⟨rfl, d1, rfl⟩)
        | (go_at_call 19; have _t := tk1; go_must (refine (HAB.out _ (by rfl)).mono ?_); rintro e w3 ⟨rfl, d2, rfl⟩; clear tk1 _t)
        | (go_at_call 19; have _t := tk2; go_must (refine (HBA.out _ (by rfl)).mono ?_); rintro e w4 ⟨rfl, d3, rfl⟩; clear tk2 _t)
        | (go_at_call 19; go_must (refine (HA.out _ (by rfl)).mono ?_); rintro e w5 ⟨rfl, d4, rfl⟩)
        | (go_at_call 17; go_must (refine (c_awake _ (gw_heap HG.out (by rfl))).mono ?_); rintro e w6 ⟨rfl, hb6⟩))
      go_ret
      exact DONE.out _ _ (bel_draw (Below.refl _ _) _) hb6 rfl
end Go.Proofs.YtgjningfpkoooaaDoor.Ro
