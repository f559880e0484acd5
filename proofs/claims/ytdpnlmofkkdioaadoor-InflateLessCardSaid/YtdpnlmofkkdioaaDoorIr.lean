/- The inflater: copied, lengthBits, distanceBits. -/
import Derived.Test.YtdpnlmofkkdioaaDoorIq
namespace Go.Proofs.YtdpnlmofkkdioaaDoor.Hf
set_option linter.unusedVariables false
set_option linter.unusedSimpArgs false
open Go.RowKit Go.Proofs.YtdpnlmofkkdioaaDoor.W

/-- The package's tables, none of their blocks in D. -/
structure Gt (w : World) (D : List Nat) : Prop where
  t0 : ∀ i v, mL[i]? = some v → w.cell? ⟨0, i, none⟩ = some (.int .i64 (v : Nat))
  t1 : ∀ i v, lL[i]? = some v → w.cell? ⟨1, i, none⟩ = some (.int .i64 (v : Nat))
  t2 : ∀ i v, ord[i]? = some v → w.cell? ⟨2, i, none⟩ = some (.int .i64 (v : Nat))
  t3 : ∀ i v, mB[i]? = some v → w.cell? ⟨3, i, none⟩ = some (.int .i64 (v : Nat))
  t4 : ∀ i v, lB[i]? = some v → w.cell? ⟨4, i, none⟩ = some (.int .i64 (v : Nat))
  sz : 5 ≤ w.heap.size
  out : ∀ b, b < 5 → b ∉ D
theorem Gt.kept {w w' : World} {D T : List Nat} (h : Gt w D) (hk : Kp T w w') (hT : ∀ k ∈ T, k ∈ D) : Gt w' D := by
  have hb : ∀ b, b < 5 → w'.heap[b]? = w.heap[b]? := fun b h5 => hk.block b (by have := h.sz; omega) fun hm => h.out b h5 (hT b hm)
  have hc : ∀ b i, b < 5 → w'.cell? ⟨b, i, none⟩ = w.cell? ⟨b, i, none⟩ := fun b i h5 => World.cell?_of_block (a := ⟨b, i, none⟩) (hb b h5)
  exact ⟨fun i v hi => (hc 0 i (by omega)).trans (h.t0 i v hi), fun i v hi => (hc 1 i (by omega)).trans (h.t1 i v hi), fun i v hi => (hc 2 i (by omega)).trans (h.t2 i v hi), fun i v hi => (hc 3 i (by omega)).trans (h.t3 i v hi), fun i v hi => (hc 4 i (by omega)).trans (h.t4 i v hi), Nat.le_trans h.sz hk.size, h.out⟩
set_option maxHeartbeats 4000000 in
set_option maxRecDepth 100000 in
theorem c_cpy {w : World} {d r p q g : Nat} {m : M} {out : List Int} {bs : List Bool} (h : Inf w d r p q g m out bs false 0) (h0 : m.why = 0) (hph : m.ph = .cpy) (hok : Ok m out) :
    Calls Tryd.prog 87 #[.pointer (some ⟨d, 0, none⟩)] w (StepPost w d r p q g m out bs) := by
  obtain ⟨l, e, c, hd, hT⟩ := h.db
  obtain ⟨b0, hr, hb⟩ := h.rd
  obtain rfl := hb h0
  have hne := h.ne
  simp only [List.nodup_cons, List.mem_cons, List.not_mem_nil, or_false, not_or] at hne
  have hdr : d ∉ [r] := by simp; exact hne.1.1
  have hrd : r ∉ [d] := by simp; exact fun h => hne.1.1 h.symm
  have hpr : p ∉ [r] := by simp; exact fun h => hne.2.1.1 h.symm
  have hqr : q ∉ [r] := by simp; exact fun h => hne.2.1.2.1 h.symm
  have hpd : p ∉ [d] := by simp; exact fun h => hne.1.2.1 h.symm
  have hqd : q ∉ [d] := by simp; exact fun h => hne.1.2.2.1 h.symm
  have hrg : r ∉ [d, p, q] := by simp; exact ⟨fun h => hne.1.1 h.symm, hne.2.1.1, hne.2.1.2.1⟩
  have c0 := hd.a (i := 0) rfl
  have hlt := hd.lt
  have H := Lib.hid h
  have HD := Lib.hid hd
  have HT := Lib.hid hT
  have RG := Lib.hid h.rg
  have hpo := hok.ph h0
  unfold PhOk at hpo
  rw [hph] at hpo
  dsimp only at hpo
  obtain ⟨_, ⟨hl1, hl2⟩, ⟨hb1, hb2⟩, hb3⟩ := hpo
  obtain ⟨x, hx⟩ : ∃ x, out[out.length - m.back]? = some x := ⟨_, List.getElem?_eq_getElem (by omega)⟩
  have hxb := hok.bytes x (List.mem_of_getElem? hx)
  have HS := Lib.hid (show step m out b0 = some ({ m with left := m.left - 1, ph := if m.left = 1 then .lit else .cpy }, [x], 0) by unfold step; rw [hph]; dsimp only; rw [List.getD_eq_getElem?_getD, hx]; rfl)
  have hu : usesT m.ph = true := by rw [hph]; rfl
  have c1 := hd.a (i := 1) rfl
  have c36 := hd.b (j := 5) rfl
  have cB := c_back p q 32768 m.back out x w.drew (h.rg.kept (S := []) ((Kp.refl _ _).drew) (by simp) (by simp)) (by omega) hb1 (by omega) hx
  unfold BackPost at cB
  have CB := Lib.hid cB
  have HR := Lib.hid hr
  have HKD := Lib.hid (show Kp [] w w.drew from (Kp.refl _ _).drew)
  obtain ⟨L, hL⟩ : ∃ L, m.left = L + 1 := ⟨m.left - 1, by omega⟩
  have HL := Lib.hid hL
  have eL : ((L + 1 : Nat) : Int) - 1 = (L : Int) := by omega
  have hL9 : L < 300 := by omega
  clear h hd hT hr hx cB hok hl1 hl2 hL
  go_enter Tryd.func87, Tryd.ntmps87
  go_upto_region 1 with (fail)
  go_region_held3 (fun w' => w'.cell? ⟨d, 1, none⟩ = some (.pointer (some ⟨p, 0, none⟩)) ∧ w'.cell? ⟨d, 31 + 5, none⟩ = some (.int .i64 (m.back : Nat))) (first | exact ⟨c1, c36⟩ | exact ⟨g1, g36⟩)
    (first
      | (go_at_call 88; go_must (refine CB.out.mono ?_); rintro en w2 ⟨rfl, hw2⟩; have HK2 := Lib.hid (show Kp [] w w2 from hw2 ▸ HKD.out); clear hw2; have HD2 := Lib.hid (HD.out.kept HK2.out (by simp)); have g1 := HD2.out.a (i := 1) rfl; have g36 := HD2.out.b (j := 5) rfl))
  have HT2 := Lib.hid (HT.out.kept HK2.out (by simp))
  have HR2 := Lib.hid (HR.out.kept HK2.out (by simp))
  have HG2 := Lib.hid (RG.out.kept HK2.out (by simp) (by simp))
  have g35 := HD2.out.b (j := 4) rfl
  rw [HL.out] at g35
  have gf := HD2.out.fz
  have gl := HD2.out.lt
  have HD3 := Lib.hid (HD2.out.left L)
  have hk3 : Kp [d] w2 (w2.setCell ⟨d, 35, none⟩ (.int .i64 (L : Nat))) := kp_set (by simp) _ _
  have HG3 := Lib.hid (HG2.out.kept hk3 hpd hqd)
  have hst := store_fn (fn := phF .lit) (v := .pointer (some ⟨d, 0, none⟩)) (HD3.out.a (i := 2) rfl) (HD3.out.fz 2)
  rw [show phF .lit = 54 from rfl] at hst
  have HD4 := Lib.hid (HD3.out.ph .lit)
  have hk4 := hk3.trans (kp_set (S := [d]) (show d ∈ [d] by simp) 2 (.func (Fn.func (phF .lit)) #[.pointer (some ⟨d, 0, none⟩)] #[]))
  have HG4 := Lib.hid (HG2.out.kept hk4 hpd hqd)
  have HK3 := Lib.hid hk3
  have HK4 := Lib.hid hk4
  clear hk3 hk4
  by_cases hs : L = 0
  · have i1 : ((L : Int) == 0) = true := W.eqT (by omega)
    have HS0 := Lib.hid hs
    clear hs
    go_wp2_with (first
      | (go_at_call 71; go_must (refine (c_give x HD4.out HG4.out (by omega) (by omega) (by omega) hne.1.2.1 hne.1.2.2.1).mono ?_); rintro en w5 ⟨rfl, hd5, hg5, hk5⟩))
    go_ret
    have hk6 : Kp [d, p, q] w2 w5 := (HK4.out.mono (by simp)).trans hk5
    exact H.out.gave HS.out (by rw [HL.out, if_pos (show L + 1 = 1 by rw [HS0.out]), Nat.add_sub_cancel]) ((HK2.out.mono (by simp)).trans (hk6.mono (by simp))) hd5 ((HT2.out.kept hk6 (by simp)).same (fun _ => hu) (fun h => (by cases h)) rfl rfl rfl) (HR2.out.kept hk6 hrg) (fun _ => rfl) hg5 rfl
  · have i1 : ((L : Int) == 0) = false := W.eqF (by omega)
    go_wp2_with (first
      | (go_at_call 71; go_must (refine (c_give x HD3.out HG3.out (by omega) (by omega) (by omega) hne.1.2.1 hne.1.2.2.1).mono ?_); rintro en w5 ⟨rfl, hd5, hg5, hk5⟩))
    go_ret
    have hk6 : Kp [d, p, q] w2 w5 := (HK3.out.mono (by simp)).trans hk5
    exact H.out.gave HS.out (by rw [HL.out, if_neg (by omega), Nat.add_sub_cancel, ← hph]) ((HK2.out.mono (by simp)).trans (hk6.mono (by simp))) hd5 ((HT2.out.kept hk6 (by simp)).same (fun h => h) (fun h => h) rfl rfl rfl) (HR2.out.kept hk6 hrg) (fun _ => rfl) hg5 rfl
set_option maxHeartbeats 4000000 in
set_option maxRecDepth 100000 in
theorem c_lbits {w : World} {d r p q g : Nat} {m : M} {out : List Int} {bs : List Bool} (h : Inf w d r p q g m out bs false 0) (h0 : m.why = 0) (hph : m.ph = .lbits) (hl : bs.length < 64) (hsym : m.sym ≤ 28) (hG : Gt w [d, r, p, q, g]) :
    Calls Tryd.prog 73 #[.pointer (some ⟨d, 0, none⟩)] w (StepPost w d r p q g m out bs) := by
  obtain ⟨l, e, c, hd, hT⟩ := h.db
  obtain ⟨b0, hr, hb⟩ := h.rd
  obtain rfl := hb h0
  have hne := h.ne
  simp only [List.nodup_cons, List.mem_cons, List.not_mem_nil, or_false, not_or] at hne
  have hdr : d ∉ [r] := by simp; exact hne.1.1
  have hrd : r ∉ [d] := by simp; exact fun h => hne.1.1 h.symm
  have hpr : p ∉ [r] := by simp; exact fun h => hne.2.1.1 h.symm
  have hqr : q ∉ [r] := by simp; exact fun h => hne.2.1.2.1 h.symm
  have hpd : p ∉ [d] := by simp; exact fun h => hne.1.2.1 h.symm
  have hqd : q ∉ [d] := by simp; exact fun h => hne.1.2.2.1 h.symm
  have hrg : r ∉ [d, p, q] := by simp; exact ⟨fun h => hne.1.1 h.symm, hne.2.1.1, hne.2.1.2.1⟩
  have c0 := hd.a (i := 0) rfl
  have hlt := hd.lt
  have H := Lib.hid h
  have HD := Lib.hid hd
  have HT := Lib.hid hT
  have RG := Lib.hid h.rg
  have hu : usesT m.ph = true := by rw [hph]; rfl
  obtain ⟨n, hn⟩ : ∃ n, mL[m.sym]? = some n := ⟨_, List.getElem?_eq_getElem (by show m.sym < 29; omega)⟩
  obtain ⟨b, hb5⟩ : ∃ b, lL[m.sym]? = some b := ⟨_, List.getElem?_eq_getElem (by show m.sym < 29; omega)⟩
  have hall : ∀ s : _root_.Fin 29, mL.getD s.val 0 ≤ 13 ∧ 1 ≤ lL.getD s.val 0 ∧ lL.getD s.val 0 + 2 ^ mL.getD s.val 0 ≤ 32769 := by decide +kernel
  have hbd := hall ⟨m.sym, by omega⟩
  dsimp only at hbd
  have en : mL.getD m.sym 0 = n := by rw [List.getD_eq_getElem?_getD, hn]; rfl
  have eb : lL.getD m.sym 0 = b := by rw [List.getD_eq_getElem?_getD, hb5]; rfl
  rw [en, eb] at hbd
  have hG2 := hG.kept (T := []) ((Kp.refl _ _).drew) (by simp)
  have c34 := hd.b (j := 3) rfl
  have ct := hG.t0 m.sym n hn
  have hi : (m.sym : Int) < 29 := by omega
  have hi0 : (0 : Int) ≤ (m.sym : Int) := by omega
  have HG := Lib.hid hG
  have HN := Lib.hid hn
  have HB5 := Lib.hid hb5
  have HKD := Lib.hid (show Kp [r] w w.drew from (Kp.refl _ _).drew)
  have hn13 : n ≤ 13 := hbd.1
  by_cases hle : n ≤ b0.length
  · have CT := Lib.hid (take_yes (n := n) (hr.kept (S := []) ((Kp.refl _ _).drew) (by simp)) hl (by omega) hle)
    have hv := num_take_lt b0 (n := n)
    obtain ⟨v, hv'⟩ : ∃ v, num (b0.take n) = v := ⟨_, rfl⟩
    have HS := Lib.hid (show step m out b0 = some ({ m with left := b + v, ph := .dst }, [], n) by unfold step; rw [hph]; dsimp only; rw [en, if_pos hle, eb, hv'])
    rw [hv'] at CT hv
    obtain ⟨T, hT5⟩ : ∃ T, b + v = T := ⟨_, rfl⟩
    have hbv : 1 ≤ T ∧ T ≤ 32768 := by omega
    have eT : (b : Int) + (v : Int) = (T : Int) := by omega
    rw [hT5] at HS
    have hv16 : v < 40000 ∧ b < 40000 := by omega
    clear hv' h hd hT hr hn hb5 hbd en eb hG hG2 hv hT5 hall
    go_enter Tryd.func73, Tryd.ntmps73
    go_upto_region 1 with (fail)
    go_region_held3 (fun w' => w'.cell? ⟨d, 0, none⟩ = some (.pointer (some ⟨r, 0, none⟩)) ∧ w'.cell? ⟨d, 31 + 3, none⟩ = some (.int .i64 (m.sym : Nat)) ∧ w'.cell? ⟨0, m.sym, none⟩ = some (.int .i64 (n : Nat))) (first | exact ⟨c0, c34, ct⟩ | exact ⟨g0, g34, gt⟩)
      (first
        | (go_at_call 49; go_must (refine CT.out.mono ?_); rintro en w2 ⟨rfl, hr2, hk2⟩; have HR2 := Lib.hid hr2; have HK2 := Lib.hid (show Kp [r] w w2 from HKD.out.trans hk2); clear hr2 hk2; have HD2 := Lib.hid (HD.out.kept HK2.out hdr); have g0 := HD2.out.a (i := 0) rfl; have g34 := HD2.out.b (j := 3) rfl; have HG3 := Lib.hid (HG.out.kept HK2.out (by simp)); have gt := HG3.out.t0 m.sym n HN.out))
    have HT2 := Lib.hid (HT.out.kept HK2.out (by simp))
    have gt1 := HG3.out.t1 m.sym b HB5.out
    have gf := HD2.out.fz
    have gl := HD2.out.lt
    have g35 := HD2.out.b (j := 4) rfl
    go_wp2_with (first
      | (go_at_call 51; go_must (refine (c_then .dst (HD2.out.left T)).mono ?_); rintro en w3 ⟨rfl, hd3, hk3⟩))
    go_ret
    have hk4 : Kp [d] w2 w3 := (kp_set (by simp) _ _).trans hk3
    exact H.out.done HS.out rfl ((HK2.out.mono (by simp)).trans (hk4.mono (by simp))) hd3 ((HT2.out.kept hk4 (by simp)).same (fun _ => hu) (fun h => (by cases h)) rfl rfl rfl) (HR2.out.kept hk4 hrd) (fun _ => rfl) rfl
  · have CT := Lib.hid (take_no (n := n) (hr.kept (S := []) ((Kp.refl _ _).drew) (by simp)) hl (by omega) hle)
    have HS := Lib.hid (show step m out b0 = none by unfold step; rw [hph]; dsimp only; rw [en, if_neg hle])
    clear h hd hT hr hn hb5 hbd en eb hG hG2 hall
    go_enter Tryd.func73, Tryd.ntmps73
    go_upto_region 1 with (fail)
    go_region_held3 (fun w' => w'.cell? ⟨d, 0, none⟩ = some (.pointer (some ⟨r, 0, none⟩)) ∧ w'.cell? ⟨d, 31 + 3, none⟩ = some (.int .i64 (m.sym : Nat)) ∧ w'.cell? ⟨0, m.sym, none⟩ = some (.int .i64 (n : Nat))) (first | exact ⟨c0, c34, ct⟩ | exact ⟨g0, g34, gt⟩)
      (first
        | (go_at_call 49; go_must (refine CT.out.mono ?_); rintro en w2 ⟨rfl, hr2, hk2⟩; have HR2 := Lib.hid hr2; have HK2 := Lib.hid (show Kp [r] w w2 from HKD.out.trans hk2); clear hr2 hk2; have HD2 := Lib.hid (HD.out.kept HK2.out hdr); have g0 := HD2.out.a (i := 0) rfl; have g34 := HD2.out.b (j := 3) rfl; have HG3 := Lib.hid (HG.out.kept HK2.out (by simp)); have gt := HG3.out.t0 m.sym n HN.out))
    go_wp2_with (fail)
    go_ret
    exact H.out.wait HK2.out HR2.out HS.out
set_option maxHeartbeats 4000000 in
set_option maxRecDepth 100000 in
theorem c_dbits {w : World} {d r p q g : Nat} {m : M} {out : List Int} {bs : List Bool} (h : Inf w d r p q g m out bs false 0) (h0 : m.why = 0) (hph : m.ph = .dbits) (hl : bs.length < 64) (hsym : m.sym ≤ 29) (hG : Gt w [d, r, p, q, g]) :
    Calls Tryd.prog 83 #[.pointer (some ⟨d, 0, none⟩)] w (StepPost w d r p q g m out bs) := by
  obtain ⟨l, e, c, hd, hT⟩ := h.db
  obtain ⟨b0, hr, hb⟩ := h.rd
  obtain rfl := hb h0
  have hne := h.ne
  simp only [List.nodup_cons, List.mem_cons, List.not_mem_nil, or_false, not_or] at hne
  have hdr : d ∉ [r] := by simp; exact hne.1.1
  have hrd : r ∉ [d] := by simp; exact fun h => hne.1.1 h.symm
  have hpr : p ∉ [r] := by simp; exact fun h => hne.2.1.1 h.symm
  have hqr : q ∉ [r] := by simp; exact fun h => hne.2.1.2.1 h.symm
  have hpd : p ∉ [d] := by simp; exact fun h => hne.1.2.1 h.symm
  have hqd : q ∉ [d] := by simp; exact fun h => hne.1.2.2.1 h.symm
  have hrg : r ∉ [d, p, q] := by simp; exact ⟨fun h => hne.1.1 h.symm, hne.2.1.1, hne.2.1.2.1⟩
  have c0 := hd.a (i := 0) rfl
  have hlt := hd.lt
  have H := Lib.hid h
  have HD := Lib.hid hd
  have HT := Lib.hid hT
  have RG := Lib.hid h.rg
  have hu : usesT m.ph = true := by rw [hph]; rfl
  obtain ⟨n, hn⟩ : ∃ n, mB[m.sym]? = some n := ⟨_, List.getElem?_eq_getElem (by show m.sym < 30; omega)⟩
  obtain ⟨b, hb5⟩ : ∃ b, lB[m.sym]? = some b := ⟨_, List.getElem?_eq_getElem (by show m.sym < 30; omega)⟩
  have hall : ∀ s : _root_.Fin 30, mB.getD s.val 0 ≤ 13 ∧ 1 ≤ lB.getD s.val 0 ∧ lB.getD s.val 0 + 2 ^ mB.getD s.val 0 ≤ 32769 := by decide +kernel
  have hbd := hall ⟨m.sym, by omega⟩
  dsimp only at hbd
  have en : mB.getD m.sym 0 = n := by rw [List.getD_eq_getElem?_getD, hn]; rfl
  have eb : lB.getD m.sym 0 = b := by rw [List.getD_eq_getElem?_getD, hb5]; rfl
  rw [en, eb] at hbd
  have hG2 := hG.kept (T := []) ((Kp.refl _ _).drew) (by simp)
  have c34 := hd.b (j := 3) rfl
  have ct := hG.t3 m.sym n hn
  have hi : (m.sym : Int) < 30 := by omega
  have hi0 : (0 : Int) ≤ (m.sym : Int) := by omega
  have HG := Lib.hid hG
  have HN := Lib.hid hn
  have HB5 := Lib.hid hb5
  have HKD := Lib.hid (show Kp [r] w w.drew from (Kp.refl _ _).drew)
  have hn13 : n ≤ 13 := hbd.1
  by_cases hle : n ≤ b0.length
  · have CT := Lib.hid (take_yes (n := n) (hr.kept (S := []) ((Kp.refl _ _).drew) (by simp)) hl (by omega) hle)
    have hv := num_take_lt b0 (n := n)
    obtain ⟨v, hv'⟩ : ∃ v, num (b0.take n) = v := ⟨_, rfl⟩
    have HS := Lib.hid (show step m out b0 = some (dbM m out (b + v), [], n) by unfold step; rw [hph]; dsimp only; rw [en, if_pos hle, eb, hv'])
    rw [hv'] at CT hv
    obtain ⟨T, hT5⟩ : ∃ T, b + v = T := ⟨_, rfl⟩
    have hbv : 1 ≤ T ∧ T ≤ 32768 := by omega
    have eT : (b : Int) + (v : Int) = (T : Int) := by omega
    rw [hT5] at HS
    have hv16 : v < 40000 ∧ b < 40000 := by omega
    clear hv' h hd hT hr hn hb5 hbd en eb hG hG2 hv hT5 hall
    go_enter Tryd.func83, Tryd.ntmps83
    go_upto_region 1 with (fail)
    go_region_held3 (fun w' => w'.cell? ⟨d, 0, none⟩ = some (.pointer (some ⟨r, 0, none⟩)) ∧ w'.cell? ⟨d, 31 + 3, none⟩ = some (.int .i64 (m.sym : Nat)) ∧ w'.cell? ⟨3, m.sym, none⟩ = some (.int .i64 (n : Nat))) (first | exact ⟨c0, c34, ct⟩ | exact ⟨g0, g34, gt⟩)
      (first
        | (go_at_call 49; go_must (refine CT.out.mono ?_); rintro en w2 ⟨rfl, hr2, hk2⟩; have HR2 := Lib.hid hr2; have HK2 := Lib.hid (show Kp [r] w w2 from HKD.out.trans hk2); clear hr2 hk2; have HD2 := Lib.hid (HD.out.kept HK2.out hdr); have g0 := HD2.out.a (i := 0) rfl; have g34 := HD2.out.b (j := 3) rfl; have HG3 := Lib.hid (HG.out.kept HK2.out (by simp)); have gt := HG3.out.t3 m.sym n HN.out))
    have HT2 := Lib.hid (HT.out.kept HK2.out (by simp))
    have gt1 := HG3.out.t4 m.sym b HB5.out
    have gf := HD2.out.fz
    have gl := HD2.out.lt
    have g36 := HD2.out.b (j := 5) rfl
    have HD3 := Lib.hid (HD2.out.back T)
    have HG5 := Lib.hid (RG.out.kept HK2.out hpr hqr)
    have hk3 : Kp [d] w2 (w2.setCell ⟨d, 36, none⟩ (.int .i64 (T : Nat))) := kp_set (by simp) _ _
    have HG6 := Lib.hid (HG5.out.kept hk3 hpd hqd)
    have HK3 := Lib.hid hk3
    clear hk3
    go_upto_region 5 with (fail)
    generalize w2.setCell ⟨d, 36, none⟩ (.int .i64 (T : Nat)) = w3 at *
    have k1 := HD3.out.a (i := 1) rfl
    have k36 := HD3.out.b (j := 5) rfl
    have HK4 := Lib.hid (show Kp [] w3 w3.drew from (Kp.refl _ _).drew)
    have CL := c_rlen p q 32768 out w3.drew (HG6.out.kept HK4.out (by simp) (by simp))
    unfold LenPost at CL
    have CL := Lib.hid CL
    go_region_held3 (fun w' => w'.cell? ⟨d, 1, none⟩ = some (.pointer (some ⟨p, 0, none⟩)) ∧ w'.cell? ⟨d, 31 + 5, none⟩ = some (.int .i64 (T : Nat))) (first | exact ⟨k1, k36⟩ | exact ⟨j1, j36⟩)
      (first
        | (go_at_call 86; go_must (refine CL.out.mono ?_); rintro en w4 ⟨rfl, hw4⟩; have HK5 := Lib.hid (show Kp [d] w2 w4 from hw4 ▸ HK3.out.trans (HK4.out.mono (by simp))); have HD4 := Lib.hid (show DB w4 d r p g l e c { m with back := T } false 0 from HD3.out.kept (hw4 ▸ HK4.out) (by simp)); clear hw4; have j1 := HD4.out.a (i := 1) rfl; have j36 := HD4.out.b (j := 5) rfl))
    by_cases hs : T > out.length
    · have i1 : ((min out.length 32768 : Nat) : Int) < (T : Int) := by omega
      generalize min out.length 32768 = Z at *
      go_wp2_with (first
        | (go_at_call 56; go_must (refine (c_stop 14 HD4.out).mono ?_); rintro en w5 ⟨rfl, hd5, hk5⟩))
      go_ret
      have hk6 : Kp [d] w2 w5 := HK5.out.trans hk5
      exact H.out.done HS.out (by unfold dbM; rw [if_pos hs]) ((HK2.out.mono (by simp)).trans (hk6.mono (by simp))) hd5 ((HT2.out.kept hk6 (by simp)).same (fun h => h) (fun h => h) rfl rfl rfl) (HR2.out.kept hk6 hrd) (fun _ => rfl) rfl
    · have i1 : ¬ ((min out.length 32768 : Nat) : Int) < (T : Int) := by omega
      generalize min out.length 32768 = Z at *
      go_wp2_with (first
        | (go_at_call 51; go_must (refine (c_then .cpy HD4.out).mono ?_); rintro en w5 ⟨rfl, hd5, hk5⟩))
      go_ret
      have hk6 : Kp [d] w2 w5 := HK5.out.trans hk5
      exact H.out.done HS.out (by unfold dbM; rw [if_neg hs]) ((HK2.out.mono (by simp)).trans (hk6.mono (by simp))) hd5 ((HT2.out.kept hk6 (by simp)).same (fun _ => hu) (fun h => (by cases h)) rfl rfl rfl) (HR2.out.kept hk6 hrd) (fun _ => rfl) rfl
  · have CT := Lib.hid (take_no (n := n) (hr.kept (S := []) ((Kp.refl _ _).drew) (by simp)) hl (by omega) hle)
    have HS := Lib.hid (show step m out b0 = none by unfold step; rw [hph]; dsimp only; rw [en, if_neg hle])
    clear h hd hT hr hn hb5 hbd en eb hG hG2 hall
    go_enter Tryd.func83, Tryd.ntmps83
    go_upto_region 1 with (fail)
    go_region_held3 (fun w' => w'.cell? ⟨d, 0, none⟩ = some (.pointer (some ⟨r, 0, none⟩)) ∧ w'.cell? ⟨d, 31 + 3, none⟩ = some (.int .i64 (m.sym : Nat)) ∧ w'.cell? ⟨3, m.sym, none⟩ = some (.int .i64 (n : Nat))) (first | exact ⟨c0, c34, ct⟩ | exact ⟨g0, g34, gt⟩)
      (first
        | (go_at_call 49; go_must (refine CT.out.mono ?_); rintro en w2 ⟨rfl, hr2, hk2⟩; have HR2 := Lib.hid hr2; have HK2 := Lib.hid (show Kp [r] w w2 from HKD.out.trans hk2); clear hr2 hk2; have HD2 := Lib.hid (HD.out.kept HK2.out hdr); have g0 := HD2.out.a (i := 0) rfl; have g34 := HD2.out.b (j := 3) rfl; have HG3 := Lib.hid (HG.out.kept HK2.out (by simp)); have gt := HG3.out.t3 m.sym n HN.out))
    go_wp2_with (fail)
    go_ret
    exact H.out.wait HK2.out HR2.out HS.out
end Go.Proofs.YtdpnlmofkkdioaaDoor.Hf
