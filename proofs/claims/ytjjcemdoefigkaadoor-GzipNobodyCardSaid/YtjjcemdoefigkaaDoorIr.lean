/- The inflater: copied, lengthBits, distanceBits. -/
import Derived.Test.YtjjcemdoefigkaaDoorIn
import Derived.Test.YtjjcemdoefigkaaDoorIm
import Derived.BigQuiet
namespace Go.Proofs.YtjjcemdoefigkaaDoor.Hf
set_option linter.unusedVariables false
set_option linter.unusedSimpArgs false
open Go.RowKit Go.Proofs.YtjjcemdoefigkaaDoor.W

/-- As many blocks as the tables take. -/
def gtop : Nat := 5 + 1
/-- The package's tables, none of their blocks in D. -/
structure Gt (w : World) (D : List Nat) : Prop where
  t0 : ∀ i v, mL[i]? = some v → w.cell? ⟨1, i, none⟩ = some (.int .i64 (v : Nat))
  t1 : ∀ i v, lL[i]? = some v → w.cell? ⟨2, i, none⟩ = some (.int .i64 (v : Nat))
  t2 : ∀ i v, ord[i]? = some v → w.cell? ⟨3, i, none⟩ = some (.int .i64 (v : Nat))
  t3 : ∀ i v, mB[i]? = some v → w.cell? ⟨4, i, none⟩ = some (.int .i64 (v : Nat))
  t4 : ∀ i v, lB[i]? = some v → w.cell? ⟨5, i, none⟩ = some (.int .i64 (v : Nat))
  sz : gtop ≤ w.heap.size
  out : ∀ b, b < gtop → b ∉ D
theorem Gt.kept {w w' : World} {D T : List Nat} (h : Gt w D) (hk : Kp T w w') (hT : ∀ k ∈ T, k ∈ D) : Gt w' D := by
  have hb : ∀ b, b < gtop → w'.heap[b]? = w.heap[b]? := fun b h5 => hk.block b (by have := h.sz; omega) fun hm => h.out b h5 (hT b hm)
  have hc : ∀ b i, b < gtop → w'.cell? ⟨b, i, none⟩ = w.cell? ⟨b, i, none⟩ := fun b i h5 => World.cell?_of_block (a := ⟨b, i, none⟩) (hb b h5)
  exact ⟨fun i v hi => (hc 1 i (by decide)).trans (h.t0 i v hi), fun i v hi => (hc 2 i (by decide)).trans (h.t1 i v hi), fun i v hi => (hc 3 i (by decide)).trans (h.t2 i v hi), fun i v hi => (hc 4 i (by decide)).trans (h.t3 i v hi), fun i v hi => (hc 5 i (by decide)).trans (h.t4 i v hi), Nat.le_trans h.sz hk.size, h.out⟩
set_option maxHeartbeats 4000000 in
set_option maxRecDepth 100000 in
theorem c_cpy {w : World} {d r p q g : Nat} {m : M} {out : List Int} {bs : List Bool} (h : Inf w d r p q g m out bs false 0) (h0 : m.why = 0) (hph : m.ph = .cpy) (hok : Ok m out) :
    Calls Tryd.prog 74 #[.pointer (some ⟨d, 0, none⟩)] w (StepPost w d r p q g m out bs) := by
  obtain ⟨l, e, c, hd, hT⟩ := h.db
  obtain ⟨b0, hr, hb⟩ := h.rd
  obtain rfl := hb h0
  have hne := h.ne
  simp only [List.nodup_cons, List.mem_cons, List.not_mem_nil, or_false, not_or] at hne
  have hdr : d ∉ [r] := by simp; exact hne.1.1
  have hrd : r ∉ [d] := by simp; exact fun h => hne.1.1 h.symm
  have hpr : p ∉ [r] := by simp; exact fun h => hne.2.1.1 h.symm
  have hqr : q ∉ [r] := by simp; exact fun h => hne.2.1.2.1 h.symm
  have hpd : p ∉ [d] := by simp; exact fun h => hne.1.2.1 h.symm
  have hqd : q ∉ [d] := by simp; exact fun h => hne.1.2.2.1 h.symm
  have hrg : r ∉ [d, p, q] := by simp; exact ⟨fun h => hne.1.1 h.symm, hne.2.1.1, hne.2.1.2.1⟩
  have c0 := hd.a (i := 0) rfl
  have hlt := hd.lt
  have H := Lib.hid h
  have HD := Lib.hid hd
  have HT := Lib.hid hT
  have RG := Lib.hid h.rg
  have hpo := hok.ph h0
  unfold PhOk at hpo
  rw [hph] at hpo
  dsimp only at hpo
  obtain ⟨_, ⟨hl1, hl2⟩, ⟨hb1, hb2⟩, hb3⟩ := hpo
  obtain ⟨x, hx⟩ : ∃ x, out[out.length - m.back]? = some x := ⟨_, List.getElem?_eq_getElem (by omega)⟩
  have hxb := hok.bytes x (List.mem_of_getElem? hx)
  have HS := Lib.hid (show step m out b0 = some ({ m with left := m.left - 1, ph := if m.left = 1 then .lit else .cpy }, [x], 0) by unfold step; rw [hph]; dsimp only; rw [List.getD_eq_getElem?_getD, hx]; rfl)
  have hu : usesT m.ph = true := by rw [hph]; rfl
  have c1 := hd.a (i := 1) rfl
  have c36 := hd.b (j := 5) rfl
  have cB := c_back p q 32768 m.back out x w.drew (h.rg.kept (S := []) ((Kp.refl _ _).drew) (by simp) (by simp)) (by omega) hb1 (by omega) hx
  unfold BackPost at cB
  have CB := Lib.hid cB
  have HR := Lib.hid hr
  have HKD := Lib.hid (show Kp [] w w.drew from (Kp.refl _ _).drew)
  obtain ⟨L, hL⟩ : ∃ L, m.left = L + 1 := ⟨m.left - 1, by omega⟩
  have HL := Lib.hid hL
  have eL : ((L + 1 : Nat) : Int) - 1 = (L : Int) := by omega
  have hL9 : L < 300 := by omega
  clear h hd hT hr hx cB hok hl1 hl2 hL
  go_enter Tryd.func74, Tryd.ntmps74
  go_upto_region 1 with (fail)
  go_region_held3 (fun w' => w'.cell? ⟨d, 1, none⟩ = some (.pointer (some ⟨p, 0, none⟩)) ∧ w'.cell? ⟨d, 31 + 5, none⟩ = some (.int .i64 (m.back : Nat))) (first | exact ⟨c1, c36⟩ | exact ⟨g1, g36⟩)
    (first
      | (go_at_call 76; go_must (refine CB.out.mono ?_); rintro en w2 ⟨rfl, hw2⟩; have HK2 := Lib.hid (show Kp [] w w2 from hw2 ▸ HKD.out); clear hw2; have HD2 := Lib.hid (HD.out.kept HK2.out (by simp)); have g1 := HD2.out.a (i := 1) rfl; have g36 := HD2.out.b (j := 5) rfl))
  have HT2 := Lib.hid (HT.out.kept HK2.out (by simp))
  have HR2 := Lib.hid (HR.out.kept HK2.out (by simp))
  have HG2 := Lib.hid (RG.out.kept HK2.out (by simp) (by simp))
  have g35 := HD2.out.b (j := 4) rfl
  rw [HL.out] at g35
  have gf := HD2.out.fz
  have gl := HD2.out.lt
  have HD3 := Lib.hid (HD2.out.left L)
  have hk3 : Kp [d] w2 (w2.setCell ⟨d, 35, none⟩ (.int .i64 (L : Nat))) := kp_set (by simp) _ _
  have HG3 := Lib.hid (HG2.out.kept hk3 hpd hqd)
  have hst := store_fn (fn := phF .lit) (v := .pointer (some ⟨d, 0, none⟩)) (HD3.out.a (i := 2) rfl) (HD3.out.fz 2)
  rw [show phF .lit = 45 from rfl] at hst
  have HD4 := Lib.hid (HD3.out.ph .lit)
  have hk4 := hk3.trans (kp_set (S := [d]) (show d ∈ [d] by simp) 2 (.func (Fn.func (phF .lit)) #[.pointer (some ⟨d, 0, none⟩)] #[]))
  have HG4 := Lib.hid (HG2.out.kept hk4 hpd hqd)
  have HK3 := Lib.hid hk3
  have HK4 := Lib.hid hk4
  clear hk3 hk4
  by_cases hs : L = 0
  · have i1 : ((L : Int) == 0) = true := W.eqT (by omega)
    have HS0 := Lib.hid hs
    clear hs
    go_wp2_with (first
      | (go_at_call 55; go_must (refine (c_give x HD4.out HG4.out (by omega) (by omega) (by omega) hne.1.2.1 hne.1.2.2.1).mono ?_); rintro en w5 ⟨rfl, hd5, hg5, hk5⟩))
    go_ret
    have hk6 : Kp [d, p, q] w2 w5 := (HK4.out.mono (by simp)).trans hk5
    exact H.out.gave HS.out (by rw [HL.out, if_pos (show L + 1 = 1 by rw [HS0.out]), Nat.add_sub_cancel]) ((HK2.out.mono (by simp)).trans (hk6.mono (by simp))) hd5 ((HT2.out.kept hk6 (by simp)).same (fun _ => hu) (fun h => (by cases h)) rfl rfl rfl) (HR2.out.kept hk6 hrg) (fun _ => rfl) hg5 rfl
  · have i1 : ((L : Int) == 0) = false := W.eqF (by omega)
    go_wp2_with (first
      | (go_at_call 55; go_must (refine (c_give x HD3.out HG3.out (by omega) (by omega) (by omega) hne.1.2.1 hne.1.2.2.1).mono ?_); rintro en w5 ⟨rfl, hd5, hg5, hk5⟩))
    go_ret
    have hk6 : Kp [d, p, q] w2 w5 := (HK3.out.mono (by simp)).trans hk5
    exact H.out.gave HS.out (by rw [HL.out, if_neg (by omega), Nat.add_sub_cancel, ← hph]) ((HK2.out.mono (by simp)).trans (hk6.mono (by simp))) hd5 ((HT2.out.kept hk6 (by simp)).same (fun h => h) (fun h => h) rfl rfl rfl) (HR2.out.kept hk6 hrg) (fun _ => rfl) hg5 rfl
set_option maxHeartbeats 4000000 in
set_option maxRecDepth 100000 in
theorem c_lbits {w : World} {d r p q g : Nat} {m : M} {out : List Int} {bs : List Bool} (h : Inf w d r p q g m out bs false 0) (h0 : m.why = 0) (hph : m.ph = .lbits) (hl : bs.length < 64) (hsym : m.sym ≤ 28) (hG : Gt w [d, r, p, q, g]) :
    Calls Tryd.prog 57 #[.pointer (some ⟨d, 0, none⟩)] w (StepPost w d r p q g m out bs) := by
  obtain ⟨l, e, c, hd, hT⟩ := h.db
  obtain ⟨b0, hr, hb⟩ := h.rd
  obtain rfl := hb h0
  have hne := h.ne
  simp only [List.nodup_cons, List.mem_cons, List.not_mem_nil, or_false, not_or] at hne
  have hdr : d ∉ [r] := by simp; exact hne.1.1
  have hrd : r ∉ [d] := by simp; exact fun h => hne.1.1 h.symm
  have hpr : p ∉ [r] := by simp; exact fun h => hne.2.1.1 h.symm
  have hqr : q ∉ [r] := by simp; exact fun h => hne.2.1.2.1 h.symm
  have hpd : p ∉ [d] := by simp; exact fun h => hne.1.2.1 h.symm
  have hqd : q ∉ [d] := by simp; exact fun h => hne.1.2.2.1 h.symm
  have hrg : r ∉ [d, p, q] := by simp; exact ⟨fun h => hne.1.1 h.symm, hne.2.1.1, hne.2.1.2.1⟩
  have c0 := hd.a (i := 0) rfl
  have hlt := hd.lt
  have H := Lib.hid h
  have HD := Lib.hid hd
  have HT := Lib.hid hT
  have RG := Lib.hid h.rg
  have hu : usesT m.ph = true := by rw [hph]; rfl
  obtain ⟨n, hn⟩ : ∃ n, mL[m.sym]? = some n := ⟨_, List.getElem?_eq_getElem (by show m.sym < 29; omega)⟩
  obtain ⟨b, hb5⟩ : ∃ b, lL[m.sym]? = some b := ⟨_, List.getElem?_eq_getElem (by show m.sym < 29; omega)⟩
  have hall : ∀ s : _root_.Fin 29, mL.getD s.val 0 ≤ 13 ∧ 1 ≤ lL.getD s.val 0 ∧ lL.getD s.val 0 + 2 ^ mL.getD s.val 0 ≤ 32769 := by decide +kernel
  have hbd := hall ⟨m.sym, by omega⟩
  dsimp only at hbd
  have en : mL.getD m.sym 0 = n := by rw [List.getD_eq_getElem?_getD, hn]; rfl
  have eb : lL.getD m.sym 0 = b := by rw [List.getD_eq_getElem?_getD, hb5]; rfl
  rw [en, eb] at hbd
  have hG2 := hG.kept (T := []) ((Kp.refl _ _).drew) (by simp)
  have c34 := hd.b (j := 3) rfl
  have ct := hG.t0 m.sym n hn
  have hi : (m.sym : Int) < 29 := by omega
  have hi0 : (0 : Int) ≤ (m.sym : Int) := by omega
  have HG := Lib.hid hG
  have HN := Lib.hid hn
  have HB5 := Lib.hid hb5
  have HKD := Lib.hid (show Kp [r] w w.drew from (Kp.refl _ _).drew)
  have hn13 : n ≤ 13 := hbd.1
  by_cases hle : n ≤ b0.length
  · have CT := Lib.hid (take_yes (n := n) (hr.kept (S := []) ((Kp.refl _ _).drew) (by simp)) hl (by omega) hle)
    have hv := num_take_lt b0 (n := n)
    obtain ⟨v, hv'⟩ : ∃ v, num (b0.take n) = v := ⟨_, rfl⟩
    have HS := Lib.hid (show step m out b0 = some ({ m with left := b + v, ph := .dst }, [], n) by unfold step; rw [hph]; dsimp only; rw [en, if_pos hle, eb, hv'])
    rw [hv'] at CT hv
    obtain ⟨T, hT5⟩ : ∃ T, b + v = T := ⟨_, rfl⟩
    have hbv : 1 ≤ T ∧ T ≤ 32768 := by omega
    have eT : (b : Int) + (v : Int) = (T : Int) := by omega
    rw [hT5] at HS
    have hv16 : v < 40000 ∧ b < 40000 := by omega
    clear hv' h hd hT hr hn hb5 hbd en eb hG hG2 hv hT5 hall
    go_enter Tryd.func57, Tryd.ntmps57
    go_upto_region 1 with (fail)
    go_region_held3 (fun w' => w'.cell? ⟨d, 0, none⟩ = some (.pointer (some ⟨r, 0, none⟩)) ∧ w'.cell? ⟨d, 31 + 3, none⟩ = some (.int .i64 (m.sym : Nat)) ∧ w'.cell? ⟨1, m.sym, none⟩ = some (.int .i64 (n : Nat))) (first | exact ⟨c0, c34, ct⟩ | exact ⟨g0, g34, gt⟩)
      (first
        | (go_at_call 40; go_must (refine CT.out.mono ?_); rintro en w2 ⟨rfl, hr2, hk2⟩; have HR2 := Lib.hid hr2; have HK2 := Lib.hid (show Kp [r] w w2 from HKD.out.trans hk2); clear hr2 hk2; have HD2 := Lib.hid (HD.out.kept HK2.out hdr); have g0 := HD2.out.a (i := 0) rfl; have g34 := HD2.out.b (j := 3) rfl; have HG3 := Lib.hid (HG.out.kept HK2.out (by simp)); have gt := HG3.out.t0 m.sym n HN.out))
    have HT2 := Lib.hid (HT.out.kept HK2.out (by simp))
    have gt1 := HG3.out.t1 m.sym b HB5.out
    have gf := HD2.out.fz
    have gl := HD2.out.lt
    have g35 := HD2.out.b (j := 4) rfl
    go_wp2_with (first
      | (go_at_call 42; go_must (refine (c_then .dst (HD2.out.left T)).mono ?_); rintro en w3 ⟨rfl, hd3, hk3⟩))
    go_ret
    have hk4 : Kp [d] w2 w3 := (kp_set (by simp) _ _).trans hk3
    exact H.out.done HS.out rfl ((HK2.out.mono (by simp)).trans (hk4.mono (by simp))) hd3 ((HT2.out.kept hk4 (by simp)).same (fun _ => hu) (fun h => (by cases h)) rfl rfl rfl) (HR2.out.kept hk4 hrd) (fun _ => rfl) rfl
  · have CT := Lib.hid (take_no (n := n) (hr.kept (S := []) ((Kp.refl _ _).drew) (by simp)) hl (by omega) hle)
    have HS := Lib.hid (show step m out b0 = none by unfold step; rw [hph]; dsimp only; rw [en, if_neg hle])
    clear h hd hT hr hn hb5 hbd en eb hG hG2 hall
    go_enter Tryd.func57, Tryd.ntmps57
    go_upto_region 1 with (fail)
    go_region_held3 (fun w' => w'.cell? ⟨d, 0, none⟩ = some (.pointer (some ⟨r, 0, none⟩)) ∧ w'.cell? ⟨d, 31 + 3, none⟩ = some (.int .i64 (m.sym : Nat)) ∧ w'.cell? ⟨1, m.sym, none⟩ = some (.int .i64 (n : Nat))) (first | exact ⟨c0, c34, ct⟩ | exact ⟨g0, g34, gt⟩)
      (first
        | (go_at_call 40; go_must (refine CT.out.mono ?_); rintro en w2 ⟨rfl, hr2, hk2⟩; have HR2 := Lib.hid hr2; have HK2 := Lib.hid (show Kp [r] w w2 from HKD.out.trans hk2); clear hr2 hk2; have HD2 := Lib.hid (HD.out.kept HK2.out hdr); have g0 := HD2.out.a (i := 0) rfl; have g34 := HD2.out.b (j := 3) rfl; have HG3 := Lib.hid (HG.out.kept HK2.out (by simp)); have gt := HG3.out.t0 m.sym n HN.out))
    go_wp2_with (fail)
    go_ret
    exact H.out.wait HK2.out HR2.out HS.out
set_option maxHeartbeats 4000000 in
set_option maxRecDepth 100000 in
theorem c_dbits {w : World} {d r p q g : Nat} {m : M} {out : List Int} {bs : List Bool} (h : Inf w d r p q g m out bs false 0) (h0 : m.why = 0) (hph : m.ph = .dbits) (hl : bs.length < 64) (hsym : m.sym ≤ 29) (hG : Gt w [d, r, p, q, g]) :
    Calls Tryd.prog 69 #[.pointer (some ⟨d, 0, none⟩)] w (StepPost w d r p q g m out bs) := by
  obtain ⟨l, e, c, hd, hT⟩ := h.db
  obtain ⟨b0, hr, hb⟩ := h.rd
  obtain rfl := hb h0
  have hne := h.ne
  simp only [List.nodup_cons, List.mem_cons, List.not_mem_nil, or_false, not_or] at hne
  have hdr : d ∉ [r] := by simp; exact hne.1.1
  have hrd : r ∉ [d] := by simp; exact fun h => hne.1.1 h.symm
  have hpr : p ∉ [r] := by simp; exact fun h => hne.2.1.1 h.symm
  have hqr : q ∉ [r] := by simp; exact fun h => hne.2.1.2.1 h.symm
  have hpd : p ∉ [d] := by simp; exact fun h => hne.1.2.1 h.symm
  have hqd : q ∉ [d] := by simp; exact fun h => hne.1.2.2.1 h.symm
  have hrg : r ∉ [d, p, q] := by simp; exact ⟨fun h => hne.1.1 h.symm, hne.2.1.1, hne.2.1.2.1⟩
  have c0 := hd.a (i := 0) rfl
  have hlt := hd.lt
  have H := Lib.hid h
  have HD := Lib.hid hd
  have HT := Lib.hid hT
  have RG := Lib.hid h.rg
  have hu : usesT m.ph = true := by rw [hph]; rfl
  obtain ⟨n, hn⟩ : ∃ n, mB[m.sym]? = some n := ⟨_, List.getElem?_eq_getElem (by show m.sym < 30; omega)⟩
  obtain ⟨b, hb5⟩ : ∃ b, lB[m.sym]? = some b := ⟨_, List.getElem?_eq_getElem (by show m.sym < 30; omega)⟩
  have hall : ∀ s : _root_.Fin 30, mB.getD s.val 0 ≤ 13 ∧ 1 ≤ lB.getD s.val 0 ∧ lB.getD s.val 0 + 2 ^ mB.getD s.val 0 ≤ 32769 := by decide +kernel
  have hbd := hall ⟨m.sym, by omega⟩
  dsimp only at hbd
  have en : mB.getD m.sym 0 = n := by rw [List.getD_eq_getElem?_getD, hn]; rfl
  have eb : lB.getD m.sym 0 = b := by rw [List.getD_eq_getElem?_getD, hb5]; rfl
  rw [en, eb] at hbd
  have hG2 := hG.kept (T := []) ((Kp.refl _ _).drew) (by simp)
  have c34 := hd.b (j := 3) rfl
  have ct := hG.t3 m.sym n hn
  have hi : (m.sym : Int) < 30 := by omega
  have hi0 : (0 : Int) ≤ (m.sym : Int) := by omega
  have HG := Lib.hid hG
  have HN := Lib.hid hn
  have HB5 := Lib.hid hb5
  have HKD := Lib.hid (show Kp [r] w w.drew from (Kp.refl _ _).drew)
  have hn13 : n ≤ 13 := hbd.1
  by_cases hle : n ≤ b0.length
  · have CT := Lib.hid (take_yes (n := n) (hr.kept (S := []) ((Kp.refl _ _).drew) (by simp)) hl (by omega) hle)
    have hv := num_take_lt b0 (n := n)
    obtain ⟨v, hv'⟩ : ∃ v, num (b0.take n) = v := ⟨_, rfl⟩
    have HS := Lib.hid (show step m out b0 = some (dbM m out (b + v), [], n) by unfold step; rw [hph]; dsimp only; rw [en, if_pos hle, eb, hv'])
    rw [hv'] at CT hv
    obtain ⟨T, hT5⟩ : ∃ T, b + v = T := ⟨_, rfl⟩
    have hbv : 1 ≤ T ∧ T ≤ 32768 := by omega
    have eT : (b : Int) + (v : Int) = (T : Int) := by omega
    rw [hT5] at HS
    have hv16 : v < 40000 ∧ b < 40000 := by omega
    clear hv' h hd hT hr hn hb5 hbd en eb hG hG2 hv hT5 hall
    go_enter Tryd.func69, Tryd.ntmps69
    go_upto_region 1 with (fail)
    go_region_held3 (fun w' => w'.cell? ⟨d, 0, none⟩ = some (.pointer (some ⟨r, 0, none⟩)) ∧ w'.cell? ⟨d, 31 + 3, none⟩ = some (.int .i64 (m.sym : Nat)) ∧ w'.cell? ⟨4, m.sym, none⟩ = some (.int .i64 (n : Nat))) (first | exact ⟨c0, c34, ct⟩ | exact ⟨g0, g34, gt⟩)
      (first
        | (go_at_call 40; go_must (refine CT.out.mono ?_); rintro en w2 ⟨rfl, hr2, hk2⟩; have HR2 := Lib.hid hr2; have HK2 := Lib.hid (show Kp [r] w w2 from HKD.out.trans hk2); clear hr2 hk2; have HD2 := Lib.hid (HD.out.kept HK2.out hdr); have g0 := HD2.out.a (i := 0) rfl; have g34 := HD2.out.b (j := 3) rfl; have HG3 := Lib.hid (HG.out.kept HK2.out (by simp)); have gt := HG3.out.t3 m.sym n HN.out))
    have HT2 := Lib.hid (HT.out.kept HK2.out (by simp))
    have gt1 := HG3.out.t4 m.sym b HB5.out
    have gf := HD2.out.fz
    have gl := HD2.out.lt
    have g36 := HD2.out.b (j := 5) rfl
    have HD3 := Lib.hid (HD2.out.back T)
    have HG5 := Lib.hid (RG.out.kept HK2.out hpr hqr)
    have hk3 : Kp [d] w2 (w2.setCell ⟨d, 36, none⟩ (.int .i64 (T : Nat))) := kp_set (by simp) _ _
    have HG6 := Lib.hid (HG5.out.kept hk3 hpd hqd)
    have HK3 := Lib.hid hk3
    clear hk3
    go_upto_region 5 with (fail)
    generalize w2.setCell ⟨d, 36, none⟩ (.int .i64 (T : Nat)) = w3 at *
    have k1 := HD3.out.a (i := 1) rfl
    have k36 := HD3.out.b (j := 5) rfl
    have HK4 := Lib.hid (show Kp [] w3 w3.drew from (Kp.refl _ _).drew)
    have CL := c_rlen p q 32768 out w3.drew (HG6.out.kept HK4.out (by simp) (by simp))
    unfold LenPost at CL
    have CL := Lib.hid CL
    go_region_held3 (fun w' => w'.cell? ⟨d, 1, none⟩ = some (.pointer (some ⟨p, 0, none⟩)) ∧ w'.cell? ⟨d, 31 + 5, none⟩ = some (.int .i64 (T : Nat))) (first | exact ⟨k1, k36⟩ | exact ⟨j1, j36⟩)
      (first
        | (go_at_call 73; go_must (refine CL.out.mono ?_); rintro en w4 ⟨rfl, hw4⟩; have HK5 := Lib.hid (show Kp [d] w2 w4 from hw4 ▸ HK3.out.trans (HK4.out.mono (by simp))); have HD4 := Lib.hid (show DB w4 d r p g l e c { m with back := T } false 0 from HD3.out.kept (hw4 ▸ HK4.out) (by simp)); clear hw4; have j1 := HD4.out.a (i := 1) rfl; have j36 := HD4.out.b (j := 5) rfl))
    by_cases hs : T > out.length
    · have i1 : ((min out.length 32768 : Nat) : Int) < (T : Int) := by omega
      generalize min out.length 32768 = Z at *
      go_wp2_with (first
        | (go_at_call 47; go_must (refine (c_stop 14 HD4.out).mono ?_); rintro en w5 ⟨rfl, hd5, hk5⟩))
      go_ret
      have hk6 : Kp [d] w2 w5 := HK5.out.trans hk5
      exact H.out.done HS.out (by unfold dbM; rw [if_pos hs]) ((HK2.out.mono (by simp)).trans (hk6.mono (by simp))) hd5 ((HT2.out.kept hk6 (by simp)).same (fun h => h) (fun h => h) rfl rfl rfl) (HR2.out.kept hk6 hrd) (fun _ => rfl) rfl
    · have i1 : ¬ ((min out.length 32768 : Nat) : Int) < (T : Int) := by omega
      generalize min out.length 32768 = Z at *
      go_wp2_with (first
        | (go_at_call 42; go_must (refine (c_then .cpy HD4.out).mono ?_); rintro en w5 ⟨rfl, hd5, hk5⟩))
      go_ret
      have hk6 : Kp [d] w2 w5 := HK5.out.trans hk5
      exact H.out.done HS.out (by unfold dbM; rw [if_neg hs]) ((HK2.out.mono (by simp)).trans (hk6.mono (by simp))) hd5 ((HT2.out.kept hk6 (by simp)).same (fun _ => hu) (fun h => (by cases h)) rfl rfl rfl) (HR2.out.kept hk6 hrd) (fun _ => rfl) rfl
  · have CT := Lib.hid (take_no (n := n) (hr.kept (S := []) ((Kp.refl _ _).drew) (by simp)) hl (by omega) hle)
    have HS := Lib.hid (show step m out b0 = none by unfold step; rw [hph]; dsimp only; rw [en, if_neg hle])
    clear h hd hT hr hn hb5 hbd en eb hG hG2 hall
    go_enter Tryd.func69, Tryd.ntmps69
    go_upto_region 1 with (fail)
    go_region_held3 (fun w' => w'.cell? ⟨d, 0, none⟩ = some (.pointer (some ⟨r, 0, none⟩)) ∧ w'.cell? ⟨d, 31 + 3, none⟩ = some (.int .i64 (m.sym : Nat)) ∧ w'.cell? ⟨4, m.sym, none⟩ = some (.int .i64 (n : Nat))) (first | exact ⟨c0, c34, ct⟩ | exact ⟨g0, g34, gt⟩)
      (first
        | (go_at_call 40; go_must (refine CT.out.mono ?_); rintro en w2 ⟨rfl, hr2, hk2⟩; have HR2 := Lib.hid hr2; have HK2 := Lib.hid (show Kp [r] w w2 from HKD.out.trans hk2); clear hr2 hk2; have HD2 := Lib.hid (HD.out.kept HK2.out hdr); have g0 := HD2.out.a (i := 0) rfl; have g34 := HD2.out.b (j := 3) rfl; have HG3 := Lib.hid (HG.out.kept HK2.out (by simp)); have gt := HG3.out.t3 m.sym n HN.out))
    go_wp2_with (fail)
    go_ret
    exact H.out.wait HK2.out HR2.out HS.out
end Go.Proofs.YtjjcemdoefigkaaDoor.Hf
/- The inflater: lay. -/
namespace Go.Proofs.YtjjcemdoefigkaaDoor.Hf
set_option linter.unusedVariables false
set_option linter.unusedSimpArgs false
open Go.RowKit Go.Proofs.YtjjcemdoefigkaaDoor.W

theorem int8 : El Tryd.prog 49 3 (.int .i64 0) 8 := ⟨Tryd.underlying49, by kernel_rfl, rfl⟩
theorem c_new1 (A : Option Addr) (L c : Nat) (ls : List Nat) (w : World) (hL : ls.length = L) (hl : L ≤ 320) (hle : ∀ n ∈ ls, n ≤ 15) (hr : RV w A (ints ls)) :
    Calls Tryd.prog 53 #[.slice A L c] w fun e w' => ∃ (pt : Option Addr) (er : Int), e = .returned (.tuple #[.pointer pt, .int .i64 er]) ∧ (newOk ls = true → er = 0 ∧ ∃ t, pt = some ⟨t, 0, none⟩ ∧ ∀ S, (∀ k ∈ S, k < w.heap.size) → Tb w' S t ls) ∧ (newOk ls = false → er ≠ 0) ∧ Kp [] w w' := by
  refine (c_new A L c ls w hL hl hle hr).mono ?_
  rintro e w' (⟨h1, t, rfl, h2, h3⟩ | ⟨h1, er, rfl, h2, h3⟩)
  · exact ⟨_, _, rfl, fun _ => ⟨rfl, t, rfl, h2⟩, fun h => (by rw [h1] at h; cases h), h3⟩
  · exact ⟨_, _, rfl, fun h => (by rw [h1] at h; cases h), fun _ => h2, h3⟩
section
variable {w w' : World} {d r p q g : Nat} {l e c : Option Addr} {m m' : M} {out : List Int} {bs bs' : List Bool} {rdy rdy' : Bool} {o o' : Int}
theorem Inf.turnR (h : Inf w d r p q g m out bs rdy o) (hk : Kp [d, g] w w') (hd : DB w' d r p g l e c m' rdy' o') (hT : Tbs w' [d, r, p, q, g] l e c m') (hw : m'.why = 0 → m.why = 0) (hrow : w'.ownsRow 0 3 1 (.slice (some ⟨g, 0, none⟩) m'.row.length 320) m'.row.length (ints m'.row)) : Inf w' d r p q g m' out bs rdy' o' := by
  have hne := h.ne
  simp only [List.nodup_cons, List.mem_cons, List.not_mem_nil, or_false, not_or] at hne
  obtain ⟨⟨n1, n2, n3, n4⟩, ⟨n5, n6, n7⟩, ⟨n8, n9⟩, n10, _⟩ := hne
  obtain ⟨b0, hr, hb⟩ := h.rd
  refine ⟨⟨l, e, c, hd, hT⟩, ⟨b0, hr.kept hk ?_, fun h => hb (hw h)⟩, h.rg.kept hk ?_ ?_, hrow, h.ne⟩
  · simp; exact ⟨fun h => n1 h.symm, n7⟩
  · simp; exact ⟨fun h => n2 h.symm, n9⟩
  · simp; exact ⟨fun h => n3 h.symm, n10⟩
theorem Inf.fin (h : Inf w' d r p q g m' out bs' false 0) {rr : Out} (hs : step m out bs = some rr) {k : Nat} (hrr : rr = (m', [], k)) (hb : bs' = bs.drop k) (hk : Kp [d, r, p, q, g] w w') : StepPost w d r p q g m out bs (.returned (.bool true)) w' := by
  subst hrr
  refine .inr ⟨_, hs, rfl, ?_, hk⟩
  show Inf w' d r p q g m' (out ++ []) (bs.drop k) false 0
  rw [List.append_nil, ← hb]
  exact h
theorem Tbs.cOnly {D : List Nat} {l' e' : Option Addr} (h : Tbs w D l e c m) (hu : usesT m'.ph = false) (h2 : usesC m'.ph = true → usesC m.ph = true) (e3 : m'.cd = m.cd) : Tbs w D l' e' c m' where
  l hx := by rw [hu] at hx; cases hx
  e hx := by rw [hu] at hx; cases hx
  c hx := by rw [e3]; exact h.c (h2 hx)
theorem usesT_of {x : Ph} (h : usesC x = true) : usesT x = false := by cases x <;> first | rfl | cases h
theorem Inf.lts (h : Inf w d r p q g m out bs rdy o) : ∀ k ∈ [d, r, p, q, g], k < w.heap.size := by
  obtain ⟨l, e, c, hd, _⟩ := h.db
  obtain ⟨b0, hr, _⟩ := h.rd
  have h1 := hd.lt
  have h2 := hr.lt
  have h3 := h.rg.lt
  have h4 := h.rg.ltq
  have h5 := own_lt h.row
  intro k hk
  simp only [List.mem_cons, List.not_mem_nil, or_false] at hk
  rcases hk with rfl | rfl | rfl | rfl | rfl <;> assumption
theorem own_row {n : Nat} {xs : List Value} (h : w.ownsRow 0 3 1 (.slice (some ⟨g, 0, none⟩) n 320) n xs) : RV w (some ⟨g, 0, none⟩) xs := RV.own h
end
set_option maxHeartbeats 8000000 in
set_option maxRecDepth 100000 in
theorem c_lay {w : World} {d r p q g : Nat} {m : M} {out : List Int} {bs : List Bool} (n x : Nat) (h : Inf w d r p q g m out bs false 0) (h0 : m.why = 0) (hC : usesC m.ph = true) (hlo : LenOk m) (hok : Ok m out) (hx : x ≤ 15) (hn : n ≤ 200) :
    Calls Tryd.prog 70 #[.pointer (some ⟨d, 0, none⟩), .int .i64 (n : Nat), .int .i64 (x : Nat)] w fun en w' => en = .returned (.bool true) ∧ Inf w' d r p q g (layM m n x) out bs false 0 ∧ Kp [d, r, p, q, g] w w' := by
  obtain ⟨l, e, c, hd, hT⟩ := h.db
  have hne := h.ne
  simp only [List.nodup_cons, List.mem_cons, List.not_mem_nil, or_false, not_or] at hne
  have hlt := hd.lt
  have H := Lib.hid h
  have HD := Lib.hid hd
  have HT := Lib.hid hT
  have HLO := Lib.hid hlo
  have HROW := Lib.hid h.row
  have HR15 := Lib.hid hok.row
  have c11 := hd.a (i := 11) rfl
  have c32 := hd.b (j := 1) rfl
  obtain ⟨R, hR⟩ : ∃ R, m.row.length = R := ⟨_, rfl⟩
  obtain ⟨Wn, hWn⟩ : ∃ Wn, m.wanted = Wn := ⟨_, rfl⟩
  have hhi := hlo.rows.hi
  have hrw := hlo.row
  rw [hR] at c11 hrw
  rw [hWn] at c32 hhi hrw
  have HRL := Lib.hid hR
  have HWN := Lib.hid hWn
  obtain ⟨T, hT5⟩ : ∃ T, R + n = T := ⟨_, rfl⟩
  have eT : IntKind.i64.wrap ((R : Int) + (n : Int)) = (T : Int) := by rw [← hT5, Int.natCast_add]; exact IntWalk.i64_in _ (by omega)
  have HLM := Lib.hid (show layM m n x = if T > Wn then stopM m 12 else if T < Wn then { m with row := m.row ++ List.replicate n x, ph := .len } else if newOk ((m.row ++ List.replicate n x).take m.lits) && (newOk ((m.row ++ List.replicate n x).drop m.lits) && decide ((m.row ++ List.replicate n x).getD 256 0 ≠ 0)) then { m with row := m.row ++ List.replicate n x, lt := (m.row ++ List.replicate n x).take m.lits, ds := (m.row ++ List.replicate n x).drop m.lits, ph := .lit } else stopM { m with row := m.row ++ List.replicate n x } 12 by
    unfold layM
    rw [hR, hWn, hT5]
    by_cases h1 : T > Wn
    · rw [if_pos h1, if_pos h1]
    · rw [if_neg h1, if_neg h1]
      dsimp only
      rw [List.length_append, hR, List.length_replicate, hT5])
  clear h hd hT hlo hok hR hWn
  by_cases h1 : T > Wn
  · have d1 : decide ((Wn : Int) < (T : Int)) = true := W.decT (Int.ofNat_lt.2 h1)
    have d1' : decide (Wn < T) = true := W.decT h1
    go_enter Tryd.func70, Tryd.ntmps70
    go_upto_region 1 with (fail)
    go_quiet (fail)
    clear eT
    go_upto_region 2 with (fail)
    have hk2 : Kp [] w (w.drewN nq) := (Kp.refl _ _).drewN _
    have CS := Lib.hid (c_stop 12 (HD.out.kept hk2 (by simp)))
    go_wp2_with (first
      | (go_at_call 47; go_must (refine CS.out.mono ?_); rintro en w3 ⟨rfl, hd3, hk3⟩))
    go_ret
    rw [HLM.out, if_pos h1]
    have hk4 : Kp [d, r] w w3 := (hk2.mono (by simp)).trans (hk3.mono (by simp))
    obtain ⟨b0, hr, hb⟩ := H.out.rd
    exact ⟨rfl, H.out.turn hk4 hd3 ((HT.out.kept hk4 (by simp)).same id id rfl rfl rfl) ⟨b0, (hr.kept hk2 (by simp)).kept hk3 (by simp; exact fun h => hne.1.1 h.symm), fun h => (by cases h)⟩ rfl, hk4.mono (by simp)⟩
  · have d1 : decide ((Wn : Int) < (T : Int)) = false := W.decF (fun h => h1 (Int.ofNat_lt.1 h))
    have d1' : decide (Wn < T) = false := W.decF h1
    go_enter Tryd.func70, Tryd.ntmps70
    go_upto_region 1 with (fail)
    go_quiet (fail)
    clear eT
    have HK1 := Lib.hid (show Kp [d, g] w (w.drewN nq) from (Kp.refl _ _).drewN _)
    have HDq := Lib.hid (show DB (w.drewN nq) d r p g l e c { m with row := m.row ++ List.replicate 0 x } false 0 from by have h9 := HD.out.kept (S := []) ((Kp.refl _ w).drewN nq) (by simp); rw [List.replicate_zero, List.append_nil]; exact h9)
    have HOq := Lib.hid (show (w.drewN nq).ownsRow 0 3 1 (.slice (some ⟨g, 0, none⟩) (R + 0) 320) (R + 0) (ints (m.row ++ List.replicate 0 x)) from by have h9 := own_kp HROW.out (S := []) ((Kp.refl _ w).drewN nq) (by simp); rw [List.replicate_zero, List.append_nil, Nat.add_zero, ← HRL.out]; exact h9)
    generalize w.drewN nq = w1 at *
    go_upto_block 0 with (fail)
    go_cut [] (fun wz => DB wz d r p g l e c { m with row := m.row ++ List.replicate n x } false 0 ∧ wz.ownsRow 0 3 1 (.slice (some ⟨g, 0, none⟩) T 320) T (ints (m.row ++ List.replicate n x)) ∧ Kp [d, g] w wz)
    case first =>
      go_wp2_with (fail)
      go_loopg [24] n (fun g' s24 wx => ∃ i : Nat, i + g' = n ∧ s24 = .int .i64 i ∧ DB wx d r p g l e c { m with row := m.row ++ List.replicate i x } false 0 ∧ wx.ownsRow 0 3 1 (.slice (some ⟨g, 0, none⟩) (R + i) 320) (R + i) (ints (m.row ++ List.replicate i x)) ∧ Kp [d, g] w wx)
      case atStart => exact ⟨0, by omega, rfl, HDq.out, HOq.out, HK1.out⟩
      case round =>
        obtain ⟨i, hig, rfl, hD, hO, hK⟩ := hrel
        have HDr := Lib.hid hD
        have HOr := Lib.hid hO
        have HKr := Lib.hid hK
        cases gk with
        | zero =>
          obtain rfl : i = n := by omega
          have hk : ¬ (i : Int) < (i : Int) := by omega
          go_wp2_with (fail)
          go_meet
          rw [hT5] at hO
          exact ⟨hD, hO, hK⟩
        | succ g' =>
          have hk : (i : Int) < (n : Int) := by omega
          have hlen : (m.row ++ List.replicate i x).length = R + i := by rw [List.length_append, HRL.out, List.length_replicate]
          have hlen2 : (m.row ++ List.replicate (i + 1) x).length = R + i + 1 := by rw [List.length_append, HRL.out, List.length_replicate]; omega
          have hrep : ints (m.row ++ List.replicate i x) ++ [.int .i64 (x : Nat)] = ints (m.row ++ List.replicate (i + 1) x) := by
            rw [List.replicate_succ', ← List.append_assoc]
            simp [ints]
          have c11 := hD.a (i := 11) rfl
          dsimp only at c11
          rw [hlen] at c11
          have hltr := hD.lt
          obtain ⟨ti, hti, htz, hts, htb⟩ := info_parts int8.info
          have HOA := Lib.hid (hO.alloc (.cells #[.int .i64 (x : Nat)] 3))
          have HNE := Lib.hid (show ∀ j u, [Value.int .i64 (x : Nat)][j]? = some u → (wr.alloc (.cells #[.int .i64 (x : Nat)] 3)).cell? ((⟨wr.heap.size, 0, none⟩ : Addr).add j) = some u from fun j u hu => by
            have h9 := RV.new (w := wr) #[Value.int .i64 (x : Nat)] 3 j u hu
            obtain ⟨b9, off9, hA9, _, hc9⟩ := h9
            injection hA9 with hA9
            injection hA9 with h10 h11
            subst h10 h11
            rw [Addr.add_mid]
            exact hc9)
          have HON := Lib.hid (show ∀ u ∈ [Value.int .i64 (x : Nat)], u.oneCell' = true from by intro u hu; rw [List.mem_singleton.1 hu]; rfl)
          have HREP := Lib.hid hrep
          have HLE1 := Lib.hid hlen
          have HGN := Lib.hid hlen2
          have HTI := Lib.hid hti
          have HTS := Lib.hid hts
          have hroom : R + i + 1 ≤ 320 := by omega
          have HKA := Lib.hid (show Kp [g] wr (wr.alloc (.cells #[.int .i64 (x : Nat)] 3)) from (Kp.refl [g] wr).alloc _)
          clear hD hO hK hti htz hts htb hrep hlen hlen2
          go_wp2_with (first
            | (at_builtin; go_must (refine wpList_append_fits _ rfl (.tmp 30) (.tmp 32) 49 rfl 0 3 ti 1 int8.under HTI.out HTS.out g (R + i) 320 (ints (m.row ++ List.replicate i x)) rfl HOA.out ⟨wr.heap.size, 0, none⟩ 1 1 [.int .i64 (x : Nat)] rfl rfl HNE.out HON.out hroom ?_); intro wb hown hgrow; have HKB := Lib.hid (HKA.out.grown hgrow (fun k hk => .inl (by simp; exact (Option.some.inj hk).symm))); have HDb := Lib.hid (HDr.out.kept HKB.out (by simp; exact hne.1.2.2.2)); have b11 := HDb.out.a (i := 11) rfl; dsimp only at b11; rw [HLE1.out] at b11; have bf := HDb.out.fz; have bl := HDb.out.lt; rw [HREP.out] at hown; have HOb := Lib.hid hown; clear hown hgrow))
          go_roundg g'
          case measure => omega
          case rel =>
            have h9 := HDb.out.row (m.row ++ List.replicate (i + 1) x)
            rw [HGN.out] at h9
            have hk9 : Kp [d] wb (wb.setCell ⟨d, 11, none⟩ (.slice (some ⟨g, 0, none⟩) (R + i + 1) 320)) := kp_set (by simp) _ _
            exact ⟨i + 1, by omega, by go_num, h9, own_kp HOb.out hk9 (by simp; exact fun h => hne.1.2.2.2 h.symm), (HKr.out.trans (HKB.out.mono (by simp))).trans (hk9.mono (by simp))⟩
    case rest =>
      obtain ⟨hD, hO, hK⟩ := hcut
      have hrl : (m.row ++ List.replicate n x).length = T := by rw [List.length_append, HRL.out, List.length_replicate, hT5]
      have hr15 : ∀ y ∈ m.row ++ List.replicate n x, y ≤ 15 := fun y hy => by
        rcases List.mem_append.1 hy with h9 | h9
        · exact HR15.out y h9
        · rw [(List.mem_replicate.1 h9).2]; exact hx
      generalize m.row ++ List.replicate n x = rr at *
      have HRR := Lib.hid hrl
      have HRF := Lib.hid hr15
      have c11 := hD.a (i := 11) rfl
      dsimp only at c11
      rw [hrl] at c11
      have c32 := hD.b (j := 1) rfl
      dsimp only at c32
      rw [HWN.out] at c32
      have hlt := hD.lt
      have HDc := Lib.hid hD
      have HOc := Lib.hid hO
      have HKc := Lib.hid hK
      clear hD hO hK hrl hr15 hT5 HDq HOq HK1
      by_cases h2 : T < Wn
      · have d2 : decide ((T : Int) < (Wn : Int)) = true := W.decT (Int.ofNat_lt.2 h2)
        have d2' : decide (T < Wn) = true := W.decT h2
        go_upto_region 7 with (fail)
        go_quiet (fail)
        go_upto_region 8 with (fail)
        have hk5 : Kp [] wc (wc.drewN nq) := (Kp.refl _ _).drewN _
        have HD5 := Lib.hid (HDc.out.kept hk5 (by simp))
        have HO5 := Lib.hid (own_kp HOc.out hk5 (by simp))
        have HK5 := Lib.hid (HKc.out.trans (hk5.mono (by simp)))
        generalize wc.drewN nq = w5 at *
        go_wp2_with (first
          | (go_at_call 42; go_must (refine (c_then .len HD5.out).mono ?_); rintro en w6 ⟨rfl, hd6, hk6⟩))
        go_ret
        rw [HLM.out, if_neg h1, if_pos h2]
        have hk7 : Kp [d, g] w w6 := HK5.out.trans (hk6.mono (by simp))
        exact ⟨rfl, H.out.turnR hk7 hd6 ((HT.out.kept hk7 (by simp)).same (fun h => (by cases h)) (fun _ => hC) rfl rfl rfl) (fun h => h) (by dsimp only; rw [HRR.out]; exact own_kp HO5.out hk6 (by simp; exact fun h => hne.1.2.2.2 h.symm)), hk7.mono (by simp)⟩
      · have d2 : decide ((T : Int) < (Wn : Int)) = false := W.decF (fun h => h2 (Int.ofNat_lt.1 h))
        have d2' : decide (T < Wn) = false := W.decF h2
        have hlit := HLO.out.rows.lo
        have hlit2 := HLO.out.rows.lt
        rw [HWN.out] at hlit2
        have c31 := HDc.out.b (j := 0) rfl
        dsimp only at c31
        obtain ⟨Lt, hLt⟩ : ∃ Lt, m.lits = Lt := ⟨_, rfl⟩
        have HLT := Lib.hid hLt
        rw [hLt] at hlit hlit2 c31
        obtain rfl : T = Wn := by omega
        go_upto_region 7 with (fail)
        go_quiet (fail)
        go_upto_region 10 with (fail)
        have hk5 : Kp [] wc (wc.drewN nq) := (Kp.refl _ _).drewN _
        have HD5 := Lib.hid (HDc.out.kept hk5 (by simp))
        have HO5 := Lib.hid (own_kp HOc.out hk5 (by simp))
        have HK5 := Lib.hid (HKc.out.trans (hk5.mono (by simp)))
        have c11 : (wc.drewN nq).cell? ⟨d, 11, none⟩ = some (.slice (some ⟨g, 0, none⟩) T 320) := c11
        have c31 : (wc.drewN nq).cell? ⟨d, 31 + 0, none⟩ = some (.int .i64 (Lt : Nat)) := c31
        generalize wc.drewN nq = w5 at *
        have HN1 := Lib.hid (c_new1 (some ⟨g, 0, none⟩) Lt 320 (rr.take Lt) w5.drew (by rw [List.length_take, HRR.out]; omega) (by omega) (fun y hy => HRF.out y (List.mem_of_mem_take hy)) (by rw [show ints (rr.take Lt) = (ints rr).take Lt by simp [ints, List.map_take]]; exact ((own_row HO5.out).kept (Nat.le_refl _) (fun _ _ _ => rfl)).take Lt))
        have hL320 : (Lt : Int) ≤ 320 := by omega
        have HKD := Lib.hid (show Kp [] w5 w5.drew from (Kp.refl _ _).drew)
        clear hLt d1 d1' d2 d2'
        go_region_held3 (fun w' => w'.cell? ⟨d, 11, none⟩ = some (.slice (some ⟨g, 0, none⟩) T 320) ∧ w'.cell? ⟨d, 31 + 0, none⟩ = some (.int .i64 (Lt : Nat))) (first | exact ⟨c11, c31⟩ | exact ⟨g11, g31⟩ | exact ⟨s11, s31⟩)
          (first
            | (go_at_call 53; go_must (refine HN1.out.mono ?_); rintro en w6 ⟨pt, er, rfl, hyes, hno, hk6⟩; have HY1 := Lib.hid hyes; have HO1 := Lib.hid hno; have HK6 := Lib.hid (show Kp [] w5 w6 from HKD.out.trans hk6); clear hyes hno hk6; have HD6 := Lib.hid (HD5.out.kept HK6.out (by simp)); have g11 := HD6.out.a (i := 11) rfl; dsimp only at g11; rw [HRR.out] at g11; have g31 := HD6.out.b (j := 0) rfl; dsimp only at g31; rw [HLT.out] at g31; have g8 := HD6.out.a (i := 8) rfl; have gf := HD6.out.fz; have gl := HD6.out.lt; have HD7 := Lib.hid (HD6.out.setL pt); have s11 := HD7.out.a (i := 11) rfl; dsimp only at s11; rw [HRR.out] at s11; have s31 := HD7.out.b (j := 0) rfl; dsimp only at s31; rw [HLT.out] at s31))
        have HK7 := Lib.hid (show Kp [d] w5 (w6.setCell ⟨d, 8, none⟩ (.pointer pt)) from (HK6.out.mono (by simp)).trans (kp_set (by simp) _ _))
        have HKS := Lib.hid (show Kp [d] w6 (w6.setCell ⟨d, 8, none⟩ (.pointer pt)) from kp_set (by simp) _ _)
        clear gf gl g11 g31 g8 c11 c31
        go_upto_region 11 with (fail)
        generalize w6.setCell ⟨d, 8, none⟩ (.pointer pt) = w7 at *
        have HO7 := Lib.hid (own_kp HO5.out HK7.out (by simp; exact fun h => hne.1.2.2.2 h.symm))
        have HN2 := Lib.hid (c_new1 (some ⟨g, Lt, none⟩) (T - Lt) (320 - Lt) (rr.drop Lt) w7.drew (by rw [List.length_drop, HRR.out]) (by omega) (fun y hy => HRF.out y (List.mem_of_mem_drop hy)) (by
          rw [show ints (rr.drop Lt) = (ints rr).drop Lt by simp [ints, List.map_drop]]
          have h9 := RV.drop ((own_row HO7.out).kept (w' := w7.drew) (Nat.le_refl _) (fun _ _ _ => rfl)) Lt
          rw [Nat.zero_add] at h9
          exact h9))
        have hLT : (Lt : Int) ≤ (T : Int) := by omega
        have hq320 : ¬ 320 = Lt := by omega
        have HKE := Lib.hid (show Kp [] w7 w7.drew from (Kp.refl _ _).drew)
        go_region_held3 (fun w' => w'.cell? ⟨d, 11, none⟩ = some (.slice (some ⟨g, 0, none⟩) T 320) ∧ w'.cell? ⟨d, 31 + 0, none⟩ = some (.int .i64 (Lt : Nat))) (first | exact ⟨s11, s31⟩ | exact ⟨k11, k31⟩ | exact ⟨t11, t31⟩)
          (first
            | (go_at_call 53; go_must (refine HN2.out.mono ?_); rintro en w8 ⟨pu, es, rfl, hyes, hno, hk8⟩; have HY2 := Lib.hid hyes; have HO2 := Lib.hid hno; have HK8 := Lib.hid (show Kp [] w7 w8 from HKE.out.trans hk8); clear hyes hno hk8; have HD8 := Lib.hid (HD7.out.kept HK8.out (by simp)); have k11 := HD8.out.a (i := 11) rfl; dsimp only at k11; rw [HRR.out] at k11; have k31 := HD8.out.b (j := 0) rfl; dsimp only at k31; rw [HLT.out] at k31; have k9 := HD8.out.a (i := 9) rfl; have kf := HD8.out.fz; have kl := HD8.out.lt; have HD9 := Lib.hid (HD8.out.setE pu); have t11 := HD9.out.a (i := 11) rfl; dsimp only at t11; rw [HRR.out] at t11; have t31 := HD9.out.b (j := 0) rfl; dsimp only at t31; rw [HLT.out] at t31))
        have HK9 := Lib.hid (show Kp [d] w7 (w8.setCell ⟨d, 9, none⟩ (.pointer pu)) from (HK8.out.mono (by simp)).trans (kp_set (by simp) _ _))
        have HKT := Lib.hid (show Kp [d] w8 (w8.setCell ⟨d, 9, none⟩ (.pointer pu)) from kp_set (by simp) _ _)
        clear kf kl k11 k31 k9 s11 s31
        go_upto_region 12 with (fail)
        generalize w8.setCell ⟨d, 9, none⟩ (.pointer pu) = w9 at *
        have HK10 := Lib.hid (HK5.out.trans ((HK7.out.trans HK9.out).mono (by simp)))
        have HO9 := Lib.hid (own_kp HO7.out HK9.out (by simp; exact fun h => hne.1.2.2.2 h.symm))
        obtain ⟨V, hV⟩ : ∃ V, rr[256]? = some V := ⟨_, List.getElem?_eq_getElem (by rw [HRR.out]; omega)⟩
        have hVd : rr.getD 256 0 = V := by rw [List.getD_eq_getElem?_getD, hV]; rfl
        obtain ⟨b9, o9, hA9, hb9, hc9⟩ := ints_at (own_row HO9.out) hV
        injection hA9 with hA9
        injection hA9 with hA9 hA10
        subst hA9 hA10
        rw [Nat.zero_add] at hc9
        have h256 : (256 : Int) < (T : Int) := by omega
        have hl9 := HD9.out.lt
        have HLM2 := Lib.hid (show layM m n x = if newOk (rr.take m.lits) && (newOk (rr.drop m.lits) && decide (V ≠ 0)) then { m with row := rr, lt := rr.take m.lits, ds := rr.drop m.lits, ph := .lit } else stopM { m with row := rr } 12 by rw [HLM.out, if_neg h1, if_neg h2, hVd])
        have HSZ := Lib.hid (show ∀ k ∈ [d, r, p, q, g], k < w5.heap.size from fun k hk => Nat.lt_of_lt_of_le (H.out.lts k hk) HK5.out.size)
        have HSZ2 := Lib.hid (show ∀ k ∈ [d, r, p, q, g], k < w7.heap.size from fun k hk => Nat.lt_of_lt_of_le (HSZ.out k hk) HK7.out.size)
        have HUT := Lib.hid (usesT_of hC)
        clear hV hVd HLM
        by_cases hgood : newOk (rr.take m.lits) = true ∧ newOk (rr.drop m.lits) = true ∧ V ≠ 0
        · obtain ⟨hgA, hgB, hgV⟩ := hgood
          have HGD := Lib.hid (show (newOk (rr.take m.lits) && (newOk (rr.drop m.lits) && decide (V ≠ 0))) = true by rw [hgA, hgB, W.decT hgV]; rfl)
          rw [HLT.out] at hgA hgB
          obtain ⟨rfl, ta, rfl, hTA⟩ := HY1.out hgA
          obtain ⟨rfl, tb, rfl, hTB⟩ := HY2.out hgB
          have HTA := Lib.hid (hTA [d, r, p, q, g] (fun k hk => HSZ.out k hk))
          have HTB := Lib.hid (hTB [d, r, p, q, g] (fun k hk => HSZ2.out k hk))
          have i1 : ((V : Int) == 0) = false := W.eqF (by omega)
          rw [← HLT.out] at HTA HTB
          clear hTA hTB
          go_wp2_with (first
            | (go_at_call 42; go_must (refine (c_then .lit HD9.out).mono ?_); rintro en w10 ⟨rfl, hd10, hk10⟩))
          go_ret
          have hk11 : Kp [d, g] w w10 := HK10.out.trans (hk10.mono (by simp))
          rw [HLM2.out, if_pos HGD.out]
          have hd10' : DB w10 d r p g (some ⟨ta, 0, none⟩) (some ⟨tb, 0, none⟩) c { m with row := rr, lt := rr.take m.lits, ds := rr.drop m.lits, ph := .lit } false 0 := ⟨hd10.cells, hd10.fl⟩
          exact ⟨rfl, H.out.turnR hk11 hd10' ⟨fun _ => ⟨ta, rfl, HTA.out.kept ((HKS.out.trans HK9.out).trans hk10) (fun k hk => .inl (by simp at hk; simp [hk]))⟩, fun _ => ⟨tb, rfl, HTB.out.kept (HKT.out.trans hk10) (fun k hk => .inl (by simp at hk; simp [hk]))⟩, fun h => (by cases h)⟩ (fun h => h) (by dsimp only; rw [HRR.out]; exact own_kp HO9.out hk10 (by simp; exact fun h => hne.1.2.2.2 h.symm)), hk11.mono (by simp)⟩
        · have HBAD := Lib.hid (show layM m n x = stopM { m with row := rr } 12 by
            rw [HLM2.out, if_neg]
            intro h9
            rw [Bool.and_eq_true, Bool.and_eq_true, decide_eq_true_iff] at h9
            exact hgood h9)
          have FIN := Lib.hid (show ∀ w10, DB w10 d r p g pt pu c (stopM { m with row := rr } 12) false 0 → Kp [d] w9 w10 → Inf w10 d r p q g (layM m n x) out bs false 0 ∧ Kp [d, r, p, q, g] w w10 from fun w10 hd10 hk10 => by
            have hk11 : Kp [d, g] w w10 := HK10.out.trans (hk10.mono (by simp))
            rw [HBAD.out]
            exact ⟨H.out.turnR hk11 hd10 ((HT.out.kept hk11 (by simp)).cOnly HUT.out id rfl) (fun h => (by cases h)) (by show w10.ownsRow _ _ _ (.slice _ rr.length _) rr.length (ints rr); rw [HRR.out]; exact own_kp HO9.out hk10 (by simp; exact fun h => hne.1.2.2.2 h.symm)), hk11.mono (by simp)⟩)
          by_cases hV0 : V = 0
          · have i1 : ((V : Int) == 0) = true := W.eqT (by omega)
            clear hV0 hgood
            go_wp2_with (first
              | (go_at_call 47; go_must (refine (c_stop 12 HD9.out).mono ?_); rintro en w10 ⟨rfl, hd10, hk10⟩))
            go_ret
            exact ⟨rfl, FIN.out w10 hd10 hk10⟩
          · have i1 : ((V : Int) == 0) = false := W.eqF (by omega)
            by_cases hgA : newOk (rr.take m.lits) = true
            · have hgB : newOk (rr.drop m.lits) = false := by
                cases h9 : newOk (rr.drop m.lits) with
                | false => rfl
                | true => exact absurd ⟨hgA, h9, hV0⟩ hgood
              rw [HLT.out] at hgA hgB
              have i2 : es ≠ 0 := HO2.out hgB
              obtain ⟨rfl, _⟩ := HY1.out hgA
              have i3 : (es == 0) = false := W.eqF i2
              have i4 : (es != 0) = true := W.neT i2
              clear hgood hgA hgB i2
              go_wp2_with (first
                | (go_at_call 47; go_must (refine (c_stop 12 HD9.out).mono ?_); rintro en w10 ⟨rfl, hd10, hk10⟩))
              go_ret
              exact ⟨rfl, FIN.out w10 hd10 hk10⟩
            · rw [HLT.out] at hgA
              have i2 : er ≠ 0 := HO1.out (by cases h9 : newOk (rr.take Lt) with
                | false => rfl
                | true => exact absurd h9 hgA)
              have i3 : (er == 0) = false := W.eqF i2
              have i4 : (er != 0) = true := W.neT i2
              clear hgood hgA i2
              go_wp2_with (first
                | (go_at_call 47; go_must (refine (c_stop 12 HD9.out).mono ?_); rintro en w10 ⟨rfl, hd10, hk10⟩))
              go_ret
              exact ⟨rfl, FIN.out w10 hd10 hk10⟩
end Go.Proofs.YtjjcemdoefigkaaDoor.Hf
/- The inflater: length, repeat. -/
namespace Go.Proofs.YtjjcemdoefigkaaDoor.Hf
set_option linter.unusedVariables false
set_option linter.unusedSimpArgs false
open Go.RowKit Go.Proofs.YtjjcemdoefigkaaDoor.W

theorem rd_len {lens : List Nat} {bs bs' : List Bool} {sy how : Int} (h : RdRel lens bs sy how bs') :
    (∃ s k : Nat, dec lens bs = .got s k ∧ sy = s ∧ how = 0 ∧ bs' = bs.drop k ∧ s < 16) ∨ (∃ s k : Nat, dec lens bs = .got s k ∧ sy = s ∧ how = 0 ∧ bs' = bs.drop k ∧ 16 ≤ s) ∨
    (dec lens bs = .more ∧ sy = 0 ∧ how = 1 ∧ bs' = bs) ∨ (∃ j, dec lens bs = .bad j ∧ sy = 0 ∧ how = 2 ∧ bs' = bs) := by
  rcases h with ⟨s, k, h1, h2, h3, h4⟩ | h | h
  · rcases Nat.lt_or_ge s 16 with h6 | h6
    · exact .inl ⟨s, k, h1, h2, h3, h4, h6⟩
    · exact .inr (.inl ⟨s, k, h1, h2, h3, h4, h6⟩)
  · exact .inr (.inr (.inl h))
  · exact .inr (.inr (.inr h))
set_option maxHeartbeats 4000000 in
set_option maxRecDepth 100000 in
theorem c_len {w : World} {d r p q g : Nat} {m : M} {out : List Int} {bs : List Bool} (h : Inf w d r p q g m out bs false 0) (h0 : m.why = 0) (hph : m.ph = .len) (hl : bs.length < 64) (hok : Ok m out) :
    Calls Tryd.prog 67 #[.pointer (some ⟨d, 0, none⟩)] w (StepPost w d r p q g m out bs) := by
  obtain ⟨l, e, c, hd, hT⟩ := h.db
  obtain ⟨b0, hr, hb⟩ := h.rd
  obtain rfl := hb h0
  have hne := h.ne
  simp only [List.nodup_cons, List.mem_cons, List.not_mem_nil, or_false, not_or] at hne
  have hdr : d ∉ [r] := by simp; exact hne.1.1
  have hrd : r ∉ [d] := by simp; exact fun h => hne.1.1 h.symm
  have hpr : p ∉ [r] := by simp; exact fun h => hne.2.1.1 h.symm
  have hqr : q ∉ [r] := by simp; exact fun h => hne.2.1.2.1 h.symm
  have hpd : p ∉ [d] := by simp; exact fun h => hne.1.2.1 h.symm
  have hqd : q ∉ [d] := by simp; exact fun h => hne.1.2.2.1 h.symm
  have hrg : r ∉ [d, p, q] := by simp; exact ⟨fun h => hne.1.1 h.symm, hne.2.1.1, hne.2.1.2.1⟩
  have c0 := hd.a (i := 0) rfl
  have hlt := hd.lt
  have H := Lib.hid h
  have HD := Lib.hid hd
  have HT := Lib.hid hT
  have RG := Lib.hid h.rg
  have hC : usesC m.ph = true := by rw [hph]; rfl
  have hlo : LenOk m := by have h9 := hok.ph h0; unfold PhOk at h9; rw [hph] at h9; exact h9
  obtain ⟨tl, rfl, hTL⟩ := hT.c hC
  have c8 := hd.a (i := 10) rfl
  have HSG := Lib.hid (show ∀ s k, dec m.cd b0 = .got s k → step m out b0 = some (lenM m s, [], k) from fun s k h => by unfold step; rw [hph]; dsimp only; rw [h])
  have HSB := Lib.hid (show ∀ j, dec m.cd b0 = .bad j → step m out b0 = none from fun j h => by unfold step; rw [hph]; dsimp only; rw [h])
  have HSM := Lib.hid (show dec m.cd b0 = .more → step m out b0 = none from fun h => by unfold step; rw [hph]; dsimp only; rw [h])
  have CR := Lib.hid (c_read [d, r, p, q, g] tl r m.cd b0 w.drew hlo.tab (hTL.kept (T := []) ((Kp.refl _ _).drew) (by simp)) (hr.kept (S := []) ((Kp.refl _ _).drew) (by simp)) (by simp) hl)
  have HKD := Lib.hid (show Kp [r] w w.drew from (Kp.refl _ _).drew)
  have HLO := Lib.hid hlo
  have HOK := Lib.hid hok
  unfold ReadPost at CR
  obtain ⟨R, hR⟩ : ∃ R, m.row.length = R := ⟨_, rfl⟩
  have HRL := Lib.hid hR
  have hR3 : R ≤ 316 := by have := hok.rowl; omega
  clear h hd hT hr hTL hlo hok
  go_enter Tryd.func67, Tryd.ntmps67
  go_upto_region 1 with (fail)
  go_region_held3 (fun w' => w'.cell? ⟨d, 0, none⟩ = some (.pointer (some ⟨r, 0, none⟩)) ∧ w'.cell? ⟨d, 10, none⟩ = some (.pointer (some ⟨tl, 0, none⟩))) (first | exact ⟨c0, c8⟩ | exact ⟨g0, g8⟩)
    (first
      | (go_at_call 54; go_must (refine CR.out.mono ?_); rintro en w2 ⟨sy, how, b1, rfl, hrel, hr2, hk2⟩; have HR2 := Lib.hid hr2; have HK2 := Lib.hid (show Kp [r] w w2 from HKD.out.trans hk2); have HD2 := Lib.hid (HD.out.kept HK2.out hdr); have HT2 := Lib.hid (HT.out.kept HK2.out (by simp)); have HG2 := Lib.hid (RG.out.kept HK2.out hpr hqr); have gf := HD2.out.fz; have gl := HD2.out.lt; have g34 := HD2.out.b (j := 3) rfl; have g0 := HD2.out.a (i := 0) rfl; have g8 := HD2.out.a (i := 10) rfl; clear hr2 hk2; have HREL := Lib.hid hrel; clear hrel))
  have g11 := HD2.out.a (i := 11) rfl
  rw [hR] at g11
  clear hR
  have hrel := rd_len HREL.out
  rcases hrel with ⟨s, k, hdec, rfl, rfl, rfl, hs⟩ | ⟨s, k, hdec, rfl, rfl, rfl, hs⟩ | ⟨hdec, rfl, rfl, rfl⟩ | ⟨j, hdec, rfl, rfl, rfl⟩
  · have HI2 := Lib.hid (show Inf w2 d r p q g m out (b0.drop k) false 0 from H.out.turn (HK2.out.mono (by simp)) HD2.out HT2.out ⟨_, HR2.out, fun _ => rfl⟩ rfl)
    go_wp2_with (first
      | (go_at_call 70; go_must (refine (c_lay 1 s HI2.out h0 hC HLO.out HOK.out (by omega) (by omega)).mono ?_); rintro en w3 ⟨rfl, hi3, hk3⟩))
    go_ret
    exact hi3.fin (HSG.out s k hdec) (by unfold lenM; rw [if_pos hs]) rfl ((HK2.out.mono (by simp)).trans hk3)
  · by_cases h16 : s = 16 ∧ R = 0
    · have i1 : ((s : Int) == 16) = true := W.eqT (by omega)
      have i2 : ((R : Int) == 0) = true := W.eqT (by omega)
      have H16 := Lib.hid h16
      clear h16
      go_wp2_with (first
        | (go_at_call 47; go_must (refine (c_stop 12 HD2.out).mono ?_); rintro en w3 ⟨rfl, hd3, hk3⟩))
      go_ret
      exact H.out.done (HSG.out s k hdec) (by unfold lenM; rw [if_neg (by omega), HRL.out, if_pos H16.out]) ((HK2.out.mono (by simp)).trans (hk3.mono (by simp))) hd3 ((HT2.out.kept hk3 (by simp)).same id id rfl rfl rfl) (HR2.out.kept hk3 hrd) (fun _ => rfl) rfl
    · have FIN := Lib.hid (show ∀ w3, DB w3 d r p g l e (some ⟨tl, 0, none⟩) { m with sym := s, ph := .rep } false 0 → Kp [d] (w2.setCell ⟨d, 34, none⟩ (.int .i64 (s : Nat))) w3 → StepPost w d r p q g m out b0 (.returned (.bool true)) w3 from fun w3 hd3 hk3 => by
        have hk4 : Kp [d] w2 w3 := (kp_set (by simp) _ _).trans hk3
        exact H.out.done (HSG.out s k hdec) (by unfold lenM; rw [if_neg (by omega), HRL.out, if_neg h16]) ((HK2.out.mono (by simp)).trans (hk4.mono (by simp))) hd3 ((HT2.out.kept hk4 (by simp)).same (fun h => (by cases h)) (fun _ => hC) rfl rfl rfl) (HR2.out.kept hk4 hrd) (fun _ => rfl) rfl)
      by_cases h17 : s = 16
      · have i1 : ((s : Int) == 16) = true := W.eqT (by omega)
        have i2 : ((R : Int) == 0) = false := W.eqF (by omega)
        clear h16 h17
        go_wp2_with (first
          | (go_at_call 42; go_must (refine (c_then .rep (HD2.out.sym s)).mono ?_); rintro en w3 ⟨rfl, hd3, hk3⟩))
        go_ret
        exact FIN.out w3 hd3 hk3
      · have i1 : ((s : Int) == 16) = false := W.eqF (by omega)
        clear h16
        go_wp2_with (first
          | (go_at_call 42; go_must (refine (c_then .rep (HD2.out.sym s)).mono ?_); rintro en w3 ⟨rfl, hd3, hk3⟩))
        go_ret
        exact FIN.out w3 hd3 hk3
  · go_wp2_with (fail)
    go_ret
    exact H.out.wait HK2.out HR2.out (HSM.out hdec)
  · go_wp2_with (fail)
    go_ret
    exact H.out.wait HK2.out HR2.out (HSB.out j hdec)
set_option maxHeartbeats 8000000 in
set_option maxRecDepth 100000 in
theorem c_rep {w : World} {d r p q g : Nat} {m : M} {out : List Int} {bs : List Bool} (h : Inf w d r p q g m out bs false 0) (h0 : m.why = 0) (hph : m.ph = .rep) (hl : bs.length < 64) (hok : Ok m out) :
    Calls Tryd.prog 71 #[.pointer (some ⟨d, 0, none⟩)] w (StepPost w d r p q g m out bs) := by
  obtain ⟨l, e, c, hd, hT⟩ := h.db
  obtain ⟨b0, hr, hb⟩ := h.rd
  obtain rfl := hb h0
  have hne := h.ne
  simp only [List.nodup_cons, List.mem_cons, List.not_mem_nil, or_false, not_or] at hne
  have hdr : d ∉ [r] := by simp; exact hne.1.1
  have hrd : r ∉ [d] := by simp; exact fun h => hne.1.1 h.symm
  have hpr : p ∉ [r] := by simp; exact fun h => hne.2.1.1 h.symm
  have hqr : q ∉ [r] := by simp; exact fun h => hne.2.1.2.1 h.symm
  have hpd : p ∉ [d] := by simp; exact fun h => hne.1.2.1 h.symm
  have hqd : q ∉ [d] := by simp; exact fun h => hne.1.2.2.1 h.symm
  have hrg : r ∉ [d, p, q] := by simp; exact ⟨fun h => hne.1.1 h.symm, hne.2.1.1, hne.2.1.2.1⟩
  have c0 := hd.a (i := 0) rfl
  have hlt := hd.lt
  have H := Lib.hid h
  have HD := Lib.hid hd
  have HT := Lib.hid hT
  have RG := Lib.hid h.rg
  have hC : usesC m.ph = true := by rw [hph]; rfl
  have hpo := hok.ph h0
  unfold PhOk at hpo
  rw [hph] at hpo
  dsimp only at hpo
  obtain ⟨hlo, hsy, hrow0⟩ := hpo
  have HLO := Lib.hid hlo
  have HOK := Lib.hid hok
  have HROW := Lib.hid h.row
  have c34 := hd.b (j := 3) rfl
  have HR := Lib.hid hr
  have hcase : m.sym = 16 ∨ m.sym = 17 ∨ m.sym = 18 := by omega
  have HHH := Lib.hid h
  rcases hcase with hs | hs | hs
  · have en : repMore m.sym = 2 := by unfold repMore; rw [hs]; rfl
    have el : repLeast m.sym = 3 := by unfold repLeast; rw [hs]; rfl
    obtain ⟨R, hR⟩ : ∃ R, m.row.length = R + 1 := ⟨m.row.length - 1, by have := hrow0 hs; omega⟩
    obtain ⟨X, hX⟩ : ∃ X, m.row[R]? = some X := ⟨_, List.getElem?_eq_getElem (by omega)⟩
    have hX15 := hok.row X (List.mem_of_getElem? hX)
    have ex : repX m = X := by unfold repX; rw [if_pos hs, hR, Nat.add_sub_cancel, List.getD_eq_getElem?_getD, hX]; rfl
    have hR3 : R < 320 := by have := hok.rowl; omega
    obtain ⟨b9, o9, hA9, hb9, hc9⟩ := ints_at (own_row h.row) hX
    injection hA9 with hA9
    injection hA9 with hA9 hA10
    subst hA9 hA10
    rw [Nat.zero_add] at hc9
    have c11 := hd.a (i := 11) rfl
    rw [hR] at c11
    rw [hs] at c34
    obtain ⟨ew, ew2, ei, ei0⟩ : IntKind.i64.wrap (R : Int) = (R : Int) ∧ IntKind.i64.wrap (((R + 1 : Nat) : Int) - 1) = (R : Int) ∧ (R : Int) < ((R + 1 : Nat) : Int) ∧ 0 ≤ (R : Int) := by
      refine ⟨IntWalk.i64_in _ (by omega), ?_, by omega, by omega⟩
      rw [IntWalk.i64_in _ (by omega)]; omega
    have ei2 : (R : Int) < (R : Int) + 1 := by omega
    clear h hd hT hr hlo hok hR hX hrow0 hsy hb9 HHH
    go_enter Tryd.func71, Tryd.ntmps71
    go_upto_region 5 with (fail)
    go_quiet (fail)
    clear ew ew2 ei ei0 ei2
    go_upto_region 8 with (fail)
    have HKx := Lib.hid (show Kp [r] w (w.drewN nq) from (Kp.refl _ _).drewN _)
    have HRx := Lib.hid (HR.out.kept (S := []) ((Kp.refl _ w).drewN nq) (by simp))
    have HDx := Lib.hid (HD.out.kept HKx.out hdr)
    generalize w.drewN nq = wx at *
    have c0 := HDx.out.a (i := 0) rfl
    by_cases hle : 2 ≤ b0.length
    · have CT := Lib.hid (take_yes (n := 2) HRx.out hl (by omega) hle)
      have hv := num_take_lt b0 (n := 2)
      obtain ⟨v, hv'⟩ : ∃ v, num (b0.take 2) = v := ⟨_, rfl⟩
      have HS := Lib.hid (show step m out b0 = some (layM m (3 + v) X, [], 2) by unfold step; rw [hph]; dsimp only; rw [en, if_pos hle, el, hv', ex])
      rw [hv'] at CT hv
      have hv2 : v < 128 := by omega
      obtain ⟨U, hU⟩ : ∃ U, 3 + v = U := ⟨_, rfl⟩
      have eU : (3 : Int) + (v : Int) = (U : Int) := by omega
      have hU2 : U ≤ 200 := by omega
      rw [hU] at HS
      clear hv' en el ex hs hU
      go_wp2_with (first
        | (go_at_call 40; go_must (refine CT.out.mono ?_); rintro en w2 ⟨rfl, hr2, hk2⟩; have HR2 := Lib.hid hr2; have HK2 := Lib.hid (show Kp [r] w w2 from HKx.out.trans hk2); have HD2 := Lib.hid (HD.out.kept HK2.out hdr); have HT2 := Lib.hid (HT.out.kept HK2.out (by simp)); have HI2 := Lib.hid (show Inf w2 d r p q g m out (b0.drop 2) false 0 from H.out.turn (HK2.out.mono (by simp)) HD2.out HT2.out ⟨_, HR2.out, fun _ => rfl⟩ rfl); clear hr2 hk2)
        | (go_at_call 70; go_must (refine (c_lay U X HI2.out h0 hC HLO.out HOK.out (by omega) hU2).mono ?_); rintro en w3 ⟨rfl, hi3, hk3⟩))
      go_ret
      exact hi3.fin HS.out rfl rfl ((HK2.out.mono (by simp)).trans hk3)
    · have CT := Lib.hid (take_no (n := 2) HRx.out hl (by omega) hle)
      have HS := Lib.hid (show step m out b0 = none by unfold step; rw [hph]; dsimp only; rw [en, if_neg hle])
      clear en el ex hs
      go_wp2_with (first
        | (go_at_call 40; go_must (refine CT.out.mono ?_); rintro en w2 ⟨rfl, hr2, hk2⟩))
      go_ret
      exact H.out.wait (HKx.out.trans hk2) hr2 HS.out
  · have en : repMore m.sym = 3 := by unfold repMore; rw [hs]; rfl
    have el : repLeast m.sym = 3 := by unfold repLeast; rw [hs]; rfl
    have ex : repX m = 0 := by unfold repX; rw [if_neg (by omega)]
    rw [hs] at c34
    have HKx := Lib.hid (show Kp [r] w w from Kp.refl _ _)
    have HRx := Lib.hid hr
    clear h hd hT hr hlo hok hrow0 hsy HHH
    go_enter Tryd.func71, Tryd.ntmps71
    go_upto_region 8 with (fail)
    by_cases hle : 3 ≤ b0.length
    · have CT := Lib.hid (take_yes (n := 3) HRx.out hl (by omega) hle)
      have hv := num_take_lt b0 (n := 3)
      obtain ⟨v, hv'⟩ : ∃ v, num (b0.take 3) = v := ⟨_, rfl⟩
      have HS := Lib.hid (show step m out b0 = some (layM m (3 + v) 0, [], 3) by unfold step; rw [hph]; dsimp only; rw [en, if_pos hle, el, hv', ex])
      rw [hv'] at CT hv
      have hv2 : v < 128 := by omega
      obtain ⟨U, hU⟩ : ∃ U, 3 + v = U := ⟨_, rfl⟩
      have eU : (3 : Int) + (v : Int) = (U : Int) := by omega
      have hU2 : U ≤ 200 := by omega
      rw [hU] at HS
      clear hv' en el ex hs hU
      go_wp2_with (first
        | (go_at_call 40; go_must (refine CT.out.mono ?_); rintro en w2 ⟨rfl, hr2, hk2⟩; have HR2 := Lib.hid hr2; have HK2 := Lib.hid (show Kp [r] w w2 from HKx.out.trans hk2); have HD2 := Lib.hid (HD.out.kept HK2.out hdr); have HT2 := Lib.hid (HT.out.kept HK2.out (by simp)); have HI2 := Lib.hid (show Inf w2 d r p q g m out (b0.drop 3) false 0 from H.out.turn (HK2.out.mono (by simp)) HD2.out HT2.out ⟨_, HR2.out, fun _ => rfl⟩ rfl); clear hr2 hk2)
        | (go_at_call 70; go_must (refine (c_lay U 0 HI2.out h0 hC HLO.out HOK.out (by omega) hU2).mono ?_); rintro en w3 ⟨rfl, hi3, hk3⟩))
      go_ret
      exact hi3.fin HS.out rfl rfl ((HK2.out.mono (by simp)).trans hk3)
    · have CT := Lib.hid (take_no (n := 3) HRx.out hl (by omega) hle)
      have HS := Lib.hid (show step m out b0 = none by unfold step; rw [hph]; dsimp only; rw [en, if_neg hle])
      clear en el ex hs
      go_wp2_with (first
        | (go_at_call 40; go_must (refine CT.out.mono ?_); rintro en w2 ⟨rfl, hr2, hk2⟩))
      go_ret
      exact H.out.wait (HKx.out.trans hk2) hr2 HS.out
  · have en : repMore m.sym = 7 := by unfold repMore; rw [hs]; rfl
    have el : repLeast m.sym = 11 := by unfold repLeast; rw [hs]; rfl
    have ex : repX m = 0 := by unfold repX; rw [if_neg (by omega)]
    rw [hs] at c34
    have HKx := Lib.hid (show Kp [r] w w from Kp.refl _ _)
    have HRx := Lib.hid hr
    clear h hd hT hr hlo hok hrow0 hsy HHH
    go_enter Tryd.func71, Tryd.ntmps71
    go_upto_region 8 with (fail)
    by_cases hle : 7 ≤ b0.length
    · have CT := Lib.hid (take_yes (n := 7) HRx.out hl (by omega) hle)
      have hv := num_take_lt b0 (n := 7)
      obtain ⟨v, hv'⟩ : ∃ v, num (b0.take 7) = v := ⟨_, rfl⟩
      have HS := Lib.hid (show step m out b0 = some (layM m (11 + v) 0, [], 7) by unfold step; rw [hph]; dsimp only; rw [en, if_pos hle, el, hv', ex])
      rw [hv'] at CT hv
      have hv2 : v < 128 := by omega
      obtain ⟨U, hU⟩ : ∃ U, 11 + v = U := ⟨_, rfl⟩
      have eU : (11 : Int) + (v : Int) = (U : Int) := by omega
      have hU2 : U ≤ 200 := by omega
      rw [hU] at HS
      clear hv' en el ex hs hU
      go_wp2_with (first
        | (go_at_call 40; go_must (refine CT.out.mono ?_); rintro en w2 ⟨rfl, hr2, hk2⟩; have HR2 := Lib.hid hr2; have HK2 := Lib.hid (show Kp [r] w w2 from HKx.out.trans hk2); have HD2 := Lib.hid (HD.out.kept HK2.out hdr); have HT2 := Lib.hid (HT.out.kept HK2.out (by simp)); have HI2 := Lib.hid (show Inf w2 d r p q g m out (b0.drop 7) false 0 from H.out.turn (HK2.out.mono (by simp)) HD2.out HT2.out ⟨_, HR2.out, fun _ => rfl⟩ rfl); clear hr2 hk2)
        | (go_at_call 70; go_must (refine (c_lay U 0 HI2.out h0 hC HLO.out HOK.out (by omega) hU2).mono ?_); rintro en w3 ⟨rfl, hi3, hk3⟩))
      go_ret
      exact hi3.fin HS.out rfl rfl ((HK2.out.mono (by simp)).trans hk3)
    · have CT := Lib.hid (take_no (n := 7) HRx.out hl (by omega) hle)
      have HS := Lib.hid (show step m out b0 = none by unfold step; rw [hph]; dsimp only; rw [en, if_neg hle])
      clear en el ex hs
      go_wp2_with (first
        | (go_at_call 40; go_must (refine CT.out.mono ?_); rintro en w2 ⟨rfl, hr2, hk2⟩))
      go_ret
      exact H.out.wait (HKx.out.trans hk2) hr2 HS.out
end Go.Proofs.YtjjcemdoefigkaaDoor.Hf
