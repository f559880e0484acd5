/- winkleref20: digits, Text. -/
import Derived.Test.YtgjningfpkoooaaDoorOh
import Derived.Deep.RegionLaw
namespace Go.Proofs.YtgjningfpkoooaaDoor.Ro
set_option linter.unusedVariables false
set_option linter.unusedSimpArgs false
open Go.RowKit Go.Proofs.YtgjningfpkoooaaDoor.W

/-- A call of a function as a step of a region that draws. -/
theorem step_fn {P : Program} {w : World} {ops : Array Oper} {o : Oper} {a : Act} {K : Act → World → Prop} {Q : Exit → Act → World → Prop} {X : Prop} {R : Ending → World → Prop} (hgd : o.guard = none) {f : FuncId} (x : Operand) {ts : Array TypeId} {v0 : Value}
    (ho : o.op = .call { callee := .value (.func f), args := #[x], argTypes := ts }) (hv : a.eval x = v0) (hent : ∀ w, (callFunc f #[v0]).run P w = .ok (.enter f #[v0]) w) (hc : Calls P f #[v0] w R) (h : ∀ e w', R e w' → ∃ v, e = .returned v ∧ K (a.put o.dst v) w') :
    if Region.wanted o (yielded ops a.tmps) = true then Oper.wp P o a w K Q else X := by
  have hw : Region.wanted o (yielded ops a.tmps) = true := by simp [Region.wanted, hgd]
  rw [if_pos hw]
  have he : (execOp a.eval o).run P w = .ok (.enter f #[v0]) w := by
    have e : a.eval (.func f) = .func (.func f) #[] #[] := rfl
    unfold execOp
    simp [ho, resolve, invoke, Deferred.ofValue, e, hv, hent]
  unfold Oper.wp
  rw [he, Oper.upon_enter]
  refine hc.mono fun e w' hr => ?_
  obtain ⟨v, rfl, hk⟩ := h e w' hr
  exact hk

theorem el8 : El Tryd.prog 48 5 (.int .u8 0) 1 := ⟨Tryd.underlying48, by kernel_rfl, rfl⟩
theorem ba_app (a b : List UInt8) : (⟨a.toArray⟩ : ByteArray) ++ ⟨b.toArray⟩ = ⟨(a ++ b).toArray⟩ := by
  apply ByteArray.ext
  simp
theorem ba_app1 (a : List UInt8) (x : UInt8) : (⟨a.toArray⟩ : ByteArray) ++ ⟨#[x]⟩ = ⟨(a ++ [x]).toArray⟩ := ba_app a [x]
set_option maxHeartbeats 4000000 in
set_option maxRecDepth 100000 in
theorem c_digits : ∀ (n : Nat), n ≤ 2147483647 → ∀ w : World, Calls Tryd.prog 35 #[.int .i64 (n : Nat)] w (StrIs w (Lib.decDigits n)) := by
  intro n
  induction n using Nat.strongRecOn with
  | _ n ih =>
    intro hn w
    obtain ⟨r, hr⟩ : ∃ r, n % 10 = r := ⟨_, rfl⟩
    have hm : (n : Int) % 10 = (r : Int) := by omega
    have hr10 : r < 10 := by omega
    obtain ⟨T, hT⟩ : ∃ T, 48 + r = T := ⟨_, rfl⟩
    have hadd : (48 : Int) + (r : Int) = (T : Int) := by omega
    have hTb : T < 58 := by omega
    obtain ⟨q, hq⟩ : ∃ q, n / 10 = q := ⟨_, rfl⟩
    have hqi : (n : Int) / 10 = (q : Int) := by omega
    have HR := Lib.hid hr
    have HT := Lib.hid hT
    have HQ := Lib.hid hq
    have hcv : ∀ W1 : World, W1.cell? ⟨w.heap.size, 0, none⟩ = some (.int .u8 (T : Nat)) → (convert 48 9 (.slice (some ⟨w.heap.size, 0, none⟩) 1 1)).run Tryd.prog W1 = .ok (.string ⟨[UInt8.ofNat T].toArray⟩) W1 := fun W1 h1 => by
      exact run_convert_bytes_back (P := Tryd.prog) W1 48 9 5 ⟨w.heap.size, 0, none⟩ 1 [UInt8.ofNat T] Tryd.underlying48 Tryd.underlying5 Tryd.underlying9 (fun j hj => by
        have : j = 0 := by simpa using hj
        subst this
        rw [Lib.add_plain]
        simp only [List.getElem_cons_zero]
        rw [← hT, digit_toNat hr10, hT]
        exact h1)
    have hcv1 := hcv (w.alloc (.cells #[.int .u8 (T : Nat)] 5)) (by simp)
    have HB1 := Lib.hid (show Below w.heap.size w (w.alloc (.cells #[.int .u8 (T : Nat)] 5)) from (Below.refl _ _).alloc (Nat.le_refl _) _)
    clear hcv hr hT hq
    by_cases h10 : n < 10
    · have hni : (n : Int) < 10 := by omega
      have HN := Lib.hid h10
      clear h10 ih
      go_enter Tryd.func35, Tryd.ntmps35
      go_wp2_with (fail)
      go_ret
      refine ⟨?_, HB1.out⟩
      have hd : Lib.decDigits n = [UInt8.ofNat T] := by rw [dec_step, if_pos HN.out, ← HT.out, ← HR.out, Nat.mod_eq_of_lt HN.out]
      rw [hd]
      rfl
    · have hni : ¬ (n : Int) < 10 := by omega
      have HN := Lib.hid h10
      have C := Lib.hid (ih q (by have := HQ.out; omega) (by have := HQ.out; omega) (w.alloc (.cells #[.int .u8 (T : Nat)] 5)))
      clear h10 ih
      go_enter Tryd.func35, Tryd.ntmps35
      go_wp2_with (first
        | (go_at_call 35; go_must (refine C.out.mono ?_); rintro e w2 ⟨rfl, hb2⟩; have HB2 := Lib.hid (HB1.out.trans (hb2.mono HB1.out.size)); clear hb2; have hl10 := dec_len10 (u := q) (by have := HQ.out; show q ≤ 2147483647; omega)))
      rw [ba_app1]
      go_ret
      refine ⟨?_, HB2.out⟩
      have hd : Lib.decDigits n = Lib.decDigits q ++ [UInt8.ofNat T] := by rw [dec_step, if_neg HN.out, ← HT.out, ← HR.out, ← HQ.out]
      rw [hd]
      rfl
theorem step_ap {P : Program} {w : World} {t e : TypeId} {z : Value} {bytes : Nat} (E : El P t e z bytes) {ops : Array Oper} {o : Oper} {a : Act} {K : Act → World → Prop} {Q : Exit → Act → World → Prop} {X : Prop} (hgd : o.guard = none) (s x : Operand)
    (ho : o.op = .call { callee := .builtin .append, args := #[s, x], argTypes := #[t, t] })
    {base : Nat} {v : Value} {n : Nat} {xs : List Value} (hs : a.eval s = v) (hown : w.ownsRow base e 1 v n xs)
    {A : Option Addr} {m c : Nat} {news : List Value} (hx : a.eval x = .slice A m c) (hl : news.length = m) (hr : RV w A news) (h1 : ∀ u ∈ news, u.oneCell' = true) (h63 : n + m ≤ maxLen) (hb : (n + m) * bytes ≤ 140737488355328) (hbase : base ≤ w.heap.size)
    (h : ∀ A' c' w', w'.ownsRow base e 1 (.slice A' (n + m) c') (n + m) (xs ++ news) → w.grownBy w' v.ownBlock →
      ((Value.slice A' (n + m) c').ownBlock = v.ownBlock ∨ (Value.slice A' (n + m) c').ownBlock = some w.heap.size) → n + m ≤ c' → K (a.put o.dst (.slice A' (n + m) c')) w') :
    if Region.wanted o (yielded ops a.tmps) = true then Oper.wp P o a w K Q else X := by
  have hw : Region.wanted o (yielded ops a.tmps) = true := by simp [Region.wanted, hgd]
  rw [if_pos hw]
  exact wp_ap E s x ho hs hown hx hl hr h1 h63 hb hbase h
theorem step_aps {P : Program} {w : World} {t u e : TypeId} (E : El P t e (.int .u8 0) 1) (hu : P.underlying u = some .string) {ops : Array Oper} {o : Oper} {a : Act} {K : Act → World → Prop} {Q : Exit → Act → World → Prop} {X : Prop} (hgd : o.guard = none) (sl x : Operand)
    (ho : o.op = .call { callee := .builtin .append, args := #[sl, x], argTypes := #[t, u] })
    {base : Nat} {v : Value} {n : Nat} {l : List Int} (hs : a.eval sl = v) (hown : w.ownsRow base e 1 v n (u8s l)) (s : ByteArray) (hx : a.eval x = .string s)
    (h63 : n + s.size ≤ maxLen) (hb : n + s.size ≤ 140737488355328) (hbase : base ≤ w.heap.size)
    (h : ∀ A' c' w', w'.ownsRow base e 1 (.slice A' (n + s.size) c') (n + s.size) (u8s (l ++ strL s)) → w.grownBy w' v.ownBlock →
      ((Value.slice A' (n + s.size) c').ownBlock = v.ownBlock ∨ (Value.slice A' (n + s.size) c').ownBlock = some w.heap.size) → n + s.size ≤ c' → K (a.put o.dst (.slice A' (n + s.size) c')) w') :
    if Region.wanted o (yielded ops a.tmps) = true then Oper.wp P o a w K Q else X := by
  have hw : Region.wanted o (yielded ops a.tmps) = true := by simp [Region.wanted, hgd]
  rw [if_pos hw]
  obtain ⟨A', c', w', hr, h2, h3, h4, h5⟩ := run_aps E hu o.type hown s h63 hb hbase
  unfold Oper.wp execOp
  simp only [ho, resolve, invoke, builtin, Sem.run_bind, Sem.run_pure, Result.andThen_ok, List.map_toArray, List.map_cons, List.map_nil, hs, hx, hr]
  exact h A' c' w' h2 h3 h4 h5
def bi (l : List UInt8) : List Int := l.map fun b => (b.toNat : Int)
theorem bi_cells (l : List UInt8) : Lib.byteCells l = u8s (bi l) := by unfold bi u8s Lib.byteCells; rw [List.map_map]; rfl
theorem bi_app (l r : List UInt8) : u8s (bi (l ++ r)) = u8s (bi l ++ strL ⟨r.toArray⟩) := by
  unfold u8s bi
  rw [List.map_append]
  rfl
theorem own_heap {w w' : World} {base n : Nat} {e : TypeId} {v : Value} {xs : List Value} (h : w.ownsRow base e 1 v n xs) (he : w'.heap = w.heap) : w'.ownsRow base e 1 v n xs := own_same h fun k hk => by rw [he]
theorem bel_heap {B : Nat} {a w w' : World} (h : Below B a w) (he : w'.heap = w.heap) (h1 : w'.os = w.os) (h2 : w'.tape = w.tape) (h3 : w'.output = w.output) : Below B a w' :=
  ⟨h1.trans h.os, h2.trans h.tape, h3.trans h.output, by rw [he]; exact h.size, fun k hk => by rw [he]; exact h.block k hk⟩
theorem rv_heap {w w' : World} {A : Option Addr} {vs : List Value} (h : RV w A vs) (he : w'.heap = w.heap) : RV w' A vs := h.kept (by rw [he]; exact Nat.le_refl _) fun _ _ _ => by rw [he]
theorem bi_snoc (l : List UInt8) : u8s (bi (l ++ [47])) = u8s (bi l) ++ [Value.int .u8 47] := by unfold u8s bi; rw [List.map_append, List.map_append]; rfl
set_option maxRecDepth 100000 in
theorem conv_own {w : World} {base : Nat} {A : Option Addr} {n c : Nat} {l : List UInt8} (h : w.ownsRow base 5 1 (.slice A n c) n (Lib.byteCells l)) : (convert 48 9 (.slice A n c)).run Tryd.prog w = .ok (.string ⟨l.toArray⟩) w := by
  have hl : l.length = n := by have := h.1; rw [cells_len] at this; omega
  rcases h.2 with ⟨hv, h0⟩ | ⟨g, cap, cur, hv, _⟩
  · have h1 : l = [] := List.eq_nil_of_length_eq_zero (by omega)
    subst h1
    injection hv with h2 h3 h4
    subst h2 h3 h4
    rw [run_convert_bytes_string w 48 9 5 none 0 0 Tryd.underlying48 Tryd.underlying5 Tryd.underlying9]
    rfl
  · injection hv with h2 h3 h4
    subst h2 h4
    have hb := run_convert_bytes_back (P := Tryd.prog) w 48 9 5 ⟨g, 0, none⟩ c l Tryd.underlying48 Tryd.underlying5 Tryd.underlying9 (fun j hj => by
      rw [Lib.add_plain, Nat.zero_add]
      exact own_elem h (by simp [Lib.byteCells, hj]))
    rw [hl] at hb
    exact hb
set_option maxHeartbeats 8000000 in
set_option maxRecDepth 100000 in
theorem r_text (A : Option Addr) (L c : Nat) (l : List Int) (w : World) (hL : l.length = L) (hL2 : L ≤ 1000000000000) (hr : RV w A (is64 l)) :
    Calls Tryd.prog 13 #[.slice A L c] w (TextIs w l) := by
  have HL := Lib.hid hL
  have HR := Lib.hid hr
  clear hL hr
  by_cases hL0 : L = 0
  · have hl0 : l = [] := List.eq_nil_of_length_eq_zero (by rw [HL.out, hL0])
    have iL : ((L : Int) == 0) = true := W.eqT (by omega)
    have HT := Lib.hid hl0
    clear hl0
    go_enter Tryd.func13, Tryd.ntmps13
    go_wp2_with (fail)
    go_ret2
    refine ⟨?_, Below.refl _ _⟩
    rw [HT.out]
    rfl
  · have hl0 : l ≠ [] := fun h => hL0 (by rw [← HL.out, h]; rfl)
    have HNE := Lib.hid hl0
    have iL : ((L : Int) == 0) = false := W.eqF (by omega)
    clear hl0 hL0
    have CD := Lib.hid c_digits
    go_enter Tryd.func13, Tryd.ntmps13
    go_upto_block 0 with (fail)
    go_cut [4] (fun s4 wz => ∃ (A4 : Option Addr) (n4 c4 : Nat), s4 = .slice A4 n4 c4 ∧ Hid (wz.ownsRow w.heap.size 5 1 (.slice A4 n4 c4) n4 (Lib.byteCells (preT l)) ∧ Below w.heap.size w wz ∧ (∀ n ∈ l, 0 ≤ n ∧ n ≤ 2147483647)))
    case first =>
      go_wp2_with (fail)
      go_loopg [4, 5] L (fun g s4 s5 wx => ∃ (i : Nat) (A4 : Option Addr) (n4 c4 : Nat), i + g = L ∧ s5 = .int .i64 (i : Nat) ∧ s4 = .slice A4 n4 c4 ∧ Hid (wx.ownsRow w.heap.size 5 1 (.slice A4 n4 c4) n4 (Lib.byteCells (preT (l.take i))) ∧ Below w.heap.size w wx ∧ (∀ n ∈ l.take i, 0 ≤ n ∧ n ≤ 2147483647)))
      case atStart => exact ⟨0, none, 0, 0, by omega, rfl, rfl, Lib.hid ⟨World.ownsRow_nil _ _ _ _, Below.refl _ _, fun n hn => by rw [List.take_zero] at hn; cases hn⟩⟩
      case round =>
        obtain ⟨i, A4, n4, c4, hig, rfl, rfl, hst⟩ := hrel
        cases gk with
        | zero =>
          obtain rfl : i = L := by omega
          have hk : ¬ (i : Int) < (i : Int) := by omega
          go_wp2_with (fail)
          go_meet
          have h9 := hst.out
          rw [← HL.out, List.take_length] at h9
          exact ⟨A4, n4, c4, rfl, Lib.hid h9⟩
        | succ g =>
          have hk : (i : Int) < (L : Int) := by omega
          have hk0 : (0 : Int) ≤ (i : Int) := by omega
          obtain ⟨x, hx⟩ : ∃ x, l[i]? = some x := ⟨_, List.getElem?_eq_getElem (by rw [HL.out]; omega)⟩
          obtain ⟨gb, off, rfl, hlt, c00⟩ := HR.out i (.int .i64 x) (by unfold is64; rw [List.getElem?_map, hx]; rfl)
          have HCE := Lib.hid (show ∀ wx, Below w.heap.size w wx → wx.cell? ⟨gb, off + i, none⟩ = some (.int .i64 x) from fun wx hb => (hb.cell (show (⟨gb, off + i, none⟩ : Addr).block < w.heap.size from hlt)).trans c00)
          have c0 := HCE.out wr hst.out.2.1
          have HX := Lib.hid hx
          clear hx c00
          by_cases hx0 : x < 0
          · have HBAD := Lib.hid (show okP l = false from by
              cases ho : okP l with
              | false => rfl
              | true => have := ((okP_iff l).1 ho) x (List.mem_of_getElem? HX.out); omega)
            go_wp2_with (fail)
            go_ret2
            refine ⟨?_, hst.out.2.1⟩
            unfold textP
            rw [HBAD.out]
            rfl
          · by_cases hx1 : x > 2147483647
            · have HBAD := Lib.hid (show okP l = false from by
                cases ho : okP l with
                | false => rfl
                | true => have := ((okP_iff l).1 ho) x (List.mem_of_getElem? HX.out); omega)
              go_wp2_with (fail)
              go_ret2
              refine ⟨?_, hst.out.2.1⟩
              unfold textP
              rw [HBAD.out]
              rfl
            · obtain ⟨u, rfl⟩ : ∃ u : Nat, x = (u : Int) := ⟨x.toNat, by omega⟩
              have hu : u ≤ 2147483647 := by omega
              go_upto_region 9 with (fail)
              have HO0 := Lib.hid (show wr.ownsRow w.heap.size 5 1 (.slice A4 n4 c4) n4 (u8s (bi (preT (l.take i)))) by rw [← bi_cells]; exact hst.out.1)
              have HPL := Lib.hid (show n4 ≤ 11 * 1000000000000 by
                have h1 := preT_len _ hst.out.2.2
                have h2 : (l.take i).length ≤ L := by rw [List.length_take, HL.out]; omega
                have h3 := hst.out.1.1
                rw [cells_len] at h3
                omega)
              have HB0 := Lib.hid hst.out.2.1
              have hz0 : w.heap.size ≤ wr.heap.size := HB0.out.size
              have hen : ∀ vs w, (callFunc 35 vs).run Tryd.prog w = .ok (.enter 35 vs) w := enters_of Tryd.func35 (by kernel_rfl) rfl
              have hone : ∀ z ∈ [Value.int .u8 47], z.oneCell' = true := fun z hz => by rw [List.mem_singleton.1 hz]; rfl
              have h63 : n4 + 1 ≤ maxLen := by have := HPL.out; unfold maxLen; omega
              have hbb : (n4 + 1) * 1 ≤ 140737488355328 := by have := HPL.out; omega
              have h63b : n4 + 1 + (⟨(Lib.decDigits u).toArray⟩ : ByteArray).size ≤ maxLen := by have := HPL.out; rw [size_str]; have := dec_len10 (u := u) hu; unfold maxLen; omega
              have hbbb : n4 + 1 + (⟨(Lib.decDigits u).toArray⟩ : ByteArray).size ≤ 140737488355328 := by have := HPL.out; rw [size_str]; have := dec_len10 (u := u) hu; omega
              have hz1 : w.heap.size ≤ (wr.alloc (.cells #[.int .u8 47] 5)).drew.heap.size := Nat.le_trans hz0 (by show wr.heap.size ≤ (wr.alloc (.cells #[.int .u8 47] 5)).heap.size; simp)
              have t1 := own_heap (w' := (wr.alloc (.cells #[.int .u8 47] 5)).drew) (HO0.out.alloc (.cells #[.int .u8 47] 5)) rfl
              have t2 := rv_heap (w' := (wr.alloc (.cells #[.int .u8 47] 5)).drew) (RV.new (w := wr) #[Value.int .u8 47] 5) rfl
              have c1 : (wr.alloc (.cells #[.int .u8 47] 5)).cell? ⟨gb, off + i, none⟩ = some (.int .i64 (u : Nat)) := HCE.out _ (HB0.out.alloc hz0 (.cells #[.int .u8 47] 5))
              have t5 : Below w.heap.size w (wr.alloc (.cells #[.int .u8 47] 5)).drew := bel_heap (HB0.out.alloc hz0 (.cells #[.int .u8 47] 5)) rfl rfl rfl rfl
              go_region_law (first
                | (refine step_ap (P := Tryd.prog) (t := 48) (e := 5) (z := .int .u8 0) (bytes := 1) el8 rfl (.tmp 27) (.tmp 28) rfl rfl t1 rfl rfl t2 hone h63 hbb hz1 ?_; intro A2 c2 w2 hown2 hgrow2 _ _; have HO2 := Lib.hid hown2; have HB2 := Lib.hid (t5.grown hgrow2 hz1 (fun k hk => (HO0.out.lt k hk).1)); have hc2 := HCE.out w2 HB2.out; clear hown2 hgrow2)
                | (refine step_aps (P := Tryd.prog) (t := 48) (u := 9) (e := 5) el8 Tryd.underlying9 rfl (.tmp 29) (.tmp 34) rfl rfl (l := bi (preT (l.take i) ++ [47])) t3 _ rfl h63b hbbb t4 ?_; intro A5 c5 w5 hown5 hgrow5 _ _; have HO5 := Lib.hid hown5; have HB5 := Lib.hid (HBF.out.grown hgrow5 HBF.out.size (fun k hk => (HOF.out.lt k hk).1)); clear hown5 hgrow5)
                | (refine step_fn (P := Tryd.prog) (f := 35) (v0 := .int .i64 (u : Nat)) rfl (.tmp 33) rfl rfl (hen _) (CD.out u hu _) ?_; rintro e w3 ⟨rfl, hb3⟩; refine ⟨_, rfl, ?_⟩; have HOF := Lib.hid (show w3.ownsRow w.heap.size 5 1 (.slice A2 (n4 + 1) c2) (n4 + 1) (u8s (bi (preT (l.take i) ++ [47]))) from by rw [bi_snoc]; exact own_below (own_heap HO2.out rfl) hb3); have HBF := Lib.hid ((bel_heap HB2.out rfl rfl rfl rfl).trans (hb3.mono HB2.out.size)); have t3 := HOF.out; have t4 := HBF.out.size))
              all_goals go_wp2_with (fail)
              all_goals go_roundg g
              all_goals first
                | omega
                | (refine ⟨i + 1, A5, _, c5, by omega, by go_num, rfl, Lib.hid ⟨?_, HB5.out, fun n hn => ?_⟩⟩
                   · have h9 := HO5.out
                     rw [← bi_app] at h9
                     rw [preT_take HX.out, bi_cells]
                     exact h9
                   · obtain ⟨q1, q2⟩ := List.getElem?_eq_some_iff.1 HX.out
                     rw [List.take_succ_eq_append_getElem q1, q2] at hn
                     rcases List.mem_append.1 hn with h | h
                     · exact hst.out.2.2 n h
                     · rw [List.mem_singleton.1 h]; omega)
    case rest =>
      obtain ⟨A4, n4, c4, rfl, hst⟩ := hcut
      have HT := Lib.hid (show preT l = textP l by rw [textP_pre hst.out.2.2, if_neg HNE.out])
      have HOK := Lib.hid (show okP l = true from (okP_iff l).2 hst.out.2.2)
      have hcv : (convert 48 9 (.slice A4 n4 c4)).run Tryd.prog wc = .ok (.string ⟨(preT l).toArray⟩) wc := conv_own hst.out.1
      go_wp2_with (fail)
      go_ret2
      refine ⟨?_, hst.out.2.1⟩
      rw [HOK.out, ← HT.out]
      rfl
end Go.Proofs.YtgjningfpkoooaaDoor.Ro
