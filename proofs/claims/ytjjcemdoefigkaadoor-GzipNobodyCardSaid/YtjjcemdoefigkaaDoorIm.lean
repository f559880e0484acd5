/- The making of a table: the walk of New. -/
import Derived.Test.YtjjcemdoefigkaaDoorIl
namespace Go.Proofs.YtjjcemdoefigkaaDoor.Hf
set_option linter.unusedVariables false
set_option linter.unusedSimpArgs false
open Go.RowKit Go.Proofs.YtjjcemdoefigkaaDoor.W

set_option maxHeartbeats 8000000 in
set_option maxRecDepth 100000 in
theorem c_new (A : Option Addr) (L c : Nat) (ls : List Nat) (w : World) (hL : ls.length = L) (hl : L ≤ 320) (hle : ∀ n ∈ ls, n ≤ 15) (hr : RV w A (ints ls)) :
    Calls Tryd.prog 53 #[.slice A L c] w (NewPost2 w ls) := by
  have cK := c_kraft A L c ls w hL hl hle hr
  unfold KraftPost at cK
  have CK := Lib.hid cK
  have HLE := Lib.hid hle
  have HR := Lib.hid hr
  have HL := Lib.hid hL
  have hl2 : (L : Int) ≤ 320 := by omega
  obtain ⟨ti, hti, htz, hts, htb⟩ := info_parts codeI
  have hmk := run_make (P := Tryd.prog) (w.alloc (.map #[] 0)) 79 84 ti _ codeE hti htz .i64 .i64 L L (by omega) (by omega) (by rw [htb]; omega) (by omega)
  rw [hts] at hmk
  simp only [Int.toNat_natCast] at hmk
  obtain ⟨cs0, hcs0⟩ : ∃ cs0, madeCells (Value.agg #[.int .i64 0, .int .u32 0]).cells (L * 2) = cs0 := ⟨_, rfl⟩
  have HCS := Lib.hid (show cs0.size = L * 2 by rw [← hcs0, size_madeCells])
  rw [hcs0] at hmk
  have hmm := run_makeMap (P := Tryd.prog) 78 w
  clear hle hr hL cK hti htz hts htb hcs0
  go_enter Tryd.func53, Tryd.ntmps53
  go_upto_block 0 with (first
    | (go_at_call 61; go_must (refine CK.out.mono ?_); rintro e w2 ⟨rfl, rfl⟩))
  obtain ⟨b, hb⟩ : ∃ b, w.heap.size = b := ⟨_, rfl⟩
  have HNW := Lib.hid (show Nw w (((w.alloc (Obj.map #[] 0)).alloc (Obj.cells cs0 84)).alloc
      (Obj.cells (tabC (.slice (some ⟨b + 1, 0, none⟩) L L) (.map (some b)) z17 z17).toArray 82)) (b + 1 + 1) (b + 1) b L z17 z17 [] from by
    subst hb
    have s1 : (w.alloc (Obj.map #[] 0)).heap.size = w.heap.size + 1 := by simp
    have s2 : ((w.alloc (Obj.map #[] 0)).alloc (Obj.cells cs0 84)).heap.size = w.heap.size + 1 + 1 := by simp
    have k1 : Kp [] w (w.alloc (Obj.map #[] 0)) := (Kp.refl _ _).alloc _
    have k2 : Kp [] (w.alloc (Obj.map #[] 0)) ((w.alloc (Obj.map #[] 0)).alloc (Obj.cells cs0 84)) := (Kp.refl _ _).alloc _
    have k3 := (Kp.refl [] ((w.alloc (Obj.map #[] 0)).alloc (Obj.cells cs0 84))).alloc (Obj.cells (tabC (.slice (some ⟨w.heap.size + 1, 0, none⟩) L L) (.map (some w.heap.size)) z17 z17).toArray 82)
    refine ⟨?_, ⟨cs0, ?_, HCS.out⟩, ?_, (k1.trans k2).trans k3, rfl, rfl, by omega, by omega, by omega, by omega, by omega, by omega⟩
    · have := heap_alloc_new ((w.alloc (Obj.map #[] 0)).alloc (Obj.cells cs0 84)) (Obj.cells (tabC (.slice (some ⟨w.heap.size + 1, 0, none⟩) L L) (.map (some w.heap.size)) z17 z17).toArray 82)
      rw [s2] at this
      exact this
    · have := heap_alloc_new (w.alloc (Obj.map #[] 0)) (Obj.cells cs0 84)
      rw [s1] at this
      exact (k3.block _ (by omega) (by simp)).trans this
    · exact ((Ms.made w).kept k2 (by simp)).kept k3 (by simp))
  change Code.wp _ _ _ _ (((w.alloc (Obj.map #[] 0)).alloc (Obj.cells cs0 84)).alloc
      (Obj.cells (tabC (.slice (some ⟨w.heap.size + 1, 0, none⟩) L L) (.map (some w.heap.size)) z17 z17).toArray 82))
  rw [hb]
  generalize ((w.alloc (Obj.map #[] 0)).alloc (Obj.cells cs0 84)).alloc
      (Obj.cells (tabC (.slice (some ⟨b + 1, 0, none⟩) L L) (.map (some b)) z17 z17).toArray 82) = w1 at *
  clear hmk hmm HCS
  generalize b + 1 + 1 = t at *
  generalize b + 1 = g at *
  go_cut [7] (fun s7 wz => s7 = .int .i64 (usedN ls : Nat) ∧ Nw w wz t g b L z17 (cntL ls) [])
  case first =>
    as_aux_lemma =>
      go_wp2_with (fail)
      go_loopg [7, 29] L (fun g' s7 s29 wx => ∃ k : Nat, k + g' = L ∧ s29 = .int .i64 k ∧ s7 = .int .i64 (usedN (ls.take k) : Nat) ∧ Nw w wx t g b L z17 (cntL (ls.take k)) [])
      case atStart => exact ⟨0, by omega, rfl, rfl, by rw [cntL_zero]; exact HNW.out⟩
      case round =>
        obtain ⟨k, hkg, rfl, rfl, HN⟩ := hrel
        have HN := Lib.hid HN
        cases gk with
        | zero =>
          obtain rfl : k = L := by omega
          have hk : ¬ (k : Int) < (k : Int) := by omega
          have HTK := Lib.hid (show ls.take k = ls from List.take_of_length_le (by rw [HL.out]; exact Nat.le_refl _))
          go_wp2_with (fail)
          go_meet
          rw [HTK.out]
          exact ⟨rfl, by have := HN.out; rw [HTK.out] at this; exact this⟩
        | succ g' =>
          have hk : (k : Int) < (L : Int) := by omega
          obtain ⟨n, hn⟩ : ∃ n, ls[k]? = some n := ⟨_, List.getElem?_eq_getElem (by rw [HL.out]; omega)⟩
          have hn15 := HLE.out n (List.mem_of_getElem? hn)
          obtain ⟨bA, off, rfl, hbA, hcA⟩ := ints_at (show RV wr A (ints ls) from HR.out.kept HN.out.kp.size (fun ad hA hlt => HN.out.kp.block _ hlt (by simp))) hn
          have HS := Lib.hid (cntL_set hn)
          have HU := Lib.hid (usedN_snoc hn)
          have hu := usedN_le (ls.take k)
          have hul : usedN (ls.take k) ≤ L := by rw [List.length_take] at hu; omega
          have hct := cnt_le (ls.take k) n
          have hcl : cnt (ls.take k) n ≤ L := by rw [List.length_take] at hct; omega
          have HGC := Lib.hid (cntL_get (ls.take k) (i := n) (by omega))
          have HSK := Lib.hid (cntL_skip hn)
          clear hn hu hct
          by_cases h0 : 0 < n
          · have h0i : (0 : Int) < (n : Int) := by omega
            have hi15 : (n : Int) ≤ 15 := by omega
            have hi17 : (n : Int) < 17 := by omega
            have hcc := HN.out.cC HGC.out
            have hfz := HN.out.fz
            have hlt := HN.out.lt
            generalize usedN (ls.take k) = U at *
            generalize cnt (ls.take k) n = V at *
            go_upto_region 11 with (fail)
            go_still_tail 10, (by kernel_rfl)
            change wpList _ _ _ _ _ wr.drew
            have HD := Lib.hid HN.out.drew
            have hcc2 : wr.drew.cell? ⟨t, 19 + n, none⟩ = some (.int .i64 (V : Nat)) := hcc
            have hfz2 : ∀ i, wr.drew.frozen? ⟨t, i, none⟩ = false := hfz
            have hlt2 : t < wr.drew.heap.size := hlt
            generalize wr.drew = wd at *
            clear hcc hfz hlt HN
            go_wp2_with (fail)
            go_roundg g'
            case measure => omega
            case rel =>
              refine ⟨k + 1, by omega, by go_num, by rw [HU.out, if_pos h0]; go_num, ?_⟩
              have := HD.out.setC (i := n) (V + 1)
              rw [HS.out h0] at this
              exact this
          · obtain rfl : n = 0 := by omega
            go_wp2_with (fail)
            go_roundg g'
            case measure => omega
            case rel => 
              refine ⟨k + 1, by omega, by go_num, by rw [HU.out, if_neg h0]; rfl, ?_⟩
              rw [HSK.out trivial]
              exact HN.out
  case rest =>
    obtain ⟨rfl, HN⟩ := hcut
    have HN1 := Lib.hid HN
    have HU := Lib.hid (usedN_le ls)
    have HC1 := Lib.hid (cnt_le ls 1)
    have hc1 := HN.cC (cntL_get ls (i := 1) (by omega))
    have hlt := HN.lt
    have HNEW := Lib.hid (show newOk ls = (decide (kraft ls ≤ 32768) && !(decide (kraft ls < 32768) && (decide (0 < usedN ls) && !(decide (usedN ls = 1) && decide (cnt ls 1 = 1))))) from rfl)
    have HKP := Lib.hid HN.kp
    clear HN HNW CK
    generalize kraft ls = K at *
    generalize usedN ls = U at *
    generalize cnt ls 1 = V at *
    go_upto_block 2 with (fail)
    go_cut [7] (fun _ wz => newOk ls = true ∧ wc = wz)
    case first =>
      as_aux_lemma =>
        have hc20 : wc.cell? ⟨t, 20, none⟩ = some (.int .i64 (V : Nat)) := hc1
        by_cases k1 : 32768 < K
        · have i1 : (32768 : Int) < (K : Int) := by omega
          go_wp2_with (fail)
          go_ret2
          exact .inr ⟨by rw [HNEW.out]; simp; omega, 80, rfl, by decide, HKP.out⟩
        · have i1 : ¬ (32768 : Int) < (K : Int) := by omega
          by_cases k2 : K < 32768
          · have i2 : (K : Int) < 32768 := by omega
            by_cases u0 : 0 < U
            · have i3 : (0 : Int) < (U : Int) := by omega
              by_cases u1 : U = 1
              · have i4 : ((U : Int) == 1) = true := W.eqT (by omega)
                by_cases v1 : V = 1
                · have i5 : ((V : Int) == 1) = true := W.eqT (by omega)
                  go_wp2_with (fail)
                  go_meet
                  exact ⟨by rw [HNEW.out]; simp; omega, rfl⟩
                · have i5 : ((V : Int) == 1) = false := W.eqF (by omega)
                  go_wp2_with (fail)
                  go_ret2
                  exact .inr ⟨by rw [HNEW.out]; simp; omega, 81, rfl, by decide, HKP.out⟩
              · have i4 : ((U : Int) == 1) = false := W.eqF (by omega)
                go_wp2_with (fail)
                go_ret2
                exact .inr ⟨by rw [HNEW.out]; simp; omega, 81, rfl, by decide, HKP.out⟩
            · have i3 : ¬ (0 : Int) < (U : Int) := by omega
              go_wp2_with (fail)
              go_meet
              exact ⟨by rw [HNEW.out]; simp; omega, rfl⟩
          · have i2 : ¬ (K : Int) < 32768 := by omega
            go_wp2_with (fail)
            go_meet
            exact ⟨by rw [HNEW.out]; simp; omega, rfl⟩
    case rest =>
      obtain ⟨hok, rfl⟩ := hcut
      go_upto_region 17 with (fail)
      go_cut [10] (fun s10 wz => ∃ x, s10 = .pointer (some ⟨x, 0, none⟩) ∧ Nx w wz t g b L z17 (cntL ls) [] x z17)
      case first =>
        have f0 : wc.cell? ⟨t, 2, none⟩ = some (.int .i64 0) := HN1.out.cF (i := 0) (n := 0) rfl
        have f1 : wc.cell? ⟨t, 3, none⟩ = some (.int .i64 0) := HN1.out.cF (i := 1) (n := 0) rfl
        have f2 : wc.cell? ⟨t, 4, none⟩ = some (.int .i64 0) := HN1.out.cF (i := 2) (n := 0) rfl
        have f3 : wc.cell? ⟨t, 5, none⟩ = some (.int .i64 0) := HN1.out.cF (i := 3) (n := 0) rfl
        have f4 : wc.cell? ⟨t, 6, none⟩ = some (.int .i64 0) := HN1.out.cF (i := 4) (n := 0) rfl
        have f5 : wc.cell? ⟨t, 7, none⟩ = some (.int .i64 0) := HN1.out.cF (i := 5) (n := 0) rfl
        have f6 : wc.cell? ⟨t, 8, none⟩ = some (.int .i64 0) := HN1.out.cF (i := 6) (n := 0) rfl
        have f7 : wc.cell? ⟨t, 9, none⟩ = some (.int .i64 0) := HN1.out.cF (i := 7) (n := 0) rfl
        have f8 : wc.cell? ⟨t, 10, none⟩ = some (.int .i64 0) := HN1.out.cF (i := 8) (n := 0) rfl
        have f9 : wc.cell? ⟨t, 11, none⟩ = some (.int .i64 0) := HN1.out.cF (i := 9) (n := 0) rfl
        have f10 : wc.cell? ⟨t, 12, none⟩ = some (.int .i64 0) := HN1.out.cF (i := 10) (n := 0) rfl
        have f11 : wc.cell? ⟨t, 13, none⟩ = some (.int .i64 0) := HN1.out.cF (i := 11) (n := 0) rfl
        have f12 : wc.cell? ⟨t, 14, none⟩ = some (.int .i64 0) := HN1.out.cF (i := 12) (n := 0) rfl
        have f13 : wc.cell? ⟨t, 15, none⟩ = some (.int .i64 0) := HN1.out.cF (i := 13) (n := 0) rfl
        have f14 : wc.cell? ⟨t, 16, none⟩ = some (.int .i64 0) := HN1.out.cF (i := 14) (n := 0) rfl
        have f15 : wc.cell? ⟨t, 17, none⟩ = some (.int .i64 0) := HN1.out.cF (i := 15) (n := 0) rfl
        have f16 : wc.cell? ⟨t, 18, none⟩ = some (.int .i64 0) := HN1.out.cF (i := 16) (n := 0) rfl
        obtain ⟨x, hx⟩ : ∃ x, wc.heap.size = x := ⟨_, rfl⟩
        have hltx := HN1.out.lt
        have hlgx := HN1.out.ltg
        obtain ⟨es, ck, hes, _⟩ := HN1.out.mp
        have hlbx := (Array.getElem?_eq_some_iff.1 hes).1
        have h0x := HN1.out.kp.size
        have HNX0 := Lib.hid (show Nx w (wc.alloc (.cells (ints z17).toArray 80)) t g b L z17 (cntL ls) [] x z17 from by
          have k1 : Kp [] wc (wc.alloc (.cells (ints z17).toArray 80)) := (Kp.refl _ _).alloc _
          obtain ⟨cs, h1, h2⟩ := HN1.out.cd
          refine ⟨⟨(k1.block t hltx (by simp)).trans HN1.out.tab, ⟨cs, (k1.block g hlgx (by simp)).trans h1, h2⟩, HN1.out.mp.kept k1 (by simp), HN1.out.kp.trans k1, HN1.out.fl, HN1.out.cl, HN1.out.tg, HN1.out.tb, HN1.out.gb, HN1.out.t0, HN1.out.g0, HN1.out.b0⟩, ?_, by omega, by omega, by omega, by omega, rfl⟩
          rw [← hx]
          exact heap_alloc_new _ _)
        clear hes hlgx hlbx h0x hltx HN1 hc1 HKP HNEW HU HC1
        as_aux_lemma =>
          go_wp2_with (fail)
          go_meet
          exact ⟨x, rfl, HNX0.out⟩
      case rest =>
        obtain ⟨x, rfl, HX⟩ := hcut
        have HX := Lib.hid HX
        have HTAB := Lib.hid (newOk_tab hok HLE.out)
        clear hlt hc1 HN1 HNEW HU HC1
        go_upto_block 3 with (fail)
        go_cut [11] (fun _ wz => Nx w wz t g b L (fstL ls 16) (cntL ls) [] x (fstL ls 16))
        case first =>
          as_aux_lemma =>
            go_wp2_with (fail)
            go_loopg [11] 15 (fun g' s11 wx => ∃ n : Nat, n + g' = 15 ∧ s11 = .int .i64 ((n + 1 : Nat) : Int) ∧ Nx w wx t g b L (fstL ls (n + 1)) (cntL ls) [] x (fstL ls (n + 1)))
            case atStart => exact ⟨0, by omega, rfl, by rw [fstL_one]; exact HX.out⟩
            case round =>
              obtain ⟨n, hng, rfl, HN⟩ := hrel
              have HN := Lib.hid HN
              cases gk with
              | zero =>
                obtain rfl : n = 15 := by omega
                go_wp2_with (fail)
                go_meet
                exact HN.out
              | succ g' =>
                have hn15 : ((n + 1 : Nat) : Int) ≤ 15 := by omega
                have hn17 : ((n + 1 : Nat) : Int) < 17 := by omega
                have hn17' : (n : Int) < 17 := by omega
                have en : ((n + 1 : Nat) : Int) - 1 = (n : Int) := by omega
                have hfl := fst_le HTAB.out.kr n (by omega)
                have hp : 2 ^ n ≤ 2 ^ 14 := Nat.pow_le_pow_right (by omega) (by omega)
                have hf : wr.cell? ⟨t, 2 + n, none⟩ = some (.int .i64 (fst_ ls n : Nat)) := HN.out.nw.cF (by rw [fstL_get _ _ (by omega), if_pos (by omega)])
                have hc : wr.cell? ⟨t, 19 + n, none⟩ = some (.int .i64 (cnt ls n : Nat)) := HN.out.nw.cC (cntL_get ls (by omega))
                have HFS := Lib.hid (show fst_ ls (n + 1) = 2 * (fst_ ls n + cnt ls n) from rfl)
                have HST := Lib.hid (fstL_set ls (n := n + 1) (by omega))
                have hfz := HN.out.nw.fz
                have hlt := HN.out.nw.lt
                have hfy : wr.cell? ⟨t, 2 + (n + 1), none⟩ = some (.int .i64 (0 : Nat)) := HN.out.nw.cF (by rw [fstL_get _ _ (by omega), if_neg (by omega)])
                obtain ⟨F, hF⟩ : ∃ F, fst_ ls n = F := ⟨_, rfl⟩
                obtain ⟨C, hC⟩ : ∃ C, cnt ls n = C := ⟨_, rfl⟩
                have hFC : F + C ≤ 16384 := by rw [hF, hC] at hfl; omega
                rw [hF] at hf HFS
                rw [hC] at hc HFS
                clear hF hC hfl hp
                obtain ⟨T, hT⟩ : ∃ T, F + C = T := ⟨_, rfl⟩
                obtain ⟨ew, eT, e2, en0⟩ : IntKind.i64.wrap (n : Int) = (n : Int) ∧ IntKind.i64.wrap ((F : Int) + (C : Int)) = (T : Int) ∧ IntKind.i64.wrap (2 * (T : Int)) = ((2 * T : Nat) : Int) ∧ 0 ≤ (n : Int) := by
                  refine ⟨IntWalk.i64_in _ (by omega), ?_, ?_, by omega⟩
                  · rw [← hT, Int.natCast_add]; exact IntWalk.i64_in _ (by omega)
                  · rw [IntWalk.i64_in _ (by omega)]; omega
                rw [hT] at HFS hFC
                clear hT
                have hq1 : 0 ≤ (n : Int) + 1 := by omega
                have hq2 : (n : Int) + 1 < 17 := by omega
                go_upto_region 21 with (fail)
                go_still_tail 21, (by kernel_rfl)
                change wpList _ _ _ _ _ wr.drew
                have HD := Lib.hid HN.out.drew
                have hfy2 : wr.drew.cell? ⟨t, 2 + (n + 1), none⟩ = some (.int .i64 (0 : Nat)) := hfy
                have hfz2 : ∀ i, wr.drew.frozen? ⟨t, i, none⟩ = false := hfz
                have hlt2 : t < wr.drew.heap.size := hlt
                generalize wr.drew = wd at *
                clear hf hc hfz hlt hfy HN
                go_upto_region 22 with (fail)
                have HE := Lib.hid (show Nx w (wd.setCell ⟨t, 2 + (n + 1), none⟩ (.int .i64 (2 * (T : Int)))) t g b L ((fstL ls (n + 1)).set (n + 1) (2 * T)) (cntL ls) [] x (fstL ls (n + 1)) from HD.out.setF (by omega) (2 * T))
                generalize wd.setCell ⟨t, 2 + (n + 1), none⟩ (.int .i64 (2 * (T : Int))) = we at *
                clear hfy2 hfz2 hlt2 HD
                have hfe : we.cell? ⟨t, 2 + (n + 1), none⟩ = some (.int .i64 (2 * (T : Int))) := HE.out.nw.cF (n := 2 * T) (by rw [List.getElem?_set_self (by simp [fstL]; omega)])
                have hxx : we.cell? ⟨x, n + 1, none⟩ = some (.int .i64 ((if n + 1 < n + 1 then fst_ ls (n + 1) else 0 : Nat) : Int)) := HE.out.cX (fstL_get _ _ (by omega))
                have hfx := HE.out.fx
                have hlx := HE.out.lx
                have hle := HE.out.nw.lt
                go_wp2_with (fail)
                go_roundg g'
                case measure => omega
                case rel =>
                  refine ⟨n + 1, by omega, by go_num, ?_⟩
                  have := HE.out.setX (i := n + 1) (2 * T)
                  have h9 := HST.out
                  rw [HFS.out] at h9
                  rw [h9] at this
                  exact this
        case rest =>
          have HY := Lib.hid hcut
          clear HX
          go_upto_block 5 with (fail)
          go_cut [] (fun wz => ∃ X, Nx w wz t g b L (fstL ls 16) (cntL ls) (symL ls L) x X)
          case first =>
            as_aux_lemma =>
              go_wp2_with (fail)
              go_loopg [110] L (fun g' s110 wx => ∃ s : Nat, s + g' = L ∧ s110 = .int .i64 s ∧ Nx w wx t g b L (fstL ls 16) (cntL ls) (symL ls s) x (nxtL ls s))
              case atStart => exact ⟨0, by omega, rfl, by rw [nxtL_zero]; exact HY.out⟩
              case round =>
                obtain ⟨s, hsg, rfl, HN⟩ := hrel
                have HN := Lib.hid HN
                cases gk with
                | zero =>
                  obtain rfl : s = L := by omega
                  have hk : ¬ (s : Int) < (s : Int) := by omega
                  go_wp2_with (fail)
                  go_meet
                  exact ⟨_, HN.out⟩
                | succ g' =>
                  have hk : (s : Int) < (L : Int) := by omega
                  obtain ⟨n, hn⟩ : ∃ n, ls[s]? = some n := ⟨_, List.getElem?_eq_getElem (by rw [HL.out]; omega)⟩
                  have hn15 := HLE.out n (List.mem_of_getElem? hn)
                  obtain ⟨bA, off, rfl, hbA, hcA⟩ := ints_at (show RV wr A (ints ls) from HR.out.kept HN.out.nw.kp.size (fun ad hA hlt => HN.out.nw.kp.block _ hlt (by simp))) hn
                  by_cases h0 : 0 < n
                  · have h0i : (0 : Int) < (n : Int) := by omega
                    have hn17 : (n : Int) < 17 := by omega
                    have HNX := Lib.hid (nxtL_set hn h0 hn15)
                    have HSA := Lib.hid (symL_add hn h0)
                    have hcn := codeN_lt HTAB.out (i := s) (by rw [getD_of hn]; exact h0)
                    have HCN := Lib.hid (show codeN ls s = fst_ ls n + cnt (ls.take s) n by unfold codeN; rw [getD_of hn])
                    have HNW := Lib.hid (show ∀ p ∈ symL ls s, p.1 ≠ keyV n (codeN ls s) from by
                      have h := symL_new HTAB.out (n := s) (by rw [getD_of hn]; exact h0)
                      rw [getD_of hn] at h
                      exact h)
                    have hX : wr.cell? ⟨x, n, none⟩ = some (.int .i64 (fst_ ls n + cnt (ls.take s) n : Nat)) := HN.out.cX (by rw [nxtL_get _ _ (by omega), if_pos (by omega)])
                    obtain ⟨V, hV⟩ : ∃ V, codeN ls s = V := ⟨_, rfl⟩
                    have HXG := Lib.hid (show (nxtL ls s)[n]? = some V by rw [nxtL_get _ _ (by omega), if_pos (by omega), ← HCN.out, hV])
                    rw [← HCN.out, hV] at hX
                    rw [← HCN.out, hV] at HNX
                    rw [hV] at hcn HSA HNW
                    have hV15 := hcn.2.1
                    clear hcn hV HCN hn
                    have ew : (V : Int) % 4294967296 = (V : Int) := by omega
                    have hc0 := HN.out.nw.c0
                    have hc1 := HN.out.nw.c1
                    have hlt := HN.out.nw.lt
                    have hlx := HN.out.lx
                    have hlg := HN.out.nw.ltg
                    have hfx := HN.out.fx
                    obtain ⟨cs, hcs, hcsl⟩ := HN.out.nw.cd
                    have hfg : ∀ i, wr.frozen? ⟨g, i, none⟩ = false := fun i => frozen_of_row wr g i _ _ hcs
                    obtain ⟨y0, hy0⟩ : ∃ y, wr.cell? ⟨g, s * 2, none⟩ = some y := ⟨_, (cell_of_row wr g (s * 2) _ _ _ hcs).trans (Array.getElem?_eq_getElem (by omega))⟩
                    obtain ⟨y1, hy1⟩ : ∃ y, wr.cell? ⟨g, s * 2 + 1, none⟩ = some y := ⟨_, (cell_of_row wr g (s * 2 + 1) _ _ _ hcs).trans (Array.getElem?_eq_getElem (by omega))⟩
                    have HCS := Lib.hid hcs
                    have HCSL := Lib.hid hcsl
                    clear hcs hcsl
                    go_upto_region 27 with (fail)
                    go_still_tail 12, (by kernel_rfl)
                    change wpList _ _ _ _ _ wr.drew
                    have HD := Lib.hid HN.out.drew
                    have gy0 : wr.drew.cell? ⟨g, s * 2, none⟩ = some y0 := hy0
                    have gy1 : wr.drew.cell? ⟨g, s * 2 + 1, none⟩ = some y1 := hy1
                    have gfg : ∀ i, wr.drew.frozen? ⟨g, i, none⟩ = false := hfg
                    have glg : g < wr.drew.heap.size := hlg
                    have HCS2 := Lib.hid (show wr.drew.heap[g]? = some (.cells cs 84 (0, 0)) from HCS.out)
                    clear HCS
                    generalize wr.drew = wd at *
                    clear hX hc0 hc1 hlt hlx hlg hfx hfg hy0 hy1 HN
                    go_upto_region 28 with (fail)
                    have HE := Lib.hid ((HD.out.setG (s * 2) (.int .i64 n)).setG (s * 2 + 1) (.int .u32 V))
                    have HC3 := Lib.hid (heap_set (heap_set HCS2.out (s * 2) (.int .i64 n)) (s * 2 + 1) (.int .u32 V))
                    generalize (wd.setCell ⟨g, s * 2, none⟩ (.int .i64 n)).setCell ⟨g, s * 2 + 1, none⟩ (.int .u32 V) = we at *
                    clear gy0 gy1 gfg glg HD HCS2
                    have HF := Lib.hid HE.out.drew
                    have hc0 := HE.out.nw.c0
                    have hc1 := HE.out.nw.c1
                    have hlt := HE.out.nw.lt
                    have hlg := HE.out.nw.ltg
                    have he0 : we.cell? ⟨g, s * 2, none⟩ = some (.int .i64 n) := by
                      rw [cell_of_row we g (s * 2) _ _ _ HC3.out]
                      have := HCSL.out
                      simp [Array.getElem?_setIfInBounds]
                      omega
                    have he1 : we.cell? ⟨g, s * 2 + 1, none⟩ = some (.int .u32 V) := by
                      rw [cell_of_row we g (s * 2 + 1) _ _ _ HC3.out]
                      have := HCSL.out
                      simp [Array.getElem?_setIfInBounds]
                      omega
                    go_still_tail 12, (by kernel_rfl)
                    change wpList _ _ _ _ _ we.drew
                    clear hc0 hc1 hlt hlg he0 he1 HC3 HCSL HE
                    generalize we.drew = wf at *
                    obtain ⟨wg, hrun, hms, hgw⟩ := HF.out.nw.mp.update (symL_keys HTAB.out s) (x := keyV n V) (v := .int .i64 s) (keyV_key hn15 hV15) HNW.out
                    unfold keyV at hrun
                    have HG := Lib.hid (HF.out.mapped hgw hms)
                    rw [← HSA.out] at HG
                    clear hms hgw
                    go_upto_region 29 with (fail)
                    have HXV := Lib.hid (show (nxtL ls s)[n]? = some V from HXG.out)
                    have hX : wg.cell? ⟨x, n, none⟩ = some (.int .i64 (V : Nat)) := HG.out.cX HXV.out
                    have hfx := HG.out.fx
                    have hlx := HG.out.lx
                    clear hrun
                    go_wp2_with (fail)
                    go_roundg g'
                    case measure => omega
                    case rel =>
                      refine ⟨s + 1, by omega, by go_num, ?_⟩
                      have := HG.out.setX (i := n) (V + 1)
                      rw [HNX.out] at this
                      exact this
                  · obtain rfl : n = 0 := by omega
                    go_wp2_with (fail)
                    go_roundg g'
                    case measure => omega
                    case rel =>
                      refine ⟨s + 1, by omega, by go_num, ?_⟩
                      rw [symL_skip hn, nxtL_skip hn]
                      exact HN.out
          case rest =>
            obtain ⟨X, HY2⟩ := hcut
            have HY2 := Lib.hid HY2
            go_wp2_with (fail)
            go_ret2
            refine .inl ⟨hok, t, rfl, fun S hS => ⟨⟨fun k hk => ?_, fun k hk => ?_, HY2.out.nw.lt⟩, ?_, ⟨b, HY2.out.nw.c1, ?_, ?_⟩, ⟨_, HY2.out.nw.tab⟩⟩, HY2.out.nw.kp⟩
            · exact HY2.out.nw.cF (by rw [fstL_get _ _ (by omega), if_pos (by omega)])
            · exact HY2.out.nw.cC (cntL_get ls (by omega))
            · intro hm; have h1 := hS t hm; have h2 := HY2.out.nw.t0; omega
            · rw [HL.out]; exact HY2.out.nw.mp
            · intro hm; have h1 := hS b hm; have h2 := HY2.out.nw.b0; omega
end Go.Proofs.YtjjcemdoefigkaaDoor.Hf
