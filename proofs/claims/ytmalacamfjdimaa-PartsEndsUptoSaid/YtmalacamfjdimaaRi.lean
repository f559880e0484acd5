/- The reference's Of, walked along the machine. -/
import Derived.Test.YtmalacamfjdimaaRj
namespace Go.Proofs.Ytmalacamfjdimaa.Pt
open Go.RowKit Go.Proofs.Ytmalacamfjdimaa.W

theorem RB.cut {w : World} {b off : Nat} {l : List Int} (h : RB w (some ⟨b, off, none⟩) l) (i m : Nat) : RB w (some ⟨b, off + i, none⟩) ((l.drop i).take m) := by
  have := (RV.drop h i).take m
  unfold RB
  simpa [u8s, List.map_take, List.map_drop] using this
/-- What a look at n + 1 bytes may say. -/
def Out (W : ByteArray) (l : List Int) (i n : Nat) (fresh opn : Bool) (es : List (Nat × Ev)) (K : Int) (L : Bool) : Prop :=
  ((K = 1 ∨ K = 2) ∧ Sc W l i (n + 1) fresh opn es) ∨
    (K = 3 ∧ ((L = true ∧ Fin W l (delimEv es (i + n) opn true) false true) ∨ (L = false ∧ Sc0 W l (i + n + 1) true true (delimEv es (i + n) opn false)))) ∨
    (K = 0 ∧ Sc0 W l (i + n) false opn (es ++ byIf opn (i + n) ((l.drop i).take n)))
theorem Sc0.more0 {W : ByteArray} {l : List Int} {i : Nat} {fresh opn : Bool} {es : List (Nat × Ev)} (h : Sc0 W l i fresh opn es) (hM : ∀ j, j ≤ l.length → Ms W l j) (hW : 0 < W.size) {x : Int} (hx : l[i]? = some x) (hb : 0 ≤ x ∧ x < 256) (hs : ¬ (fresh = false ∧ x ≠ 10 ∧ x ≠ 13)) {K : Int} {L : Bool} (hR : look (strL W) ((l.drop i).take 1) fresh = (K, L)) : Out W l i 0 fresh opn es K L := by
  cases fresh with
  | true => exact h.start.more hM (by simpa using hx) hb hR
  | false =>
    have hx2 : x = 10 ∨ x = 13 := by
      rcases Classical.em (x = 10) with h1 | h1
      · exact .inl h1
      · rcases Classical.em (x = 13) with h2 | h2
        · exact .inr h2
        · exact absurd ⟨rfl, h1, h2⟩ hs
    have hone : (l.drop i).take 1 = [x] := by rw [drop_cons hx]; rfl
    have hlt := (List.getElem?_eq_some_iff.1 hx).1
    rw [hone, look_begin hx2 hW] at hR
    injection hR with h1 h2
    exact .inl ⟨.inl h1.symm, h.first (hM i (by omega)) hx hx2⟩
/-- As Sc0.more0: not fresh, the first look is never over. -/
theorem Sc0.more1 {W : ByteArray} {l : List Int} {i : Nat} {fresh opn : Bool} {es : List (Nat × Ev)} (h : Sc0 W l i fresh opn es) (hM : ∀ j, j ≤ l.length → Ms W l j) (hW : 0 < W.size) {x : Int} (hx : l[i]? = some x) (hb : 0 ≤ x ∧ x < 256) (hs : ¬ (fresh = false ∧ x ≠ 10 ∧ x ≠ 13)) {K : Int} {L : Bool} (hR : look (strL W) ((l.drop i).take 1) fresh = (K, L)) : Out W l i 0 fresh opn es K L ∧ (K = 0 → fresh = true) := by
  refine ⟨h.more0 hM hW hx hb hs hR, fun hK => ?_⟩
  cases fresh with
  | true => rfl
  | false =>
    exfalso
    have hx2 : x = 10 ∨ x = 13 := by
      rcases Classical.em (x = 10) with h1 | h1
      · exact .inl h1
      · rcases Classical.em (x = 13) with h2 | h2
        · exact .inr h2
        · exact absurd ⟨rfl, h1, h2⟩ hs
    have hone : (l.drop i).take 1 = [x] := by rw [drop_cons hx]; rfl
    rw [hone, look_begin hx2 hW] at hR
    injection hR with h1 h2
    omega
/-- What the inner loop holds: a look that is not over, or what came of it. -/
def Inn (W : ByteArray) (l : List Int) (i : Nat) (fresh opn : Bool) (es : List (Nat × Ev)) (n m : Nat) (K : Int) (L : Bool) : Nat → Prop
  | 0 => ∃ m', m = m' + 1 ∧ Out W l i m' fresh opn es K L ∧ (K = 3 ∨ K = 0) ∧ (K = 0 → m' = 0 → fresh = true)
  | g + 1 => i + m + g = n ∧ (K = 1 ∨ K = 2) ∧ (m = 0 ∨ (Sc W l i m fresh opn es ∧ look (strL W) ((l.drop i).take m) fresh = (K, L)))
def OfPost (W : ByteArray) (l : List Int) (w : World) (e : Ending) (w' : World) : Prop :=
  ∃ A c opn, e = .returned (.agg #[.slice A (T W l (l.length + 1)).length c, .int .i64 (whole W l).1.reason, .bool opn, .bool (whole W l).1.over]) ∧
    w'.ownsRow w.heap.size 67 6 (.slice A (T W l (l.length + 1)).length c) (T W l (l.length + 1)).length (tms (T W l (l.length + 1))) ∧ Below w.heap.size w w'
/-- The result's cells, ahead of the end. -/
def zRun : Obj := .cells #[.slice none 0 0, .int .i64 0, .bool false, .bool false] 35
/-- Behind the loop. -/
def Aft (W : ByteArray) (l : List Int) (w wz : World) : Prop :=
  ∃ (opn over : Bool) (es : List (Nat × Ev)), es.length ≤ 3 * l.length + 5 ∧ Rn wz (w.heap.size + 1) (w.heap.size + 1) es 0 opn over ∧ Below (w.heap.size + 1) (w.alloc zRun) wz ∧ Fin W l es opn over
/-- A round's head. -/
def Hd (W : ByteArray) (l : List Int) (w : World) (n g : Nat) (s6 s7 : Value) (wx : World) : Prop :=
  ∃ (i : Nat) (fresh opn over : Bool) (es : List (Nat × Ev)), g = 2 * (n - i) + (if fresh then 1 else 0) ∧ s6 = .bool fresh ∧ s7 = .int .i64 i ∧ i ≤ n ∧ es.length ≤ 3 * i + 5 ∧ Rn wx (w.heap.size + 1) (w.heap.size + 1) es 0 opn over ∧ Below (w.heap.size + 1) (w.alloc zRun) wx ∧
    ((over = false ∧ i < n ∧ Sc0 W l i fresh opn es) ∨ ((i = n ∨ over = true) ∧ Fin W l es opn over))
theorem Hd.pack {W : ByteArray} {l : List Int} {w wx : World} {n g i : Nat} {fresh opn over : Bool} {es : List (Nat × Ev)} {i7 : Int} (hg : g = 2 * (n - i) + (if fresh then 1 else 0)) (h7 : i7 = (i : Int)) (hi : i ≤ n) (hln : es.length ≤ 3 * i + 5) (hR : Rn wx (w.heap.size + 1) (w.heap.size + 1) es 0 opn over) (hB : Below (w.heap.size + 1) (w.alloc zRun) wx)
    (hl : l.length = n) (hM : Ms W l n) (hw : (strL W).head? = some 45)
    (hD : (over = false ∧ Sc0 W l i fresh opn es) ∨ ((i = n ∨ over = true) ∧ Fin W l es opn over)) : Hd W l w n g (.bool fresh) (.int .i64 i7) wx := by
  subst h7
  refine ⟨i, fresh, opn, over, es, hg, rfl, rfl, hi, hln, hR, hB, ?_⟩
  rcases hD with ⟨h1, h2⟩ | h
  · by_cases hin : i < n
    · exact .inl ⟨h1, hin, h2⟩
    · obtain rfl : i = n := by omega
      subst hl h1
      exact .inr ⟨.inl rfl, h2.fin hM hw⟩
  · exact .inr h

theorem own_base {w : World} {base base' : Nat} {e : TypeId} {size n : Nat} {v : Value} {xs : List Value} (h : w.ownsRow base e size v n xs) (hb : base' ≤ base) : w.ownsRow base' e size v n xs := by
  refine ⟨h.1, ?_⟩
  rcases h.2 with h2 | ⟨g, cap, cur, rfl, hg, rest⟩
  · exact .inl h2
  · exact .inr ⟨g, cap, cur, rfl, Nat.le_trans hb hg, rest⟩
theorem of_done {W : ByteArray} {l : List Int} {w w2 w' : World} {es : List (Nat × Ev)} {A : Option Addr} {c : Nat} {why : Int} {opn over : Bool} {cs : Array Value} (hown : w2.ownsRow (w.heap.size + 1) 67 6 (.slice A es.length c) es.length (tms es))
    (hx : w2.heap[w.heap.size + 1]? = some (.cells cs 35 (0, 0))) (hz : w2.heap[w.heap.size]? = some zRun) (hB : Below (w.heap.size + 1) (w.alloc zRun) w2) (hK : Kp [w.heap.size, w.heap.size + 1] w2 w') (hT : T W l (l.length + 1) = es) (hwhy : (whole W l).1.reason = why) (hov : (whole W l).1.over = over) :
    OfPost W l w (.returned (.agg #[.slice A es.length c, .int .i64 why, .bool opn, .bool over])) w' := by
  subst hT hwhy hov
  have hs : w.heap.size ≤ w2.heap.size := by have := hB.size; simp at this; omega
  refine ⟨A, c, opn, rfl, own_base (own_same hown fun k hk => hK.block k (hown.lt k hk).2 ?_) (by omega), ?_⟩
  · intro hm
    simp at hm
    rcases hm with h | h
    · exact own_ne hown hz (by decide) hk h
    · exact own_ne hown hx (by decide) hk h
  · exact ((Below.refl w.heap.size w).alloc (Nat.le_refl _) zRun).trans ((hB.mono (by omega)).trans (hK.below hs (by simp)))
theorem Rn.lay {w w2 : World} {es : List (Nat × Ev)} {why : Int} {opn over : Bool} (hR : Rn w2 (w.heap.size + 1) (w.heap.size + 1) es why opn over) (hz : w2.heap[w.heap.size]? = some zRun) :
    ∃ A c, w2.cell? ⟨w.heap.size + 1, 0, none⟩ = some (.slice A es.length c) ∧ w2.cell? ⟨w.heap.size + 1, 1, none⟩ = some (.int .i64 why) ∧ w2.cell? ⟨w.heap.size + 1, 2, none⟩ = some (.bool opn) ∧ w2.cell? ⟨w.heap.size + 1, 3, none⟩ = some (.bool over) ∧
      (∀ i, w2.frozen? ⟨w.heap.size + 1, i, none⟩ = false) ∧ w2.cell? ⟨w.heap.size, 0, none⟩ = some (.slice none 0 0) ∧ w2.cell? ⟨w.heap.size, 1, none⟩ = some (.int .i64 0) ∧ w2.cell? ⟨w.heap.size, 2, none⟩ = some (.bool false) ∧ w2.cell? ⟨w.heap.size, 3, none⟩ = some (.bool false) ∧
      (∀ i, w2.frozen? ⟨w.heap.size, i, none⟩ = false) ∧ w.heap.size + 1 < w2.heap.size ∧ Hid (w2.heap[w.heap.size + 1]? = some (.cells #[.slice A es.length c, .int .i64 why, .bool opn, .bool over] 35 (0, 0))) ∧
      Hid (w2.ownsRow (w.heap.size + 1) 67 6 (.slice A es.length c) es.length (tms es)) := by
  obtain ⟨A, c, hx, ho⟩ := hR.ex
  refine ⟨A, c, cell_of_row w2 _ 0 _ _ _ hx, cell_of_row w2 _ 1 _ _ _ hx, cell_of_row w2 _ 2 _ _ _ hx, cell_of_row w2 _ 3 _ _ _ hx, fun i => frozen_of_row w2 _ i _ _ hx, cell_of_row w2 _ 0 _ _ _ hz, cell_of_row w2 _ 1 _ _ _ hz, cell_of_row w2 _ 2 _ _ _ hz, cell_of_row w2 _ 3 _ _ _ hz, fun i => frozen_of_row w2 _ i _ _ hz, (Array.getElem?_eq_some_iff.1 hx).1, Lib.hid hx, Lib.hid ho⟩
set_option maxHeartbeats 4000000 in
set_option maxRecDepth 100000 in
theorem c_of (A : Option Addr) (n c : Nat) (l : List Int) (b : ByteArray) (w : World) (hl : l.length = n) (hnc : n ≤ c) (hn : n ≤ 1048576) (hby : Bytes l) (hr : RB w A l) (hv : validB b.data.toList = true) :
    Calls Try.prog 15 #[.slice A n c, .string b] w (OfPost (⟨#[45, 45]⟩ ++ b) l w) := by
  have HC := Lib.hid hr
  have HL := Lib.hid hl
  have HV := Lib.hid hv
  have hws := want_size hv
  have hbs : b.size ≤ 140737488355328 := by
    have h1 : ((⟨#[45, 45]⟩ : ByteArray) ++ b).size = 2 + b.size := by rw [ByteArray.size_append]; rfl
    omega
  have HM := Lib.hid (fun i hi => Ms.all hws.1 hws.2 hby i hi)
  have HH := Lib.hid (show (strL (⟨#[45, 45]⟩ ++ b)).head? = some 45 from want_head b)
  clear hr hl hv
  go_enter Try.func15, Try.ntmps15
  go_upto_block 0 with (fail)
  go_cut [6, 7] (fun s6 s7 wz => Aft (⟨#[45, 45]⟩ ++ b) l w wz)
  case first =>
   go_wp2_with (fail)
   go_loopg [6, 7] (2 * n + 1) (fun g s6 s7 wx => Hd (⟨#[45, 45]⟩ ++ b) l w n g s6 s7 wx)
   case atStart =>
    refine Hd.pack (i := 0) (fresh := true) (opn := false) (over := false) (es := []) (by simp) rfl (Nat.zero_le _) (by simp) ⟨⟨none, 0, ?_, World.ownsRow_nil _ _ _ _⟩, by omega⟩ ?_ HL.out (HM.out n (by rw [HL.out]; omega)) HH.out (.inl ⟨rfl, Sc0.new hws.1 hws.2⟩)
    · have := heap_alloc_new (w.alloc (.cells #[.slice none 0 0, .int .i64 0, .bool false, .bool false] 35)) (.cells #[.slice none 0 0, .int .i64 0, .bool false, .bool false] 35)
      simpa using this
    · exact (Below.refl (w.heap.size + 1) (w.alloc zRun)).alloc (by simp) _
   case round =>
    obtain ⟨i, fresh, opn, over, es, hgk, rfl, rfl, hin, hes, hR, hBz, hD⟩ := hrel
    have HGK := Lib.hid hgk
    clear hgk
    obtain ⟨wo, rfl⟩ : ∃ wo : World, wo = wr := ⟨_, rfl⟩
    have hB : Below w.heap.size w wo := ((Below.refl w.heap.size w).alloc (Nat.le_refl _) zRun).trans (hBz.mono (by omega))
    obtain ⟨c1, c2, c3, fz, hlt⟩ := hR.cells_
    have hBo : w.heap.size + 1 ≤ wo.heap.size := by have := hBz.size; simpa using this
    rcases hD with ⟨rfl, hi, hS⟩ | ⟨hio, hF⟩
    · have hi2 : (i : Int) < (n : Int) := by omega
      obtain ⟨x, hx⟩ : ∃ x, l[i]? = some x := ⟨_, List.getElem?_eq_getElem (by rw [HL.out]; exact hi)⟩
      have hxb := hby x (List.mem_of_getElem? hx)
      obtain ⟨bl, off, rfl, hblt, hcell0⟩ := RB.get HC.out hx
      have hcell : wo.cell? ⟨bl, off + i, none⟩ = some (.int .u8 x) := by rw [hB.cell (show (⟨bl, off + i, none⟩ : Addr).block < w.heap.size from hblt)]; exact hcell0
      have hcut : ∀ m, RB wo (some ⟨bl, off + i, none⟩) ((l.drop i).take m) := RB.cut (HC.out.below hB) i
      have HX := Lib.hid hx
      have HCut := Lib.hid hcut
      clear hx hcut hcell0
      go_upto_region 5 with (fail)
      go_cut [35] (fun t wz => t = .bool (decide (fresh = false ∧ x ≠ 10 ∧ x ≠ 13)) ∧ wz = wo)
      case first =>
        cases fresh with
        | true =>
          go_wp2
          go_meet
          case rel => exact ⟨by simp, rfl⟩
        | false =>
          by_cases h10 : x = 10
          · have e10 := neF h10
            go_wp2
            go_meet
            case rel => exact ⟨by simp [h10], rfl⟩
          · have e10 := neT h10
            by_cases h13 : x = 13
            · have e13 := neF h13
              go_wp2
              go_meet
              case rel => exact ⟨by simp [h13], rfl⟩
            · have e13 := neT h13
              go_wp2
              go_meet
              case rel => exact ⟨by simp [h10, h13], rfl⟩
      case rest =>
        obtain ⟨rfl, rfl⟩ := hcut
        obtain ⟨wo, rfl⟩ : ∃ wo : World, wo = wc := ⟨_, rfl⟩
        by_cases hsay : fresh = false ∧ x ≠ 10 ∧ x ≠ 13
        · rw [decT hsay]
          obtain ⟨rfl, h10, h13⟩ := hsay
          have hS2 := hS.say (HM.out i (by rw [HL.out]; omega)) HX.out h10 h13 hxb
          have HS2 := Lib.hid hS2
          have hone : (l.drop i).take 1 = [x] := by rw [drop_cons HX.out]; rfl
          have cB := r_bytes (w.heap.size + 1) (w.heap.size + 1) es 0 opn false (some ⟨bl, off + i, none⟩) 1 (c - i) [x] i wo hR hBo rfl (by omega) (by have := HCut.out 1; rw [hone] at this; exact this) (by intro a ha; injection ha with ha; subst ha; exact Nat.lt_succ_of_lt hblt) (by omega)
          have CB := Lib.hid cB
          have HME := Lib.hid (show 2 * (n - (i + 1)) < gk by rw [HGK.out]; simp; omega)
          clear cB hS hS2 h10 h13
          go_wp2_with (go_at_call 29; go_must (refine CB.out.mono ?_); rintro e w2 ⟨rfl, hR2, hb2⟩)
          go_roundg (2 * (n - (i + 1)))
          case measure => exact HME.out
          case rel => exact Hd.pack (i := i + 1) (fresh := false) (by simp) (by omega) (by omega) (by unfold byEv; cases opn <;> simp <;> omega) hR2 (hBz.trans hb2) HL.out (HM.out n (by rw [HL.out]; omega)) HH.out (.inl ⟨rfl, HS2.out⟩)
        · rw [decF hsay]
          have HSY := Lib.hid hsay
          clear hsay
          go_upto_block 2 with (fail)
          go_cut [8, 9, 10] (fun t8 t9 t10 wz => ∃ (m : Nat) (K : Int) (L : Bool) (d g : Nat), t8 = .int .i64 m ∧ t9 = .int .i64 K ∧ t10 = .bool L ∧ wz = wo.drewN d ∧ i + m ≤ n ∧ 1 ≤ m ∧ Inn (⟨#[45, 45]⟩ ++ b) l i fresh opn es n m K L g ∧ (g ≠ 0 → i + m = n))
          case first =>
            go_wp2_with (fail)
            go_loopg [8, 9, 10] (n - i + 1) (fun g t8 t9 t10 wx => ∃ (m : Nat) (K : Int) (L : Bool) (d : Nat), t8 = .int .i64 m ∧ t9 = .int .i64 K ∧ t10 = .bool L ∧ wx = wo.drewN d ∧ i + m ≤ n ∧ Inn (⟨#[45, 45]⟩ ++ b) l i fresh opn es n m K L g)
            case atStart => exact ⟨0, 1, false, 0, rfl, rfl, rfl, rfl, by omega, by omega, .inl rfl, .inl rfl⟩
            case round =>
              obtain ⟨m, K, L, d, rfl, rfl, rfl, rfl, him, hI⟩ := hrel
              cases gk with
              | zero =>
                obtain ⟨m', rfl, hO, hK, hK0⟩ := hI
                have HK0 := Lib.hid hK0
                clear hK0
                rcases hK with rfl | rfl
                all_goals go_wp2_with (fail)
                all_goals go_meet
                all_goals exact ⟨m' + 1, _, L, d, 0, rfl, rfl, rfl, rfl, him, by omega, ⟨m', rfl, hO, by simp, by intro h1 h2; first | exact HK0.out trivial h2 | (exfalso; omega)⟩, by simp⟩
              | succ g =>
                obtain ⟨hg, hK, hS3⟩ := hI
                have HS3 := Lib.hid hS3
                clear hS3
                by_cases him2 : i + m = n
                · have hc1 : ¬ (i : Int) + (m : Int) < (n : Int) := by omega
                  rcases hK with rfl | rfl
                  all_goals go_wp2_with (fail)
                  all_goals go_meet
                  all_goals exact ⟨m, _, L, d, g + 1, rfl, rfl, rfl, rfl, him, by omega, ⟨hg, by simp, HS3.out⟩, fun _ => him2⟩
                · have hc1 : (i : Int) + (m : Int) < (n : Int) := by omega
                  have hlt2 : ((l.drop i).take (m + 1)).length = m + 1 := by rw [List.length_take, List.length_drop, HL.out]; omega
                  obtain ⟨K', L', hKL⟩ : ∃ K' L', look (strL (⟨#[45, 45]⟩ ++ b)) ((l.drop i).take (m + 1)) fresh = (K', L') := ⟨_, _, rfl⟩
                  have cL := c_look (some ⟨bl, off + i, none⟩) (m + 1) (c - i) ((l.drop i).take (m + 1)) b fresh (wo.drewN d) hlt2 (by omega) (HCut.out (m + 1)) hbs
                  unfold LookPost at cL
                  rw [hKL] at cL
                  have CL := Lib.hid cL
                  have HKL := Lib.hid hKL
                  have hnext : ∃ G, G < g + 1 ∧ Inn (⟨#[45, 45]⟩ ++ b) l i fresh opn es n (m + 1) K' L' G := by
                    obtain ⟨x2, hx2⟩ : ∃ x, l[i + m]? = some x := ⟨_, List.getElem?_eq_getElem (by rw [HL.out]; omega)⟩
                    have hO : Out (⟨#[45, 45]⟩ ++ b) l i m fresh opn es K' L' ∧ (K' = 0 → m = 0 → fresh = true) := by
                      rcases HS3.out with hm0 | hsc
                      · subst hm0
                        have h := hS.more1 HM.out hws.1 HX.out hxb HSY.out hKL
                        exact ⟨h.1, fun h1 _ => h.2 h1⟩
                      · by_cases hm0 : m = 0
                        · subst hm0
                          have h := hS.more1 HM.out hws.1 HX.out hxb HSY.out hKL
                          exact ⟨h.1, fun h1 _ => h.2 h1⟩
                        · exact ⟨hsc.1.more HM.out hx2 (hby _ (List.mem_of_getElem? hx2)) hKL, fun _ h => absurd h hm0⟩
                    obtain ⟨hO, hO0⟩ := hO
                    rcases hO with ⟨hk, hsc⟩ | h
                    · refine ⟨(g - 1) + 1, by omega, by omega, hk, .inr ⟨hsc, hKL⟩⟩
                    · refine ⟨0, by omega, m, rfl, .inr h, ?_, hO0⟩
                      rcases h with h | h
                      · exact .inl h.1
                      · exact .inr h.1
                  obtain ⟨G, hG, hIn⟩ := hnext
                  clear cL hKL hlt2
                  rcases hK with rfl | rfl
                  · go_wp2_with (go_at_call 30; go_must (refine CL.out.mono ?_); rintro e w2 ⟨rfl, d2, rfl⟩)
                    go_roundg G
                    case measure => exact hG
                    case rel => exact ⟨m + 1, K', L', d + d2, by go_num, rfl, rfl, rfl, by omega, hIn⟩
                  · go_wp2_with (go_at_call 30; go_must (refine CL.out.mono ?_); rintro e w2 ⟨rfl, d2, rfl⟩)
                    go_roundg G
                    case measure => exact hG
                    case rel => exact ⟨m + 1, K', L', d + d2, by go_num, rfl, rfl, rfl, by omega, hIn⟩
          case rest =>
            obtain ⟨m, K, L, d, g, rfl, rfl, rfl, rfl, him, hm1, hI, hgn⟩ := hcut
            have hRd : Rn (wo.drewN d) (w.heap.size + 1) (w.heap.size + 1) es 0 opn false := ⟨hR.ex, hR.ge⟩
            have hBd : Below (w.heap.size + 1) (w.alloc zRun) (wo.drewN d) := hBz.trans (((Kp.refl [] wo).drewN d).below hBo (by simp))
            have hBod : w.heap.size + 1 ≤ (wo.drewN d).heap.size := hBo
            have hif : (if fresh = true then 1 else 0) ≤ 1 := by cases fresh <;> simp
            have hAd : ∀ a, some (⟨bl, off + i, none⟩ : Addr) = some a → a.block < w.heap.size + 1 := by intro a ha; injection ha with ha; subst ha; exact Nat.lt_succ_of_lt hblt
            obtain ⟨m', rfl⟩ : ∃ m', m = m' + 1 := ⟨m - 1, by omega⟩
            cases g with
            | succ g =>
              have hend := hgn (by simp)
              obtain ⟨_, hK, hS3⟩ := hI
              have hsl : Sc (⟨#[45, 45]⟩ ++ b) l i (m' + 1) fresh opn es ∧ look (strL (⟨#[45, 45]⟩ ++ b)) ((l.drop i).take (m' + 1)) fresh = (K, L) := by
                rcases hS3 with h | h
                · omega
                · exact h
              have hfin := hsl.1.fin (by rw [HL.out]; exact HM.out n (by rw [HL.out]; omega)) (by rw [HL.out]; exact hend) hsl.2 HH.out
              rw [HL.out] at hfin
              have hmea : ∃ G, G = (if fresh = true then 1 else 0) ∧ G < gk := ⟨_, rfl, by rw [HGK.out]; omega⟩
              obtain ⟨G, hG, hGlt⟩ := hmea
              have HG := Lib.hid hG
              have HGL := Lib.hid hGlt
              clear hS3 hsl hK hgn hG hGlt
              rcases hfin with ⟨rfl, hF⟩ | ⟨rfl, hF⟩
              · have cD := r_delim (w.heap.size + 1) (w.heap.size + 1) es 0 opn false n L (wo.drewN d) hRd hBod (by omega)
                have CD := Lib.hid cD
                have hle : (delimEv es n opn L).length ≤ 3 * n + 5 := by unfold delimEv; cases opn <;> cases L <;> simp <;> omega
                have HLE := Lib.hid hle
                have HF := Lib.hid hF
                clear cD hle hF
                go_wp2_with (go_at_call 31; go_must (refine CD.out.mono ?_); rintro e w2 ⟨rfl, hR2, hb2⟩)
                go_roundg G
                case measure => exact HGL.out
                case rel => exact Hd.pack (i := n) (by rw [HG.out]; simp) (by omega) (Nat.le_refl _) HLE.out hR2 (hBd.trans hb2) HL.out (HM.out n (by rw [HL.out]; omega)) HH.out (.inr ⟨.inl rfl, HF.out⟩)
              · have cB := r_bytes (w.heap.size + 1) (w.heap.size + 1) es 0 opn false (some ⟨bl, off + i, none⟩) (n - i) (c - i) ((l.drop i).take (m' + 1)) n (wo.drewN d) hRd hBod (by rw [List.length_take, List.length_drop, HL.out]; omega) (by omega) (HCut.out (m' + 1)) hAd (by omega)
                have CB := Lib.hid cB
                have hle : (es ++ byIf opn n ((l.drop i).take (m' + 1))).length ≤ 3 * n + 5 := by unfold byIf byEv; cases opn <;> simp <;> omega
                have HLE := Lib.hid hle
                have HF := Lib.hid hF
                clear cB hle hF
                go_wp2_with (go_at_call 29; go_must (refine CB.out.mono ?_); rintro e w2 ⟨rfl, hR2, hb2⟩)
                go_roundg G
                case measure => exact HGL.out
                case rel => exact Hd.pack (i := n) (by rw [HG.out]; simp) (by omega) (Nat.le_refl _) HLE.out hR2 (hBd.trans hb2) HL.out (HM.out n (by rw [HL.out]; omega)) HH.out (.inr ⟨.inl rfl, HF.out⟩)
            | zero =>
              obtain ⟨m'', hmm, hO, hK, hK0⟩ := hI
              obtain rfl : m'' = m' := by omega
              rcases hO with ⟨h, _⟩ | ⟨rfl, h⟩ | ⟨rfl, h⟩
              · exfalso; omega
              · have cD := r_delim (w.heap.size + 1) (w.heap.size + 1) es 0 opn false (i + m'') L (wo.drewN d) hRd hBod (by omega)
                rw [show ((i + m'' : Nat) : Int) = (i : Int) + ((m'' : Int) + 1) - 1 by omega] at cD
                have CD := Lib.hid cD
                have hme : ∃ G, G = 2 * (n - (i + m'' + 1)) + 1 ∧ G < gk := ⟨_, rfl, by rw [HGK.out]; omega⟩
                obtain ⟨G, hG, hGlt⟩ := hme
                have HG := Lib.hid hG
                have HME := Lib.hid hGlt
                clear hG hGlt
                have HLE := Lib.hid (show (delimEv es (i + m'') opn L).length ≤ 3 * (i + m'' + 1) + 5 by unfold delimEv; cases opn <;> cases L <;> simp <;> omega)
                have HX2 := Lib.hid h
                clear cD h hK hK0
                go_wp2_with (go_at_call 31; go_must (refine CD.out.mono ?_); rintro e w2 ⟨rfl, hR2, hb2⟩)
                go_roundg G
                case measure => exact HME.out
                case rel =>
                  refine Hd.pack (i := i + m'' + 1) (fresh := true) (by rw [HG.out]; simp) (by omega) him HLE.out hR2 (hBd.trans hb2) HL.out (HM.out n (by rw [HL.out]; omega)) HH.out ?_
                  rcases HX2.out with ⟨rfl, h⟩ | ⟨rfl, h⟩
                  · exact .inr ⟨.inr rfl, h⟩
                  · exact .inl ⟨rfl, h⟩
              · have cB := r_bytes (w.heap.size + 1) (w.heap.size + 1) es 0 opn false (some ⟨bl, off + i, none⟩) m'' (c - i) ((l.drop i).take m'') (i + m'') (wo.drewN d) hRd hBod (by rw [List.length_take, List.length_drop, HL.out]; omega) (by omega) (HCut.out m'') hAd (by omega)
                rw [show ((i + m'' : Nat) : Int) = (i : Int) + ((m'' : Int) + 1) - 1 by omega] at cB
                have CB := Lib.hid cB
                have hme : ∃ G, G = 2 * (n - (i + m'')) ∧ G < gk := by
                  refine ⟨_, rfl, ?_⟩
                  rw [HGK.out]
                  by_cases h0 : m'' = 0
                  · rw [hK0 rfl h0, h0]; simp
                  · omega
                obtain ⟨G, hG, hGlt⟩ := hme
                have HG := Lib.hid hG
                have HME := Lib.hid hGlt
                clear hG hGlt
                have HLE := Lib.hid (show (es ++ byIf opn (i + m'') ((l.drop i).take m'')).length ≤ 3 * (i + m'') + 5 by unfold byIf byEv; cases opn <;> simp <;> omega)
                have HX2 := Lib.hid h
                clear cB h hK hK0
                go_wp2_with (go_at_call 29; go_must (refine CB.out.mono ?_); rintro e w2 ⟨rfl, hR2, hb2⟩)
                go_roundg G
                case measure => exact HME.out
                case rel => exact Hd.pack (i := i + m'') (fresh := false) (by rw [HG.out]; simp) (by omega) (by omega) HLE.out hR2 (hBd.trans hb2) HL.out (HM.out n (by rw [HL.out]; omega)) HH.out (.inl ⟨rfl, HX2.out⟩)
    · have hAft : Aft (⟨#[45, 45]⟩ ++ b) l w wo := ⟨opn, over, es, by rw [HL.out]; omega, hR, hBz, hF⟩
      have HA := Lib.hid hAft
      clear hAft hF
      by_cases hi : i < n
      · have hi2 : (i : Int) < (n : Int) := by omega
        obtain rfl : over = true := by rcases hio with h | h; omega; exact h
        go_wp2
        go_meet
        exact HA.out
      · have hi2 : ¬ (i : Int) < (n : Int) := by omega
        go_wp2
        go_meet
        exact HA.out
  case rest =>
    obtain ⟨opn, over, es, hln, hR, hBz, hF⟩ := hcut
    obtain ⟨wo, rfl⟩ : ∃ wo : World, wo = wc := ⟨_, rfl⟩
    obtain ⟨c1, c2, c3, fz, hlt⟩ := hR.cells_
    have hBo : w.heap.size + 1 ≤ wo.heap.size := by have := hBz.size; simpa using this
    have hre := whole_reason hws.1 hws.2 hby
    rw [hF.over] at hre
    have HRE := Lib.hid hre
    have HFO := Lib.hid hF.over
    have hes := hF.es
    clear hre hF
    have hzz : ∀ wz : World, Below (w.heap.size + 1) (w.alloc zRun) wz → wz.heap[w.heap.size]? = some zRun := fun wz h => (h.block _ (by omega)).trans (heap_alloc_new w zRun)
    have HZ := Lib.hid hzz
    clear hzz
    clear c1 c2 c3 fz hlt
    have HB := Lib.hid hBz
    cases opn with
    | false =>
      have HT := Lib.hid (show T (⟨#[45, 45]⟩ ++ b) l (l.length + 1) = es by simpa using hes)
      have hz := HZ.out _ hBz
      obtain ⟨A2, cA, k0, k1, k2, k3, kf, z0, z1, z2, z3, zf, hlt, HX, HO⟩ := hR.lay hz
      have HZ2 := Lib.hid hz
      clear hz hes hBz hR
      cases over with
      | false =>
        go_wp2
        refine bodyPost_ret (v := .agg #[.slice A2 es.length cA, .int .i64 33, .bool false, .bool false]) (by simp [results, Try.results15, go_sem, z0, z1, z2, z3]) rfl ?_
        exact of_done HO.out HX.out HZ2.out HB.out (by repeat (first | exact Kp.refl _ _ | refine Kp.setCell ?_ (.inl (by simp)) _)) HT.out HRE.out HFO.out
      | true =>
        go_wp2
        refine bodyPost_ret (v := .agg #[.slice A2 es.length cA, .int .i64 0, .bool false, .bool true]) (by simp [results, Try.results15, go_sem, z0, z1, z2, z3]) rfl ?_
        exact of_done HO.out HX.out HZ2.out HB.out (by repeat (first | exact Kp.refl _ _ | refine Kp.setCell ?_ (.inl (by simp)) _)) HT.out HRE.out HFO.out
    | true =>
      have HT := Lib.hid (show T (⟨#[45, 45]⟩ ++ b) l (l.length + 1) = es ++ [(n, Ev.cl)] by rw [hes, HL.out]; simp)
      have c2 := hR.cells_.2.1
      have cT := r_tell (w.heap.size + 1) (w.heap.size + 1) es 0 true over n .cl wo hR hBo (by rw [HL.out] at hln; omega)
      have CT := Lib.hid cT
      clear cT hes hBz hR
      cases over with
      | false =>
        go_wp2_with (go_at_call 32; go_must (refine CT.out.mono ?_); rintro e w2 ⟨rfl, hR2, hb2⟩; have hB2 := HB.out.trans hb2; have hz := HZ.out _ hB2; have hly := hR2.lay hz; obtain ⟨A2, cA, k0, k1, k2, k3, kf, z0, z1, z2, z3, zf, hlt, HX, HO⟩ := hly; have HZ2 := Lib.hid hz; have HB2 := Lib.hid hB2; clear hz hR2 hb2 hB2)
        refine bodyPost_ret (v := .agg #[.slice A2 (es ++ [(n, Ev.cl)]).length cA, .int .i64 33, .bool true, .bool false]) (by simp [results, Try.results15, go_sem, z0, z1, z2, z3]) rfl ?_
        exact of_done HO.out HX.out HZ2.out HB2.out (by repeat (first | exact Kp.refl _ _ | refine Kp.setCell ?_ (.inl (by simp)) _)) HT.out HRE.out HFO.out
      | true =>
        go_wp2_with (go_at_call 32; go_must (refine CT.out.mono ?_); rintro e w2 ⟨rfl, hR2, hb2⟩; have hB2 := HB.out.trans hb2; have hz := HZ.out _ hB2; have hly := hR2.lay hz; obtain ⟨A2, cA, k0, k1, k2, k3, kf, z0, z1, z2, z3, zf, hlt, HX, HO⟩ := hly; have HZ2 := Lib.hid hz; have HB2 := Lib.hid hB2; clear hz hR2 hb2 hB2)
        refine bodyPost_ret (v := .agg #[.slice A2 (es ++ [(n, Ev.cl)]).length cA, .int .i64 0, .bool true, .bool true]) (by simp [results, Try.results15, go_sem, z0, z1, z2, z3]) rfl ?_
        exact of_done HO.out HX.out HZ2.out HB2.out (by repeat (first | exact Kp.refl _ _ | refine Kp.setCell ?_ (.inl (by simp)) _)) HT.out HRE.out HFO.out
end Go.Proofs.Ytmalacamfjdimaa.Pt
