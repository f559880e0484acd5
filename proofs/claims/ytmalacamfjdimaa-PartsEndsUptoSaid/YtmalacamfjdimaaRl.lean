/- The reference's Parts. -/
import Derived.Test.YtmalacamfjdimaaRj
import Derived.Test.YtmalacamfjdimaaRk
namespace Go.Proofs.Ytmalacamfjdimaa.Pt
open Go.RowKit Go.Proofs.Ytmalacamfjdimaa.W

theorem flat_at {α β : Type} (f : α → List β) (m : Nat) (hm : ∀ a, (f a).length = m) : ∀ (l : List α) (k j : Nat) (x : α), l[k]? = some x → j < m → (l.flatMap f)[k * m + j]? = (f x)[j]? := by
  intro l
  induction l with
  | nil => intro k j x h; simp at h
  | cons a l ih =>
    intro k j x h hj
    rw [List.flatMap_cons]
    cases k with
    | zero =>
      simp at h
      subst h
      rw [Nat.zero_mul, Nat.zero_add, List.getElem?_append_left (by rw [hm]; exact hj)]
    | succ k =>
      rw [List.getElem?_append_right (by rw [hm, Nat.succ_mul]; omega), hm, show (k + 1) * m + j - m = k * m + j by rw [Nat.succ_mul]; omega]
      exact ih k j x (by simpa using h) hj
theorem tms_at {es : List (Nat × Ev)} {k : Nat} {t : Nat × Ev} (h : es[k]? = some t) (j : Nat) (hj : j < 6) : (tms es)[k * 6 + j]? = (tmC t)[j]? := flat_at tmC 6 tmC_length es k j t h hj
theorem own_bl {w : World} {base : Nat} {e : TypeId} {size n c : Nat} {A : Option Addr} {xs : List Value} (h : w.ownsRow base e size (.slice A n c) n xs) (h0 : 0 < n) : ∃ g, A = some ⟨g, 0, none⟩ ∧ base ≤ g ∧ g < w.heap.size := by
  rcases h.2 with ⟨h1, _⟩ | ⟨g, cap, cur, h1, _⟩
  · injection h1 with _ h2; omega
  · injection h1 with h2 _ _
    subst h2
    exact ⟨g, rfl, (h.lt g rfl).1, (h.lt g rfl).2⟩

theorem Prt.took {w wq w6 : World} {g m c c6 cV : Nat} {A6 AV : Option Addr} {vs : List Value} {rr : List Int} {pss : List (List Int)} {o : Obj} {bv : Int} (hP : Prt wq (List.range w.heap.size) (some ⟨g, 0, none⟩) (m + 1) c vs pss) (hB : Below w.heap.size w wq) (hr : pss[m]? = some rr) (hv : vs[m]? = some (.slice AV rr.length cV))
    (own : w6.ownsRow 0 5 1 (.slice A6 (rr.length + 1) c6) (rr.length + 1) (u8s rr ++ [.int .u8 bv])) (grow : (wq.drew.alloc o).grownBy w6 (Value.slice AV rr.length cV).ownBlock)
    (hat : (Value.slice A6 (rr.length + 1) c6).ownBlock = (Value.slice AV rr.length cV).ownBlock ∨ (Value.slice A6 (rr.length + 1) c6).ownBlock = some (wq.drew.alloc o).heap.size) :
    Prt (w6.setCell ⟨g, m, none⟩ (.slice A6 (rr.length + 1) c6)) (List.range w.heap.size) (some ⟨g, 0, none⟩) (m + 1) c (vs.set m (.slice A6 (rr.length + 1) c6)) (addEv pss (.by_ bv)) ∧ Below w.heap.size w (w6.setCell ⟨g, m, none⟩ (.slice A6 (rr.length + 1) c6)) := by
  have hPd : Prt wq.drew (List.range w.heap.size) (some ⟨g, 0, none⟩) (m + 1) c vs pss := hP.kept (Kp.refl [] wq).drew (by simp)
  obtain ⟨v', hv', hov, hav⟩ := hP.row m rr hr
  rw [hv] at hv'
  injection hv' with hv'
  subst hv'
  have hlen := hP.len
  have e : addEv pss (.by_ bv) = pss.set m (rr ++ [bv]) := by
    simp only [addEv]
    rw [hlen, show m + 1 - 1 = m by omega, List.getD_eq_getElem?_getD, hr]
    rfl
  rw [e]
  have hsz := hB.size
  refine ⟨hPd.byte hr hv (x := rr ++ [bv]) (by rw [u8s_append]; exact own) (by simp) grow hat (fun k hk => by simp at hk; show k < wq.heap.size; omega), ?_⟩
  refine hB.trans (Kp.below (S := g :: (Value.slice AV rr.length cV).ownBlock.toList) (((Kp.refl _ wq).drew).trans (Prt.kp_byte grow _ (fun k hk => by rw [hk]; simp) (by simp))) hsz (fun t ht => ?_))
  rcases List.mem_cons.1 ht with rfl | ht
  · have := hP.avoid _ rfl
    simpa using this
  · have ht' : (Value.slice AV rr.length cV).ownBlock = some t := by simpa using ht
    have := hav t ht'
    simpa using this

def PartsPost (w : World) (ls : List (List Int)) (e : Ending) (w' : World) : Prop :=
  ∃ A m c vs, e = .returned (.slice A m c) ∧ Prt w' [] A m c vs ls ∧ Below w.heap.size w w'

set_option maxHeartbeats 4000000 in
set_option maxRecDepth 100000 in
theorem c_parts (base : Nat) (A : Option Addr) (n c : Nat) (es : List (Nat × Ev)) (w : World) (hl : es.length = n) (hn : n ≤ 1000000000) (ho : w.ownsRow base 67 6 (.slice A n c) n (tms es)) (hpb : PB es) :
    Calls Try.prog 17 #[.slice A n c] w (PartsPost w ((es.map Prod.snd).foldl addEv [])) := by
  have HO := Lib.hid ho
  have HL := Lib.hid hl
  have HP := Lib.hid hpb
  have hn0 : (0 : Int) ≤ (n : Int) := by omega
  clear ho hl hpb
  go_enter Try.func17, Try.ntmps17
  go_wp2
  go_loopg [3, 4] n (fun g s3 s4 wx => ∃ (k m c' : Nat) (A' : Option Addr) (vs : List Value), k + g = n ∧ s4 = .int .i64 k ∧ s3 = .slice A' m c' ∧ Prt wx (List.range w.heap.size) A' m c' vs (((es.take k).map Prod.snd).foldl addEv []) ∧ Below w.heap.size w wx)
  case atStart => exact ⟨0, 0, 0, none, [], by omega, rfl, rfl, Prt.nil _ _, Below.refl _ _⟩
  case round =>
    obtain ⟨k, m2, c2, A2, vs2, hkg, rfl, rfl, P, hB⟩ := hrel
    obtain ⟨wq, rfl⟩ : ∃ wq : World, wq = wr := ⟨_, rfl⟩
    cases gk with
    | zero =>
      obtain rfl : k = n := by omega
      have hk : ¬ (k : Int) < (k : Int) := by omega
      have HT := Lib.hid (show es.take k = es from List.take_of_length_le (by rw [HL.out]; exact Nat.le_refl _))
      go_wp2
      go_ret
      rw [HT.out] at P
      exact ⟨_, _, _, _, rfl, Prt.narrow P (by simp), hB⟩
    | succ g =>
      have hk : (k : Int) < (n : Int) := by omega
      obtain ⟨te, ht⟩ : ∃ t, es[k]? = some t := ⟨_, List.getElem?_eq_getElem (by rw [HL.out]; omega)⟩
      obtain ⟨t, ev⟩ := te
      obtain ⟨gb, rfl, hgb, hgl⟩ := own_bl HO.out (by omega)
      have hce : ∀ j u, j < 6 → (tmC (t, ev))[j]? = some u → wq.cell? ⟨gb, k * 6 + j, none⟩ = some u := fun j u hj hu => by
        rw [hB.cell (show (⟨gb, k * 6 + j, none⟩ : Addr).block < w.heap.size from hgl)]
        exact own_elem HO.out ((tms_at ht j hj).trans hu)
      have HF := Lib.hid (show ((es.take (k + 1)).map Prod.snd).foldl addEv [] = addEv (((es.take k).map Prod.snd).foldl addEv []) ev by rw [take_snoc' ht, List.map_append, List.foldl_append]; rfl)
      have hsz : Sz k (((es.take k).map Prod.snd).foldl addEv []) := by
        have h : Sz 0 ([] : List (List Int)) := ⟨Nat.le_refl _, fun r hr => by cases hr⟩
        refine (h.fold (l := (es.take k).map Prod.snd)).mono ?_
        simp
        omega
      obtain ⟨hm2, hrl⟩ := hsz
      rw [P.len] at hm2
      have HE := Lib.hid ht
      clear ht
      cases ev with
      | op =>
        have k1 : wq.cell? ⟨gb, k * 6 + 1, none⟩ = some (.int .i64 1) := hce 1 _ (by omega) rfl
        have tk1 : True := trivial
        clear hce hrl
        go_wp2_with (at_builtin; have _t := tk1; go_must (refine wpList_ap el88 rfl _ _ rfl rfl (P.own.alloc _) rfl rfl (RV.new _ _) (by intro u hu; simp at hu; subst hu; rfl) (by unfold maxLen; omega) (by omega) (Nat.zero_le _) ?_); intro A3 c3 w4 hown4 hgrow4 hat4 hle4; clear tk1 _t)
        go_roundg g
        case measure => omega
        case rel =>
          refine ⟨k + 1, m2 + 1, c3, A3, _, by omega, by go_num, rfl, by rw [HF.out]; exact P.opened hown4 hgrow4 hat4 (fun k hk => by simp at hk; have := hB.size; omega), ?_⟩
          exact hB.trans (Kp.below (((Kp.refl (Value.slice A2 m2 c2).ownBlock.toList wq).alloc _).grown hgrow4 (fun k hk => .inl (by have hk' : (Value.slice A2 m2 c2).ownBlock = some k := hk; simpa using hk'))) hB.size (fun t ht => by
            have ht' : (Value.slice A2 m2 c2).ownBlock = some t := by simpa using ht
            have := P.avoid t ht'
            simpa using this))
      | by_ bv =>
        have k1 : wq.cell? ⟨gb, k * 6 + 1, none⟩ = some (.int .i64 2) := hce 1 _ (by omega) rfl
        have k2 : wq.cell? ⟨gb, k * 6 + 1 + 1, none⟩ = some (.int .u8 bv) := hce 2 _ (by omega) rfl
        have hne := HP.out k t bv HE.out
        obtain ⟨pss, hpss⟩ : ∃ pss, ((es.take k).map Prod.snd).foldl addEv [] = pss := ⟨_, rfl⟩
        rw [hpss] at hne P hrl
        obtain ⟨m, hm⟩ : ∃ m, m2 = m + 1 := ⟨m2 - 1, by have := P.len; have := List.length_pos_iff.2 hne; omega⟩
        subst hm
        obtain ⟨rw_, hrw⟩ : ∃ r, pss[m]? = some r := ⟨_, List.getElem?_eq_getElem (by have := P.len; omega)⟩
        obtain ⟨v, hv, hvo, hva⟩ := P.row m rw_ hrw
        obtain ⟨AV, cV, rfl, hcV⟩ := slice_form hvo
        obtain ⟨g5, hA5, _, _⟩ := own_bl P.own (by omega)
        subst hA5
        have hcm := own_elem P.own hv
        have hcm3 := fun o => own_elem (P.own.alloc o) hv
        have hrl5 := hrl rw_ (List.mem_of_getElem? hrw)
        have e1 : IntKind.i64.wrap (m : Int) = (m : Int) := IntWalk.i64_in _ (by omega)
        have e2 : (m : Int) < (m : Int) + 1 := by omega
        have e0 : (0 : Int) ≤ (m : Int) := by omega
        have e3 : rw_.length + 1 ≤ maxLen := by unfold maxLen; omega
        have e4 : (rw_.length + 1) * 1 ≤ 140737488355328 := by omega
        have hDd : Prt wq.drew (List.range w.heap.size) (some ⟨g5, 0, none⟩) (m + 1) c2 vs2 pss := P.kept (Kp.refl [] wq).drew (by simp)
        have HPS := Lib.hid hpss
        have i0 : (0 : Int) ≤ (k : Int) := by omega
        clear hce hrl hpss hne
        go_wp2
        go_region_law? (refine step_ap el8 rfl (.tmp 33) (.tmp 40) rfl (by rfl) ((hvo.drew).alloc _) (by rfl) rfl (RV.new _ _) (by intro u hu; simp at hu; subst hu; rfl) e3 e4 (Nat.zero_le _) ?_; intro A6 c6 w6 hown6 hgrow6 hat6 hle6; have hsz6 := Prt.slot hDd hv hrw hgrow6; obtain ⟨hs6, hz6⟩ := hsz6)
        all_goals clear hcm3 hcm e1 e2
        all_goals go_wp2
        all_goals
          go_roundg g
          case measure => omega
          case rel =>
          have hT := Prt.took P hB hrw hv hown6 hgrow6 hat6
          exact ⟨k + 1, m + 1, c2, _, _, by omega, by go_num, rfl, by rw [HF.out, HPS.out]; exact hT.1, hT.2⟩
      | cl =>
        have k1 : wq.cell? ⟨gb, k * 6 + 1, none⟩ = some (.int .i64 3) := hce 1 _ (by omega) rfl
        clear hce hrl
        go_wp2
        go_roundg g
        case measure => omega
        case rel => exact ⟨k + 1, m2, c2, A2, vs2, by omega, by go_num, rfl, by rw [HF.out]; exact P, hB⟩
end Go.Proofs.Ytmalacamfjdimaa.Pt
