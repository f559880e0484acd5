/- What sniff.Sniff computes, in plain Lean, and that the Go text computes it. -/
import Derived.Test.YtbmnedgoonaneaaWords
namespace Go.Proofs.Ytbmnedgoonaneaa.Sn
open Go.RowKit Go.Proofs.Ytbmnedgoonaneaa.W

def cmp (l : List Int) : Nat → List Int → Nat
  | _, [] => 2
  | i, t :: ts => match l[i]? with
    | none => 0
    | some b => if b = t then cmp l (i + 1) ts else 1

def sniff (l : List Int) (ended : Bool) : Bool → List (Int × Nat × List Int) → Int × Bool
  | op, [] => if op && !ended then (0, false) else (1, true)
  | op, (k, a, t) :: ms =>
    if cmp l a t = 0 then sniff l ended true ms
    else if cmp l a t = 1 then sniff l ended op ms
    else if op && !ended then (0, false) else (k, true)

def marks : List (Int × Nat × List Int) := [(7, 0, [31, 139, 8]), (9, 0, [80, 75, 3, 4]), (8, 257, [117, 115, 116, 97, 114])]

def MB (w w' : World) : Prop := w'.heap[w.heap.size]? = some (.cells #[.int .i64 7, .int .i64 0, .string ⟨#[31, 139, 8]⟩, .int .i64 9, .int .i64 0, .string ⟨#[80, 75, 3, 4]⟩, .int .i64 8, .int .i64 257, .string ⟨#[117, 115, 116, 97, 114]⟩] 31 (0, 0))

theorem mark_at {w w' : World} {i : Nat} (h : MB w w') (hi : i < 3) : ∃ (K : Int) (a : Nat) (T : ByteArray), marks.drop i = (K, a, T.data.toList.map fun x => (x.toNat : Int)) :: marks.drop (i + 1) ∧ T.size ≤ 5 ∧ a ≤ 257 ∧
    w'.cell? ⟨w.heap.size, i * 3, none⟩ = some (.int .i64 K) ∧ w'.cell? ⟨w.heap.size, i * 3 + 1, none⟩ = some (.int .i64 a) ∧ w'.cell? ⟨w.heap.size, i * 3 + 2, none⟩ = some (.string T) := by
  have hcell : ∀ j, w'.cell? ⟨w.heap.size, j, none⟩ = _ := fun j => cell_of_row w' w.heap.size j _ _ (0, 0) h
  have hi : i = 0 ∨ i = 1 ∨ i = 2 := by omega
  rcases hi with rfl | rfl | rfl
  · exact ⟨7, 0, ⟨#[31, 139, 8]⟩, rfl, by decide, by decide, hcell _, hcell _, hcell _⟩
  · exact ⟨9, 0, ⟨#[80, 75, 3, 4]⟩, rfl, by decide, by decide, hcell _, hcell _, hcell _⟩
  · exact ⟨8, 257, ⟨#[117, 115, 116, 97, 114]⟩, rfl, by decide, by decide, hcell _, hcell _, hcell _⟩

set_option maxHeartbeats 1000000 in
set_option maxRecDepth 100000 in
theorem sniff_any (A : Option Addr) (n c : Nat) (l : List Int) (e : Bool) (w : World) (hl : l.length = n) (hn : n ≤ 140737488355328) (hc : RB w A l) :
    Calls Try.prog 7 #[.slice A n c, .bool e] w fun e' w' => e' = .returned (.tuple #[.int .i64 (sniff l e false marks).1, .bool (sniff l e false marks).2]) ∧ Below w.heap.size w w' := by
  have HC := Lib.hid hc
  have HL : Aside (l.length = n) := hl
  clear hc hl
  go_enter Try.func7, Try.ntmps7
  go_wp2
  go_step3
  go_wp2
  go_step3
  go_wp2
  go_loopg [7, 17] 3 (fun g s7 s17 wx => ∃ (i : Nat) (op : Bool), i + g = 3 ∧ s17 = .int .i64 i ∧ s7 = .bool op ∧ Aside (sniff l e op (marks.drop i) = sniff l e false marks) ∧ Aside (MB w wx) ∧ Below w.heap.size w wx)
  case atStart => exact ⟨0, false, rfl, rfl, rfl, rfl, heap_alloc_new w _, (Below.refl _ _).alloc (Nat.le_refl _) _⟩
  case round =>
    obtain ⟨i, op, hig, rfl, rfl, HS, HM, hbx⟩ := hrel
    cases gk with
    | zero =>
      have h3 : ¬ ((i : Int) < 3) := by omega
      obtain rfl : i = 3 := by omega
      have HE : Hid (sniff l e false marks = if op && !e then (0, false) else (1, true)) := by rw [← HS.out]; rfl
      clear HS
      cases op <;> cases e
      all_goals
        go_wp2
        go_ret2
        rw [HE.out]
        exact ⟨rfl, hbx⟩
    | succ g =>
      have h3 : (i : Int) < 3 := by omega
      obtain ⟨K, at0, T, hd, hT, ha, c0, c1, c2⟩ := mark_at (HM.out) (show i < 3 by omega)
      have HD := Lib.hid hd
      clear hd
      have HM2 : ∀ q, Aside (MB w ((wr.alloc (.cells #[.int .i64 K, .int .i64 at0, .string T] 31)).drewN q)) := fun q => by
        show MB w _
        unfold MB
        have hb2 : Below wr.heap.size wr ((wr.alloc (.cells #[.int .i64 K, .int .i64 at0, .string T] 31)).drewN q) := below_drewN ((Below.refl wr.heap.size wr).alloc (Nat.le_refl _) _) q
        have hm := HM.out
        unfold MB at hm
        have hlt : w.heap.size < wr.heap.size := by
          rcases Nat.lt_or_ge w.heap.size wr.heap.size with h | h
          · exact h
          · rw [Array.getElem?_eq_none h] at hm; cases hm
        exact (hb2.block _ hlt).trans hm
      clear HM
      go_wp2
      go_loopg [7, 24] T.size (fun g2 s7 s24 wy => ∃ (k q : Nat), k + g2 = T.size ∧ s7 = .bool op ∧ s24 = .int .i64 k ∧ Aside (cmp l (at0 + k) ((T.data.toList.map fun x => (x.toNat : Int)).drop k) = cmp l at0 (T.data.toList.map fun x => (x.toNat : Int))) ∧ (wr.alloc (.cells #[.int .i64 K, .int .i64 at0, .string T] 31)).drewN q = wy)
      case atStart => exact ⟨0, 0, by omega, rfl, rfl, rfl, rfl⟩
      case round =>
        obtain ⟨k, q, hkg, rfl, rfl, HJ, rfl⟩ := hrel
        cases gk with
        | zero =>
          have hk : ¬ ((k : Int) < (T.size : Int)) := by omega
          have h2 : cmp l at0 (T.data.toList.map fun x => (x.toNat : Int)) = 2 := by
            rw [← HJ.out, List.drop_eq_nil_of_le (by simp; show T.size ≤ k; omega)]; rfl
          have he : sniff l e false marks = if op && !e then (0, false) else (K, true) := by rw [← HS.out, HD.out]; simp [sniff, h2]
          have HE := Lib.hid he
          have hbe : Below w.heap.size w ((wr.alloc (.cells #[.int .i64 K, .int .i64 at0, .string T] 31)).drewN q) := below_drewN (hbx.alloc hbx.size _) q
          clear HS HD HJ h2 he
          cases op <;> cases e
          all_goals
            go_wp2
            (try rw [Exit.noGoto_ret])
            go_ret2
            rw [HE.out]
            exact ⟨rfl, hbe⟩
        | succ g2 =>
          have hk : ((k : Int) < (T.size : Int)) := by omega
          by_cases hlen : n ≤ at0 + k
          · have hlen2 : (n : Int) ≤ (at0 : Int) + (k : Int) := by omega
            have hcm : cmp l at0 (T.data.toList.map fun x => (x.toNat : Int)) = 0 := by
              rw [← HJ.out, List.drop_eq_getElem_cons (by simp; show k < T.size; omega)]
              simp only [cmp]
              rw [List.getElem?_eq_none (by rw [HL.out]; omega)]
            have he : sniff l e true (marks.drop (i + 1)) = sniff l e false marks := by rw [← HS.out, HD.out]; simp [sniff, hcm]
            have HE := Lib.hid he
            clear he hcm
            go_wp2
            go_roundg g
            case measure => omega
            case rel => exact ⟨i + 1, true, by omega, by go_num, rfl, HE.out, HM2 q, below_drewN (hbx.alloc hbx.size _) q⟩
          · have hlen2 : ¬ (n : Int) ≤ (at0 : Int) + (k : Int) := by omega
            have hx0 : (0 : Int) ≤ (at0 : Int) + (k : Int) := by omega
            have hx1 : (at0 : Int) + (k : Int) < (n : Int) := by omega
            have hk0 : (0 : Int) ≤ (k : Int) := by omega
            have htn : ((at0 : Int) + (k : Int)).toNat = at0 + k := by omega
            obtain ⟨x, hx⟩ : ∃ x, l[at0 + k]? = some x := ⟨_, List.getElem?_eq_getElem (by rw [HL.out]; omega)⟩
            obtain ⟨b, off, rfl, hb, hcw⟩ := HC.out.get hx
            have hbw : b < wr.heap.size := Nat.lt_of_lt_of_le hb hbx.size
            have hcx : wr.cell? ⟨b, off + (at0 + k), none⟩ = some (.int .u8 x) := (hbx.cell (p := ⟨b, off + (at0 + k), none⟩) hb).trans hcw
            have hcy : (wr.alloc (.cells #[.int .i64 K, .int .i64 at0, .string T] 31)).cell? ⟨b, off + (at0 + k), none⟩ = some (.int .u8 x) :=
              (((Below.refl wr.heap.size wr).alloc (Nat.le_refl _) _).cell (p := ⟨b, off + (at0 + k), none⟩) hbw).trans hcx
            have HX := Lib.hid hx
            clear hx hcw
            have hww : IntKind.i64.wrap ((at0 : Int) + (k : Int)) = (at0 : Int) + (k : Int) := IntWalk.i64_in _ (by omega)
            go_wp2
            go_quiet (fail)
            clear hww
            have hkT : k < T.size := by omega
            have hdr : (T.data.toList.map fun x => (x.toNat : Int)).drop k = (T[k].toNat : Int) :: (T.data.toList.map fun x => (x.toNat : Int)).drop (k + 1) := by
              rw [List.drop_eq_getElem_cons (by simp; exact hkT)]
              simp
              rfl
            have HDR := Lib.hid hdr
            clear hdr
            go_wp2
            · have hne : ¬ x = (T[k].toNat : Int) := by
                have h : (x != (T[k].toNat : Int)) = true := by assumption
                exact bne_iff_ne.1 h
              have hcm : cmp l at0 (T.data.toList.map fun x => (x.toNat : Int)) = 1 := by
                rw [← HJ.out, HDR.out]
                simp only [cmp]
                rw [HX.out]
                exact if_neg hne
              have he : sniff l e op (marks.drop (i + 1)) = sniff l e false marks := by rw [← HS.out, HD.out]; simp [sniff, hcm]
              go_roundg g
              case measure => omega
              case rel => exact ⟨i + 1, op, by omega, by go_num, rfl, he, HM2 _, below_drewN (hbx.alloc hbx.size _) _⟩
            · have hne : x = (T[k].toNat : Int) := by
                have h : (x != (T[k].toNat : Int)) = false := by assumption
                exact bne_eq_false_iff_eq.1 h
              have hcm : cmp l (at0 + (k + 1)) ((T.data.toList.map fun x => (x.toNat : Int)).drop (k + 1)) = cmp l at0 (T.data.toList.map fun x => (x.toNat : Int)) := by
                rw [← HJ.out, HDR.out]
                simp only [cmp]
                rw [HX.out]
                simp only [if_pos hne]
                rfl
              go_roundg g2
              case measure => omega
              case rel => exact ⟨k + 1, _, by omega, rfl, by go_num, hcm, rfl⟩
end Go.Proofs.Ytbmnedgoonaneaa.Sn
