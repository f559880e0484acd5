/- The reference's tables: Kraft, begins, Look. -/
import Derived.Test.YtdpnlmofkkdioaaDoorIh
import Derived.Test.YtdpnlmofkkdioaaDoorKeep
import Derived.Test.YtdpnlmofkkdioaaDoorIl
namespace Go.Proofs.YtdpnlmofkkdioaaDoor.Hf
set_option linter.unusedVariables false
set_option linter.unusedSimpArgs false
open Go.RowKit Go.Proofs.YtdpnlmofkkdioaaDoor.W

set_option maxHeartbeats 1000000 in
set_option maxRecDepth 100000 in
theorem r_kraft (A : Option Addr) (L c : Nat) (ls : List Nat) (w : World) (hL : ls.length = L) (hl : L ≤ 320) (hle : ∀ n ∈ ls, n ≤ 15) (hr : RV w A (ints ls)) :
    Calls Tryd.prog 44 #[.slice A L c] w (KraftPost w ls) := by
  have HLE := Lib.hid hle
  have HR := Lib.hid hr
  have HL := Lib.hid hL
  have hl2 : (L : Int) ≤ 320 := by omega
  clear hle hr hL
  go_enter Tryd.func44, Tryd.ntmps44
  go_wp2
  go_loopg [4, 5] L (fun g s4 s9 wx => ∃ k : Nat, k + g = L ∧ s9 = .int .i64 k ∧ s4 = .int .i64 (kraft (ls.take k)) ∧ w = wx)
  case atStart => exact ⟨0, by omega, rfl, rfl, rfl⟩
  case round =>
    obtain ⟨k, hkg, rfl, rfl, rfl⟩ := hrel
    cases gk with
    | zero =>
      obtain rfl : k = L := by omega
      have hk : ¬ (k : Int) < (k : Int) := by omega
      have HT := Lib.hid (show ls.take k = ls from List.take_of_length_le (by rw [HL.out]; exact Nat.le_refl _))
      go_wp2
      go_ret2
      exact ⟨by rw [HT.out]; rfl, rfl⟩
    | succ g =>
      have hk : (k : Int) < (L : Int) := by omega
      obtain ⟨n, hn⟩ : ∃ n, ls[k]? = some n := ⟨_, List.getElem?_eq_getElem (by rw [HL.out]; omega)⟩
      have hn15 := HLE.out n (List.mem_of_getElem? hn)
      obtain ⟨b, off, rfl, hb, hc⟩ := ints_at HR.out hn
      have HS := Lib.hid (kraft_snoc hn)
      have hkb := kraft_le (ls.take k)
      have hkl : kraft (ls.take k) ≤ 5242880 := by
        rw [List.length_take] at hkb
        have : min k ls.length * 16384 ≤ 320 * 16384 := Nat.mul_le_mul_right _ (by rw [HL.out]; omega)
        omega
      clear hn hkb
      obtain ⟨K, hK⟩ : ∃ K, kraft (ls.take k) = K := ⟨_, rfl⟩
      rw [hK] at hkl ⊢
      have HK := Lib.hid hK
      clear hK
      by_cases h0 : 0 < n
      · have h0i : (0 : Int) < (n : Int) := by omega
        go_wp2
        have hp : 2 ^ (15 - n) ≤ 2 ^ 15 := Nat.pow_le_pow_right (by omega) (by omega)
        obtain ⟨P, hP⟩ : ∃ P : Nat, 2 ^ (15 - n) = P := ⟨_, rfl⟩
        have e0 : ((2 : Int) ^ (15 - n)) = (P : Int) := by rw [← hP]; push_cast; rfl
        rw [hP] at hp
        have eK : wrap64 ((K : Int) + (P : Int)) = ((K + P : Nat) : Int) := by rw [IntWalk.wrap64_in _ (by omega)]; omega
        have eP : wrap64 (P : Int) = (P : Int) := IntWalk.wrap64_in _ (by omega)
        rw [e0, eP, eK]
        have HP := Lib.hid hP
        clear e0 eP eK hP
        go_roundg g
        case measure => omega
        case rel => exact ⟨k + 1, by omega, by go_num, by rw [HS.out, HK.out, if_pos h0, HP.out], rfl⟩
      · obtain rfl : n = 0 := by omega
        go_wp2
        go_roundg g
        case measure => omega
        case rel => exact ⟨k + 1, by omega, by go_num, by rw [HS.out, HK.out, if_neg h0]; rfl, rfl⟩

def bls (l : List Bool) : List Value := l.map Value.bool
theorem bls_length (l : List Bool) : (bls l).length = l.length := List.length_map ..
theorem bls_at {w : World} {A : Option Addr} {l : List Bool} (h : RV w A (bls l)) {i : Nat} {x : Bool} (hx : l[i]? = some x) : ∃ b off, A = some ⟨b, off, none⟩ ∧ b < w.heap.size ∧ w.cell? ⟨b, off + i, none⟩ = some (.bool x) :=
  h i _ (by simp [bls, hx])
theorem pre_snoc {a b : List Bool} {k : Nat} {x : Bool} (h : b[k]? = some x) (h2 : a[k]? = some x) (hp : b.take k = a.take k) : b.take (k + 1) = a.take (k + 1) := by
  obtain ⟨h1, h3⟩ := List.getElem?_eq_some_iff.1 h
  obtain ⟨h4, h5⟩ := List.getElem?_eq_some_iff.1 h2
  rw [List.take_succ_eq_append_getElem h1, List.take_succ_eq_append_getElem h4, hp, h3, h5]
theorem pre_ne {a b : List Bool} {k : Nat} {x y : Bool} (h : b[k]? = some x) (h2 : a[k]? = some y) (hne : y ≠ x) : ¬ b <+: a := by
  rintro ⟨t, rfl⟩
  rw [List.getElem?_append_left (List.getElem?_eq_some_iff.1 h).1, h] at h2
  injection h2 with h2
  exact hne h2.symm
def BegIs (w : World) (b : Bool) (e : Ending) (w' : World) : Prop := e = .returned (.bool b) ∧ ∃ d, w' = w.drewN d
set_option maxHeartbeats 1000000 in
set_option maxRecDepth 100000 in
theorem r_begins (A A2 : Option Addr) (n m c c2 : Nat) (a b : List Bool) (w : World) (hl : a.length = n) (hm : b.length = m) (hn : n ≤ 1000) (hm2 : m ≤ 1000) (hr : RV w A (bls a)) (hr2 : RV w A2 (bls b)) :
    Calls Tryd.prog 75 #[.slice A n c, .slice A2 m c2] w (BegIs w (b.isPrefixOf a)) := by
  have HC := Lib.hid hr
  have HC2 := Lib.hid hr2
  have HL := Lib.hid hl
  have HL2 := Lib.hid hm
  clear hr hr2 hl hm
  by_cases hnm : m ≤ n
  · have hg : ¬ (n : Int) < (m : Int) := by omega
    go_enter Tryd.func75, Tryd.ntmps75
    go_wp2
    go_loopg [5] m (fun g t wx => ∃ k d : Nat, k + g = m ∧ t = .int .i64 k ∧ wx = w.drewN d ∧ Hid (b.take k = a.take k))
    case atStart => exact ⟨0, 0, by omega, rfl, rfl, Lib.hid rfl⟩
    case round =>
      obtain ⟨k, d, hkg, rfl, rfl, hT⟩ := hrel
      cases gk with
      | zero =>
        obtain rfl : k = m := by omega
        have hk : ¬ (k : Int) < (k : Int) := by omega
        have HE := Lib.hid (show b.isPrefixOf a = true by
          rw [List.isPrefixOf_iff_prefix]
          have h := hT.out
          rw [List.take_of_length_le (by rw [HL2.out]; exact Nat.le_refl _)] at h
          rw [h]
          exact List.take_prefix _ _)
        go_wp2
        go_ret
        exact ⟨by rw [HE.out]; rfl, _, rfl⟩
      | succ g =>
        have hk : (k : Int) < (m : Int) := by omega
        have hkn : (k : Int) < (n : Int) := by omega
        obtain ⟨x, hx⟩ : ∃ x, a[k]? = some x := ⟨_, List.getElem?_eq_getElem (by rw [HL.out]; omega)⟩
        obtain ⟨y, hy⟩ : ∃ y, b[k]? = some y := ⟨_, List.getElem?_eq_getElem (by rw [HL2.out]; omega)⟩
        obtain ⟨b1, off, rfl, hb, hc⟩ := bls_at HC.out hx
        obtain ⟨b2, off2, rfl, hb2, hc2⟩ := bls_at HC2.out hy
        have HX := Lib.hid hx
        have HY := Lib.hid hy
        clear hx hy
        by_cases hxy : x = y
        · subst hxy
          have HT := Lib.hid (pre_snoc HY.out HX.out hT.out)
          have e1 : (x != x) = false := by simp
          go_wp2
          go_quiet (fail)
          go_wp2
          go_roundg g
          case measure => omega
          case rel => exact ⟨k + 1, _, by omega, by go_num, rfl, HT⟩
        · have HE := Lib.hid (show b.isPrefixOf a = false by
            rw [← Bool.not_eq_true, List.isPrefixOf_iff_prefix]
            exact pre_ne HY.out HX.out hxy)
          have e1 : (x == y) = false := by simp [hxy]
          clear hxy
          go_wp2
          go_quiet (fail)
          go_wp2
          go_ret
          exact ⟨by rw [HE.out]; rfl, _, World.drewN_drewN ..⟩
  · have hg : (n : Int) < (m : Int) := by omega
    have HE := Lib.hid (show b.isPrefixOf a = false by
      rw [← Bool.not_eq_true, List.isPrefixOf_iff_prefix]
      intro h
      have := h.length_le
      rw [HL.out, HL2.out] at this
      omega)
    go_enter Tryd.func75, Tryd.ntmps75
    go_wp2
    go_ret
    exact ⟨by rw [HE.out]; rfl, 0, rfl⟩

/-- The reference's table at block p. -/
structure Tr (w : World) (p : Nat) (lens : List Nat) : Prop where
  ex : ∃ (g : Nat) (cs : Array Value), w.heap[p]? = some (.cells #[.slice (some ⟨g, 0, none⟩) lens.length lens.length] 86 (0, 0)) ∧ w.heap[g]? = some (.cells cs 87 (0, 0)) ∧
    ∀ i, i < lens.length → ∃ (A : Option Addr) (m c : Nat), cs[i]? = some (.slice A m c) ∧ m = (code lens i).length ∧ ∀ (j : Nat) (v : Value), (bls (code lens i))[j]? = some v → ∃ (b : Nat) (xs : Array Value), A = some ⟨b, 0, none⟩ ∧ w.heap[b]? = some (.cells xs 4 (0, 0)) ∧ xs[j]? = some v
/-- What a call on the reference's run keeps: what lies below B, and what is neither bytes nor numbers nor the run. -/
structure Fr (B : Nat) (w w' : World) : Prop where
  os : w'.os = w.os
  tape : w'.tape = w.tape
  output : w'.output = w.output
  size : w.heap.size ≤ w'.heap.size
  block : ∀ k o, w.heap[k]? = some o → (k < B ∨ ∃ cs t, o = .cells cs t (0, 0) ∧ (t = 86 ∨ t = 87 ∨ t = 4)) → w'.heap[k]? = some o
theorem Fr.refl (B : Nat) (w : World) : Fr B w w := ⟨rfl, rfl, rfl, Nat.le_refl _, fun _ _ h _ => h⟩
theorem Fr.trans {B : Nat} {a b c : World} (h : Fr B a b) (k : Fr B b c) : Fr B a c :=
  ⟨k.os.trans h.os, k.tape.trans h.tape, k.output.trans h.output, Nat.le_trans h.size k.size, fun i o hi ho => k.block i o (h.block i o hi ho) ho⟩
theorem Fr.of_kp {B : Nat} {S : List Nat} {a b : World} (h : Kp S a b) (hS : ∀ k ∈ S, a.heap.size ≤ k ∨ B ≤ k ∧ ∃ cs t, a.heap[k]? = some (.cells cs t (0, 0)) ∧ t ≠ 86 ∧ t ≠ 87 ∧ t ≠ 4) : Fr B a b :=
  ⟨h.os, h.tape, h.output, h.size, fun k o ho hk => by
    have hlt : k < a.heap.size := (Array.getElem?_eq_some_iff.1 ho).1
    rw [h.block k hlt, ho]
    intro hm
    rcases hS k hm with h1 | ⟨h1, cs, t, h2, h3, h4, h5⟩
    · omega
    · rcases hk with hk | ⟨cs', t', hk, ht⟩
      · omega
      · subst hk
        rw [h2] at ho
        injection ho with ho
        injection ho with _ ho
        subst ho
        rcases ht with ht | ht | ht
        · exact h3 ht
        · exact h4 ht
        · exact h5 ht⟩
theorem Fr.below {B : Nat} {a b : World} (h : Fr B a b) (hB : B ≤ a.heap.size) : Below B a b :=
  ⟨h.os, h.tape, h.output, h.size, fun k hk => by
    obtain ⟨o, ho⟩ : ∃ o, a.heap[k]? = some o := ⟨_, Array.getElem?_eq_getElem (by omega)⟩
    rw [ho]
    exact h.block k o ho (.inl hk)⟩
theorem Tr.fr {B : Nat} {w w' : World} {p : Nat} {lens : List Nat} (h : Tr w p lens) (hf : Fr B w w') : Tr w' p lens := by
  obtain ⟨g, cs, h1, h2, h3⟩ := h.ex
  refine ⟨g, cs, hf.block p _ h1 (.inr ⟨_, _, rfl, .inl rfl⟩), hf.block g _ h2 (.inr ⟨_, _, rfl, .inr (.inl rfl)⟩), fun i hi => ?_⟩
  obtain ⟨A, m, c, h4, h5, h6⟩ := h3 i hi
  refine ⟨A, m, c, h4, h5, fun j v hv => ?_⟩
  obtain ⟨b, xs, h7, h8, h9⟩ := h6 j v hv
  exact ⟨b, xs, h7, hf.block b _ h8 (.inr ⟨_, _, rfl, .inr (.inr rfl)⟩), h9⟩
theorem Tr.row {w : World} {p : Nat} {lens : List Nat} (h : Tr w p lens) : ∃ g, w.cell? ⟨p, 0, none⟩ = some (.slice (some ⟨g, 0, none⟩) lens.length lens.length) ∧ ∀ i, i < lens.length → ∃ A m c, w.cell? ⟨g, i, none⟩ = some (.slice A m c) ∧ m = (code lens i).length ∧ RV w A (bls (code lens i)) := by
  obtain ⟨g, cs, h1, h2, h3⟩ := h.ex
  refine ⟨g, cell_of_row w p 0 _ _ _ h1, fun i hi => ?_⟩
  obtain ⟨A, m, c, h4, h5, h6⟩ := h3 i hi
  refine ⟨A, m, c, (cell_of_row w g i _ _ _ h2).trans h4, h5, fun j v hv => ?_⟩
  obtain ⟨b, xs, h7, h8, h9⟩ := h6 j v hv
  exact ⟨b, 0, h7, (Array.getElem?_eq_some_iff.1 h8).1, by rw [Nat.zero_add, cell_of_row w b j _ _ _ h8]; exact h9⟩

def mor (lens : List Nat) (held : List Bool) (i : Nat) : Bool := (List.range i).any (fun j => decide (code lens j ≠ []) && held.isPrefixOf (code lens j))
theorem mor_succ (lens : List Nat) (held : List Bool) (i : Nat) : mor lens held (i + 1) = (mor lens held i || (decide (code lens i ≠ []) && held.isPrefixOf (code lens i))) := by
  unfold mor
  rw [List.range_succ, List.any_append]
  simp
def NoHit (lens : List Nat) (held : List Bool) (i : Nat) : Prop := ∀ j, j < i → code lens j ≠ [] → (code lens j).isPrefixOf held = false
theorem NoHit.succ {lens : List Nat} {held : List Bool} {i : Nat} (h : NoHit lens held i) (h2 : code lens i ≠ [] → (code lens i).isPrefixOf held = false) : NoHit lens held (i + 1) := fun j hj hc => by
  rcases Nat.lt_succ_iff_lt_or_eq.1 hj with h3 | rfl
  · exact h j h3 hc
  · exact h2 hc
theorem look_found {lens : List Nat} {held : List Bool} {i : Nat} (h : NoHit lens held i) (hi : i < lens.length) (hc : code lens i ≠ []) (hp : (code lens i).isPrefixOf held = true) : lookAt lens held = .got i (code lens i).length := by
  have hf : (List.range lens.length).find? (fun i => decide (code lens i ≠ []) && (code lens i).isPrefixOf held) = some i := by
    rw [List.find?_range_eq_some]
    refine ⟨by simp [hc, hp], by simpa using hi, fun j hj => ?_⟩
    by_cases h0 : code lens j = []
    · simp [h0]
    · simp [h j hj h0]
  unfold lookAt
  rw [hf]
theorem look_end {lens : List Nat} {held : List Bool} (h : NoHit lens held lens.length) : lookAt lens held = if mor lens held lens.length then .more else .bad := by
  have hn : (List.range lens.length).find? (fun i => decide (code lens i ≠ []) && (code lens i).isPrefixOf held) = none := by
    rw [List.find?_eq_none]
    intro i hi
    by_cases h0 : code lens i = []
    · simp [h0]
    · simp [h i (by simpa using hi) h0]
  unfold lookAt
  rw [hn]
  rfl
def lkS : Lk → Nat
  | .got s _ => s
  | _ => 0
def lkH : Lk → Nat
  | .got _ _ => 0
  | .more => 1
  | .bad => 2
def lkN : Lk → Nat
  | .got _ n => n
  | _ => 0
def LookIs (w : World) (k : Lk) (e : Ending) (w' : World) : Prop := e = .returned (.tuple #[.int .i64 (lkS k : Nat), .int .i64 (lkH k : Nat), .int .i64 (lkN k : Nat)]) ∧ ∃ d, w' = w.drewN d

theorem code_len15 {lens : List Nat} (hle : ∀ n ∈ lens, n ≤ 15) {i : Nat} (hi : i < lens.length) : (code lens i).length ≤ 15 := by
  have h1 : lens[i]? = some (lens.getD i 0) := by simp [List.getD, List.getElem?_eq_getElem hi]
  rw [code_length h1]
  exact hle _ (List.mem_of_getElem? h1)
set_option maxHeartbeats 2000000 in
set_option maxRecDepth 100000 in
theorem r_look (p : Nat) (lens : List Nat) (A : Option Addr) (n c : Nat) (held : List Bool) (w : World) (ht : Tr w p lens) (hlen : lens.length ≤ 320) (hle : ∀ n ∈ lens, n ≤ 15) (hh : held.length = n) (hn : n ≤ 1000) (hr : RV w A (bls held)) :
    Calls Tryd.prog 63 #[.pointer (some ⟨p, 0, none⟩), .slice A n c] w (LookIs w (lookAt lens held)) := by
  obtain ⟨g, hc0, hrow⟩ := ht.row
  have HROW := Lib.hid hrow
  have HT := Lib.hid ht
  have HH := Lib.hid hh
  have HR := Lib.hid hr
  have HLE := Lib.hid hle
  obtain ⟨L, hL⟩ : ∃ L, lens.length = L := ⟨_, rfl⟩
  rw [hL] at hlen hc0
  have HL := Lib.hid hL
  clear hrow ht hh hr hle hL
  go_enter Tryd.func63, Tryd.ntmps63
  go_wp2
  go_loopg [7, 8] L (fun g t7 t8 wx => ∃ i d : Nat, i + g = L ∧ t7 = .bool (mor lens held i) ∧ t8 = .int .i64 i ∧ wx = w.drewN d ∧ Hid (NoHit lens held i))
  case atStart => exact ⟨0, 0, by omega, rfl, rfl, rfl, Lib.hid (fun j hj => by omega)⟩
  case round =>
    obtain ⟨i, d, hig, rfl, rfl, rfl, hT⟩ := hrel
    cases gk with
    | zero =>
      obtain rfl : i = L := by omega
      have hk : ¬ (i : Int) < (i : Int) := by omega
      have HE := Lib.hid (show lookAt lens held = if mor lens held i then .more else .bad by rw [← HL.out]; exact look_end (by rw [HL.out]; exact hT.out))
      generalize mor lens held i = mb at *
      cases mb with
      | true =>
        go_wp2
        go_ret3
        exact ⟨by rw [HE.out]; rfl, _, rfl⟩
      | false =>
        go_wp2
        go_ret3
        exact ⟨by rw [HE.out]; rfl, _, rfl⟩
    | succ g' =>
      have hk : (i : Int) < (L : Int) := by omega
      obtain ⟨A2, m, c2, h1, h2, h3⟩ := HROW.out i (by rw [HL.out]; omega)
      have h15 := code_len15 HLE.out (i := i) (by rw [HL.out]; omega)
      rw [← h2] at h15
      have HM := Lib.hid h2
      have HC := Lib.hid h3
      have HMS := Lib.hid (mor_succ lens held i)
      clear h2 h3
      rcases Nat.eq_zero_or_pos m with h0 | h0
      · subst h0
        have hcn : code lens i = [] := List.eq_nil_of_length_eq_zero HM.out.symm
        have HS := Lib.hid (hT.out.succ (fun h => absurd hcn h))
        have HMM := Lib.hid (show mor lens held (i + 1) = mor lens held i by rw [HMS.out, hcn]; simp)
        clear hcn
        go_wp2
        go_roundg g'
        case measure => omega
        case rel => exact ⟨i + 1, d, by omega, by rw [HMM.out], by go_num, rfl, HS⟩
      · have hm0 : ¬ (m : Int) = 0 := by omega
        have hcn : code lens i ≠ [] := fun h => by have := HM.out; rw [h] at this; simp at this; omega
        have HCN := Lib.hid hcn
        clear hcn
        have C1 := Lib.hid (r_begins A A2 n m c c2 held (code lens i) (w.drewN d) HH.out HM.out.symm hn (by omega) HR.out HC.out)
        have C2 := Lib.hid (fun d2 => r_begins A2 A m n c2 c (code lens i) held (w.drewN d2) HM.out.symm HH.out (by omega) hn HC.out HR.out)
        have tk1 : True := trivial
        cases hb : (code lens i).isPrefixOf held with
        | true =>
          have HE := Lib.hid (look_found hT.out (by rw [HL.out]; omega) HCN.out hb)
          rw [hb] at C1
          clear hb
          go_wp2_with (first
            | (go_at_call 75; go_must (refine C1.out.mono ?_); rintro e w2 ⟨rfl, d2, rfl⟩))
          go_ret3
          exact ⟨by rw [HE.out, HM.out]; rfl, _, rfl⟩
        | false =>
          have HS := Lib.hid (hT.out.succ (fun _ => hb))
          rw [hb] at C1
          clear hb
          generalize mor lens held i = mb at *
          cases mb with
          | true =>
            go_wp2_with (first
              | (go_at_call 75; have _t := tk1; go_must (refine C1.out.mono ?_); rintro e w2 ⟨rfl, d2, rfl⟩; rw [World.drewN_drewN]; clear tk1 _t))
            go_roundg g'
            case measure => omega
            case rel => exact ⟨i + 1, _, by omega, by rw [HMS.out]; rfl, by go_num, rfl, HS⟩
          | false =>
            have HMM := Lib.hid (show mor lens held (i + 1) = held.isPrefixOf (code lens i) by rw [HMS.out]; simp [HCN.out])
            generalize hbb : held.isPrefixOf (code lens i) = bb at *
            go_wp2_with (first
              | (go_at_call 75; have _t := tk1; go_must (refine C1.out.mono ?_); rintro e w2 ⟨rfl, d2, rfl⟩; rw [World.drewN_drewN]; clear tk1 _t)
              | (go_at_call 75; go_must (refine (C2.out _).mono ?_); rintro e w3 ⟨rfl, d3, rfl⟩; rw [World.drewN_drewN]))
            go_roundg g'
            case measure => omega
            case rel => exact ⟨i + 1, _, by omega, by rw [HMM.out], by go_num, rfl, HS⟩
end Go.Proofs.YtdpnlmofkkdioaaDoor.Hf
/- The reference's tables: New. -/
namespace Go.Proofs.YtdpnlmofkkdioaaDoor.Hf
set_option linter.unusedVariables false
set_option linter.unusedSimpArgs false
open Go.RowKit Go.Proofs.YtdpnlmofkkdioaaDoor.W

theorem bool1 : El Tryd.prog 87 4 (.bool false) 1 := ⟨Tryd.underlying87, by kernel_rfl, rfl⟩
theorem rows24 : El Tryd.prog 84 87 (.slice none 0 0) 24 := ⟨Tryd.underlying84, by kernel_rfl, rfl⟩

/-- The table under way: the codes of less than n bits, and of n bits those ahead of i. -/
structure Nt (w wz : World) (p g : Nat) (ls : List Nat) (n i : Nat) : Prop where
  tab : wz.heap[p]? = some (.cells #[.slice (some ⟨g, 0, none⟩) ls.length ls.length] 86 (0, 0))
  row : ∃ cs : Array Value, wz.heap[g]? = some (.cells cs 87 (0, 0)) ∧ cs.size = ls.length ∧ ∀ j, j < ls.length →
    ((0 < ls.getD j 0 ∧ (ls.getD j 0 < n ∨ ls.getD j 0 = n ∧ j < i)) → ∃ b : Nat, cs[j]? = some (.slice (some ⟨b, 0, none⟩) (code ls j).length (code ls j).length) ∧ wz.heap[b]? = some (.cells (bls (code ls j)).toArray 4 (0, 0)) ∧ b ≠ g) ∧
    (¬ (0 < ls.getD j 0 ∧ (ls.getD j 0 < n ∨ ls.getD j 0 = n ∧ j < i)) → cs[j]? = some (.slice none 0 0))
  kp : Kp [] w wz
  hp : w.heap.size ≤ p
  hg : w.heap.size ≤ g
  ne : p ≠ g
section
variable {w wz w2 : World} {p g n i : Nat} {ls : List Nat}
theorem Nt.same (h : Nt w wz p g ls n i) {n' i' : Nat} (hs : ∀ j, j < ls.length → ((0 < ls.getD j 0 ∧ (ls.getD j 0 < n ∨ ls.getD j 0 = n ∧ j < i)) ↔ (0 < ls.getD j 0 ∧ (ls.getD j 0 < n' ∨ ls.getD j 0 = n' ∧ j < i')))) : Nt w wz p g ls n' i' := by
  obtain ⟨cs, h1, h2, h3⟩ := h.row
  exact ⟨h.tab, ⟨cs, h1, h2, fun j hj => ⟨fun h4 => (h3 j hj).1 ((hs j hj).2 h4), fun h4 => (h3 j hj).2 (fun h5 => h4 ((hs j hj).1 h5))⟩⟩, h.kp, h.hp, h.hg, h.ne⟩
theorem Nt.skip (h : Nt w wz p g ls n i) (hne : ls.getD i 0 ≠ n) : Nt w wz p g ls n (i + 1) := h.same fun j _ => by
  rcases Nat.lt_trichotomy j i with h1 | h1 | h1
  · constructor <;> (rintro ⟨h2, h3⟩; exact ⟨h2, by omega⟩)
  · subst h1
    constructor <;> (rintro ⟨h2, h3⟩; exact ⟨h2, by omega⟩)
  · constructor <;> (rintro ⟨h2, h3⟩; exact ⟨h2, by omega⟩)
theorem Nt.turn (h : Nt w wz p g ls n ls.length) : Nt w wz p g ls (n + 1) 0 := h.same fun j _ => by
  constructor <;> (rintro ⟨h2, h3⟩; exact ⟨h2, by omega⟩)
theorem Nt.lts (h : Nt w wz p g ls n i) : p < wz.heap.size ∧ g < wz.heap.size := by
  obtain ⟨cs, h1, _⟩ := h.row
  exact ⟨(Array.getElem?_eq_some_iff.1 h.tab).1, (Array.getElem?_eq_some_iff.1 h1).1⟩
theorem Nt.put (h : Nt w wz p g ls n i) (hi : ls[i]? = some n) (hn : 0 < n) (hk : Kp [] wz w2) {b : Nat} (hb : w2.heap[b]? = some (.cells (bls (code ls i)).toArray 4 (0, 0))) (hbg : wz.heap.size ≤ b) :
    Nt w (w2.setCell ⟨g, i, none⟩ (.slice (some ⟨b, 0, none⟩) n n)) p g ls n (i + 1) := by
  obtain ⟨cs, h1, h2, h3⟩ := h.row
  obtain ⟨l1, l2⟩ := h.lts
  have hil := (List.getElem?_eq_some_iff.1 hi).1
  have hgd := getD_of hi
  have hcl := code_length hi
  have hg2 : w2.heap[g]? = some (.cells cs 87 (0, 0)) := (hk.block g l2 (by simp)).trans h1
  have hk2 : Kp [g] w2 (w2.setCell ⟨g, i, none⟩ (.slice (some ⟨b, 0, none⟩) n n)) := (Kp.refl _ _).setCell (.inl (by simp)) _
  have hbl : b < w2.heap.size := (Array.getElem?_eq_some_iff.1 hb).1
  refine ⟨?_, ⟨cs.setIfInBounds i (.slice (some ⟨b, 0, none⟩) n n), heap_set hg2 i _, by rw [Array.size_setIfInBounds, h2], fun j hj => ?_⟩, ?_, h.hp, h.hg, h.ne⟩
  · refine (hk2.block p (Nat.lt_of_lt_of_le l1 hk.size) (by simp; exact h.ne)).trans ?_
    exact (hk.block p l1 (by simp)).trans h.tab
  · rw [Array.getElem?_setIfInBounds]
    by_cases hji : i = j
    · subst hji
      rw [if_pos rfl, if_pos (by omega), hcl]
      refine ⟨fun _ => ⟨b, rfl, (hk2.block b hbl (by simp; omega)).trans hb, by omega⟩, fun h4 => absurd ⟨by omega, .inr ⟨hgd, by omega⟩⟩ h4⟩
    · rw [if_neg hji]
      refine ⟨fun h4 => ?_, fun h4 => (h3 j hj).2 (fun h5 => h4 ⟨h5.1, by omega⟩)⟩
      obtain ⟨b', h5, h6, h7⟩ := (h3 j hj).1 ⟨h4.1, by omega⟩
      have hb' : b' < wz.heap.size := (Array.getElem?_eq_some_iff.1 h6).1
      exact ⟨b', h5, (hk2.block b' (Nat.lt_of_lt_of_le hb' hk.size) (by simp; exact h7)).trans ((hk.block b' hb' (by simp)).trans h6), h7⟩
  · exact (h.kp.trans hk).setCell (.inr h.hg) _
theorem Nt.done (h : Nt w wz p g ls n i) (hle : ∀ m ∈ ls, m < n) : Tr wz p ls := by
  obtain ⟨cs, h1, h2, h3⟩ := h.row
  refine ⟨g, cs, h.tab, h1, fun j hj => ?_⟩
  have hjl : ls[j]? = some (ls.getD j 0) := by simp [List.getD, List.getElem?_eq_getElem hj]
  rcases Nat.eq_zero_or_pos (ls.getD j 0) with h4 | h4
  · have h5 := (h3 j hj).2 (by omega)
    have h6 : code ls j = [] := List.eq_nil_of_length_eq_zero (by rw [code_length hjl, h4])
    refine ⟨none, 0, 0, h5, by rw [h6]; rfl, fun k v hv => ?_⟩
    rw [h6] at hv
    simp [bls] at hv
  · obtain ⟨b, h5, h6, _⟩ := (h3 j hj).1 ⟨h4, .inl (hle _ (List.mem_of_getElem? hjl))⟩
    exact ⟨_, _, _, h5, rfl, fun k v hv => ⟨b, _, rfl, h6, by simpa using hv⟩⟩
end
/-- The bits under way. -/
structure Nb (w wz : World) (b n x0 r x : Nat) : Prop where
  ex : ∃ tl : List Bool, msb n x0 = msb r x ++ tl ∧ wz.heap[b]? = some (.cells (bls (List.replicate r false ++ tl)).toArray 4 (0, 0))
  kp : Kp [] w wz
  ge : w.heap.size ≤ b
theorem Nb.step {w wz : World} {b n x0 r x : Nat} (h : Nb w wz b n x0 (r + 1) x) : Nb w (wz.setCell ⟨b, r, none⟩ (.bool (decide (x % 2 = 1)))) b n x0 r (x / 2) := by
  obtain ⟨tl, h1, h2⟩ := h.ex
  refine ⟨⟨decide (x % 2 = 1) :: tl, by rw [h1, msb]; simp, ?_⟩, h.kp.setCell (.inr h.ge) _, h.ge⟩
  rw [heap_set h2 r _]
  congr 2
  apply Array.ext'
  rw [Array.toList_setIfInBounds]
  simp [bls, List.replicate_succ', List.append_assoc]

theorem Nb.fz {w wz : World} {b n x0 r x : Nat} (h : Nb w wz b n x0 r x) : (∀ i, wz.frozen? ⟨b, i, none⟩ = false) ∧ b < wz.heap.size := by
  obtain ⟨tl, _, h2⟩ := h.ex
  exact ⟨fun i => frozen_of_row wz b i _ _ h2, (Array.getElem?_eq_some_iff.1 h2).1⟩
theorem Nt.cell {w wz : World} {p g n i : Nat} {ls : List Nat} (h : Nt w wz p g ls n i) : wz.cell? ⟨p, 0, none⟩ = some (.slice (some ⟨g, 0, none⟩) ls.length ls.length) ∧ (∀ i, wz.frozen? ⟨g, i, none⟩ = false) := by
  obtain ⟨cs, h1, _⟩ := h.row
  exact ⟨cell_of_row wz p 0 _ _ _ h.tab, fun i => frozen_of_row wz g i _ _ h1⟩
theorem Nb.at_ {w wz : World} {b n x0 r x : Nat} (h : Nb w wz b n x0 (r + 1) x) : wz.cell? ⟨b, r, none⟩ = some (.bool false) := by
  obtain ⟨tl, _, h2⟩ := h.ex
  rw [cell_of_row wz b r _ _ _ h2]
  simp only [bls, List.map_append, List.map_replicate, List.getElem?_toArray]
  rw [List.getElem?_append_left (by simp), List.getElem?_replicate, if_pos (by omega)]
theorem Nt.slot {w wz : World} {p g n i : Nat} {ls : List Nat} (h : Nt w wz p g ls n i) {j : Nat} (hj : j < ls.length) : ∃ v, wz.cell? ⟨g, j, none⟩ = some v := by
  obtain ⟨cs, h1, h2, _⟩ := h.row
  exact ⟨_, (cell_of_row wz g j _ _ _ h1).trans (Array.getElem?_eq_getElem (by omega))⟩
def RfNew (w : World) (ls : List Nat) (e : Ending) (w' : World) : Prop := ∃ (pt : Option Addr) (er : Int), e = .returned (.tuple #[.pointer pt, .int .i64 er]) ∧ (newOk ls = true → er = 0 ∧ ∃ t, pt = some ⟨t, 0, none⟩ ∧ Tr w' t ls) ∧ (newOk ls = false → er ≠ 0) ∧ Kp [] w w'
theorem RfNew.no {w : World} {ls : List Nat} {er : Int} (h : newOk ls = false) (h0 : er ≠ 0) : RfNew w ls (.returned (.tuple #[.pointer none, .int .i64 er])) w := ⟨none, er, rfl, fun h1 => (by rw [h] at h1; cases h1), fun _ => h0, Kp.refl _ _⟩
theorem used_snoc {ls : List Nat} {k n : Nat} (h : ls[k]? = some n) : usedN (ls.take (k + 1)) = usedN (ls.take k) + if 0 < n then 1 else 0 := usedN_snoc h
set_option maxHeartbeats 8000000 in
set_option maxRecDepth 100000 in
theorem r_new (A : Option Addr) (L c : Nat) (ls : List Nat) (w : World) (hL : ls.length = L) (hl : L ≤ 320) (hle : ∀ n ∈ ls, n ≤ 15) (hr : RV w A (ints ls)) :
    Calls Tryd.prog 27 #[.slice A L c] w (RfNew w ls) := by
  have cK := r_kraft A L c ls w hL hl hle hr
  unfold KraftPost at cK
  have CK := Lib.hid cK
  have HLE := Lib.hid hle
  have HR := Lib.hid hr
  have HL := Lib.hid hL
  have hl2 : (L : Int) ≤ 320 := by omega
  have HNEW := Lib.hid (show newOk ls = (decide (kraft ls ≤ 32768) && !(decide (kraft ls < 32768) && (decide (0 < usedN ls) && !(decide (usedN ls = 1) && decide (cnt ls 1 = 1))))) from rfl)
  clear hle hr hL cK
  generalize hKg : kraft ls = K at *
  clear hKg
  by_cases k1 : 32768 < K
  · have i1 : (32768 : Int) < (K : Int) := by omega
    go_enter Tryd.func27, Tryd.ntmps27
    go_wp2_with (first
      | (go_at_call 44; go_must (refine CK.out.mono ?_); rintro e w2 ⟨rfl, rfl⟩))
    go_ret2
    exact RfNew.no (by rw [HNEW.out]; simp; omega) (by decide)
  have i1 : ¬ (32768 : Int) < (K : Int) := by omega
  go_enter Tryd.func27, Tryd.ntmps27
  go_upto_block 0 with (first
    | (go_at_call 44; go_must (refine CK.out.mono ?_); rintro e w2 ⟨rfl, rfl⟩))
  go_cut [6, 7] (fun s6 s7 wz => s6 = .int .i64 (usedN ls : Nat) ∧ s7 = .int .i64 (cnt ls 1 : Nat) ∧ w = wz)
  case first =>
    as_aux_lemma =>
      go_wp2_with (fail)
      go_loopg [6, 7, 8] L (fun g' s6 s7 s8 wx => ∃ k : Nat, k + g' = L ∧ s8 = .int .i64 k ∧ s6 = .int .i64 (usedN (ls.take k) : Nat) ∧ s7 = .int .i64 (cnt (ls.take k) 1 : Nat) ∧ w = wx)
      case atStart => exact ⟨0, by omega, rfl, rfl, rfl, rfl⟩
      case round =>
        obtain ⟨k, hkg, rfl, rfl, rfl, rfl⟩ := hrel
        cases gk with
        | zero =>
          obtain rfl : k = L := by omega
          have hk : ¬ (k : Int) < (k : Int) := by omega
          have HT := Lib.hid (show ls.take k = ls from List.take_of_length_le (by rw [HL.out]; exact Nat.le_refl _))
          go_wp2_with (fail)
          go_meet
          rw [HT.out]
          exact ⟨rfl, rfl, rfl⟩
        | succ g' =>
          have hk : (k : Int) < (L : Int) := by omega
          obtain ⟨n, hn⟩ : ∃ n, ls[k]? = some n := ⟨_, List.getElem?_eq_getElem (by rw [HL.out]; omega)⟩
          obtain ⟨b, off, rfl, hb, hc⟩ := ints_at HR.out hn
          have HU := Lib.hid (usedN_snoc hn)
          have HV := Lib.hid (cnt_snoc hn 1)
          have hu := usedN_le (ls.take k)
          have hv := cnt_le (ls.take k) 1
          have hul : usedN (ls.take k) ≤ L := by rw [List.length_take] at hu; omega
          have hvl : cnt (ls.take k) 1 ≤ L := by rw [List.length_take] at hv; omega
          clear hn hu hv
          generalize usedN (ls.take k) = U at *
          generalize cnt (ls.take k) 1 = V at *
          by_cases h0 : 0 < n
          · have h0i : (0 : Int) < (n : Int) := by omega
            by_cases h1 : n = 1
            · have h1i : ((n : Int) == 1) = true := W.eqT (by omega)
              go_wp2_with (fail)
              go_roundg g'
              case measure => omega
              case rel => exact ⟨k + 1, by omega, by go_num, by rw [HU.out, if_pos h0]; go_num, by rw [HV.out, if_pos ⟨h1, by omega⟩]; go_num, rfl⟩
            · have h1i : ((n : Int) == 1) = false := W.eqF (by omega)
              go_wp2_with (fail)
              go_roundg g'
              case measure => omega
              case rel => exact ⟨k + 1, by omega, by go_num, by rw [HU.out, if_pos h0]; go_num, by rw [HV.out, if_neg (fun h => h1 h.1)]; rfl, rfl⟩
          · obtain rfl : n = 0 := by omega
            go_wp2_with (fail)
            go_roundg g'
            case measure => omega
            case rel => exact ⟨k + 1, by omega, by go_num, by rw [HU.out, if_neg h0]; rfl, by rw [HV.out, if_neg (by omega)]; rfl, rfl⟩
  case rest =>
    obtain ⟨rfl, rfl, rfl⟩ := hcut
    generalize usedN ls = U at *
    generalize cnt ls 1 = V at *
    go_upto_region 14 with (fail)
    go_cut [58] (fun s58 wz => s58 = .bool (!newOk ls) ∧ w = wz)
    case first =>
      as_aux_lemma =>
        by_cases k2 : K < 32768
        · have i2 : (K : Int) < 32768 := by omega
          by_cases u0 : 0 < U
          · have i3 : (0 : Int) < (U : Int) := by omega
            by_cases u1 : U = 1
            · have i4 : ¬ (1 : Int) < (U : Int) := by omega
              have U1 := Lib.hid u1
              clear u1
              by_cases v1 : V = 1
              · have i5 : ((V : Int) == 1) = true := W.eqT (by omega)
                have i6 : ((V : Int) != 1) = false := W.neF (by omega)
                have E := Lib.hid (show newOk ls = true by rw [HNEW.out, U1.out, v1]; simp; omega)
                clear v1
                go_wp2_with (fail)
                go_meet
                exact ⟨by rw [E.out]; rfl, rfl⟩
              · have i5 : ((V : Int) == 1) = false := W.eqF (by omega)
                have i6 : ((V : Int) != 1) = true := W.neT (by omega)
                have E := Lib.hid (show newOk ls = false by rw [HNEW.out, U1.out]; simp; omega)
                go_wp2_with (fail)
                go_meet
                exact ⟨by rw [E.out]; rfl, rfl⟩
            · have i4 : (1 : Int) < (U : Int) := by omega
              have E := Lib.hid (show newOk ls = false by rw [HNEW.out]; simp; omega)
              go_wp2_with (fail)
              go_meet
              exact ⟨by rw [E.out]; rfl, rfl⟩
          · have i3 : ¬ (0 : Int) < (U : Int) := by omega
            have E := Lib.hid (show newOk ls = true by rw [HNEW.out]; simp; omega)
            go_wp2_with (fail)
            go_meet
            exact ⟨by rw [E.out]; rfl, rfl⟩
        · have i2 : ¬ (K : Int) < 32768 := by omega
          have E := Lib.hid (show newOk ls = true by rw [HNEW.out]; simp; omega)
          go_wp2_with (fail)
          go_meet
          exact ⟨by rw [E.out]; rfl, rfl⟩
    case rest =>
      obtain ⟨rfl, rfl⟩ := hcut
      cases hok : newOk ls with
      | false =>
        go_wp2_with (fail)
        go_ret2
        exact RfNew.no hok (by decide)
      | true =>
        have HTAB := Lib.hid (newOk_tab hok HLE.out)
        have HOK := Lib.hid hok
        clear hok HNEW CK i1 k1
        obtain ⟨cs0, hcs0⟩ : ∃ cs0, madeCells (Value.slice none 0 0).cells L = cs0 := ⟨_, rfl⟩
        have hmk := run_mk rows24 .i64 .i64 (Nat.le_refl L) (by omega) (by omega) w
        rw [hcs0] at hmk
        have HCS := Lib.hid (show cs0.size = L by rw [← hcs0, size_madeCells])
        have HCV := Lib.hid (show ∀ j, j < L → cs0[j]? = some (.slice none 0 0) from fun j hj => by
          rw [← hcs0, ← Array.getElem?_toList, show (Value.slice none 0 0).cells = #[.slice none 0 0] from rfl, toList_madeCells_one]
          simp [hj])
        have HN0 := Lib.hid (show Nt w ((w.alloc (.cells cs0 87)).alloc (.cells #[.slice (some ⟨w.heap.size, 0, none⟩) L L] 86)) (w.heap.size + 1) w.heap.size ls 1 0 from by
          have k1 : Kp [] w (w.alloc (.cells cs0 87)) := (Kp.refl _ _).alloc _
          have k2 : Kp [] (w.alloc (.cells cs0 87)) ((w.alloc (.cells cs0 87)).alloc (.cells #[.slice (some ⟨w.heap.size, 0, none⟩) L L] 86)) := (Kp.refl _ _).alloc _
          have s1 : (w.alloc (.cells cs0 87)).heap.size = w.heap.size + 1 := by simp
          refine ⟨?_, ⟨cs0, (k2.block _ (by omega) (by simp)).trans (heap_alloc_new w _), by rw [HCS.out, HL.out], fun j hj => ⟨fun h => by omega, fun _ => HCV.out j (by rw [← HL.out]; exact hj)⟩⟩, k1.trans k2, by omega, by omega, by omega⟩
          have := heap_alloc_new (w.alloc (.cells cs0 87)) (.cells #[.slice (some ⟨w.heap.size, 0, none⟩) L L] 86)
          rw [s1] at this
          rw [HL.out]
          exact this)
        clear hcs0 HCS HCV
        go_upto_block 2 with (fail)
        change Code.wp _ _ _ _ ((w.alloc (.cells cs0 87)).alloc (.cells #[.slice (some ⟨w.heap.size, 0, none⟩) L L] 86))
        generalize (w.alloc (.cells cs0 87)).alloc (.cells #[.slice (some ⟨w.heap.size, 0, none⟩) L L] 86) = w1 at *
        clear hmk
        have HG0 := Lib.hid (Nat.le_refl w.heap.size)
        obtain ⟨g, hg⟩ : ∃ g, w.heap.size = g := ⟨_, rfl⟩
        rw [hg] at HN0 ⊢
        generalize g + 1 = p at *
        go_wp2_with (fail)
        go_loopg [10, 11] 15 (fun g' s10 s11 wx => ∃ N F : Nat, N + g' = 16 ∧ s11 = .int .i64 (N : Nat) ∧ s10 = .int .i64 (F : Nat) ∧ Hid (1 ≤ N ∧ F = fst_ ls (N - 1) + cnt ls (N - 1)) ∧ Nt w wx p g ls N 0)
        case atStart => exact ⟨1, 0, by omega, rfl, rfl, Lib.hid ⟨Nat.le_refl _, by rw [Nat.sub_self, cnt_zero]; rfl⟩, HN0.out⟩
        case round =>
          obtain ⟨N, F, hkg, rfl, rfl, hNF, hN⟩ := hrel
          have HN := Lib.hid hN
          clear hN HN0
          obtain ⟨wo, rfl⟩ : ∃ wo : World, wo = wr := ⟨_, rfl⟩
          have hF4 : F ≤ 32768 := by
            have h1 := fst_le HTAB.out.kr (N - 1) (by omega)
            have h2 : 2 ^ (N - 1) ≤ 2 ^ 15 := Nat.pow_le_pow_right (by omega) (by omega)
            have h3 : (2 : Nat) ^ 15 = 32768 := by decide
            rw [hNF.out.2]
            omega
          have HFS := Lib.hid (show fst_ ls N = 2 * F by
            obtain ⟨n', rfl⟩ : ∃ n', N = n' + 1 := ⟨N - 1, by have := hNF.out.1; omega⟩
            rw [hNF.out.2]; rfl)
          have hN1 := hNF.out.1
          clear hNF
          cases gk with
          | zero =>
            obtain rfl : N = 16 := by omega
            have hk : ¬ ((16 : Nat) : Int) ≤ 15 := by omega
            go_wp2_with (fail)
            go_ret2
            exact ⟨_, 0, rfl, fun _ => ⟨rfl, p, rfl, HN.out.done (fun m hm => by have := HLE.out m hm; omega)⟩, fun h => (by rw [HOK.out] at h; cases h), HN.out.kp⟩
          | succ g' =>
            have hk : (N : Int) ≤ 15 := by omega
            have hN15 : N ≤ 15 := by omega
            have HB := Lib.hid (fst_le HTAB.out.kr N hN15)
            have hP : 2 ^ N ≤ 32768 := by
              have h2 : 2 ^ N ≤ 2 ^ 15 := Nat.pow_le_pow_right (by omega) (by omega)
              have h3 : (2 : Nat) ^ 15 = 32768 := by decide
              omega
            go_wp2_with (fail)
            go_loopg [10, 12] L (fun g2 s10 s12 wx => ∃ i X : Nat, i + g2 = L ∧ s12 = .int .i64 (i : Nat) ∧ s10 = .int .i64 (X : Nat) ∧ Hid (X = fst_ ls N + cnt (ls.take i) N) ∧ Nt w wx p g ls N i)
            case atStart => exact ⟨0, 2 * F, by omega, rfl, by go_num, Lib.hid (by rw [HFS.out]; simp [cnt]), HN.out⟩
            case round =>
              obtain ⟨i, X, hig, rfl, rfl, hX, hM⟩ := hrel
              have HM := Lib.hid hM
              clear hM HN
              obtain ⟨wi, rfl⟩ : ∃ wi : World, wi = wr := ⟨_, rfl⟩
              cases gk with
              | zero =>
                obtain rfl : i = L := by omega
                have hk2 : ¬ (i : Int) < (i : Int) := by omega
                have HE := Lib.hid (show X = fst_ ls N + cnt ls N by rw [hX.out, List.take_of_length_le (by rw [HL.out]; exact Nat.le_refl _)])
                clear hX
                go_wp2_with (fail)
                go_roundg g'
                case measure => omega
                case rel => exact ⟨N + 1, X, by omega, by go_num, rfl, Lib.hid ⟨by omega, HE.out⟩, by rw [← HL.out] at HM; exact HM.out.turn⟩
              | succ g2 =>
                have hk2 : (i : Int) < (L : Int) := by omega
                obtain ⟨n, hn⟩ : ∃ n, ls[i]? = some n := ⟨_, List.getElem?_eq_getElem (by rw [HL.out]; omega)⟩
                obtain ⟨b1, off, rfl, hb, hc⟩ := ints_at HR.out hn
                have hc2 : wi.cell? ⟨b1, off + i, none⟩ = some (.int .i64 (n : Int)) := (World.cell?_of_block (a := ⟨b1, off + i, none⟩) (HM.out.kp.block b1 hb (by simp))).trans hc
                have HV := Lib.hid (cnt_snoc hn N)
                have HNN := Lib.hid hn
                obtain ⟨fp, fg⟩ := HM.out.cell
                obtain ⟨lp, lg⟩ := HM.out.lts
                rw [HL.out] at fp
                have hXb : X + 1 ≤ 65536 := by
                  have h1 := HB.out
                  have h2 := cnt_mono ls N (i := i) (j := ls.length) (by rw [HL.out]; omega)
                  rw [List.take_length] at h2
                  rw [hX.out]
                  omega
                clear hn hc
                by_cases hnN : n = N
                · have e1 : ((n : Int) == (N : Int)) = true := W.eqT (by omega)
                  have e2 : ((n : Int) != (N : Int)) = false := W.neF (by omega)
                  have HEQ := Lib.hid hnN
                  clear hnN
                  have hmk := run_mk bool1 .i64 .i64 (Nat.le_refl N) (by omega) (by omega) wi
                  obtain ⟨cs, hcs⟩ : ∃ cs, madeCells (Value.bool false).cells N = cs := ⟨_, rfl⟩
                  rw [hcs] at hmk
                  have HB0 := Lib.hid (show Nb wi (wi.alloc (.cells cs 4)) wi.heap.size N X N X from ⟨⟨[], by simp, by
                    rw [heap_alloc_new wi, ← hcs]
                    congr 2
                    apply Array.ext'
                    rw [show (Value.bool false).cells = #[.bool false] from rfl, toList_madeCells_one]
                    simp [bls]⟩, (Kp.refl _ _).alloc _, Nat.le_refl _⟩)
                  clear hcs
                  go_wp2_with (fail)
                  go_loopg [14, 15] N (fun g3 s14 s15 wz => ∃ x : Nat, s14 = .int .i64 (x : Nat) ∧ s15 = .int .i64 ((g3 : Nat) - 1) ∧ x ≤ 65536 ∧ g3 ≤ N ∧ Nb wi wz wi.heap.size N X g3 x)
                  case atStart => exact ⟨X, rfl, by go_num, by omega, Nat.le_refl _, HB0.out⟩
                  case round =>
                    obtain ⟨x, rfl, rfl, hx, hgN, hZ⟩ := hrel
                    have HZ := Lib.hid hZ
                    clear hZ HB0
                    obtain ⟨zf, zl⟩ := HZ.out.fz
                    cases gk with
                    | zero =>
                      have hk3 : ¬ (0 : Int) ≤ ((0 : Nat) : Int) - 1 := by omega
                      have zp : wr.cell? ⟨p, 0, none⟩ = some (.slice (some ⟨g, 0, none⟩) L L) := (World.cell?_of_block (a := ⟨p, 0, none⟩) (HZ.out.kp.block p lp (by simp))).trans fp
                      have zg : ∀ i, wr.frozen? ⟨g, i, none⟩ = false := fun i => (World.frozen?_of_block (a := ⟨g, i, none⟩) (HZ.out.kp.block g lg (by simp))).trans (fg i)
                      obtain ⟨v0, hv0⟩ := HM.out.slot (j := i) (by rw [HL.out]; omega)
                      have zc : wr.cell? ⟨g, i, none⟩ = some v0 := (World.cell?_of_block (a := ⟨g, i, none⟩) (HZ.out.kp.block g lg (by simp))).trans hv0
                      clear hv0
                      have HPUT := Lib.hid (HM.out.put (by rw [← HEQ.out]; exact HNN.out) hN1 HZ.out.kp (b := wi.heap.size) (by obtain ⟨tl, h1, h2⟩ := HZ.out.ex; rw [h2]; have h3 := code_of HNN.out; rw [HEQ.out] at h3; rw [h3, ← hX.out, h1]; simp [msb]) (Nat.le_refl _))
                      go_wp2_with (fail)
                      go_roundg g2
                      case measure => omega
                      case rel => exact ⟨i + 1, X + 1, by omega, by go_num, by go_num, Lib.hid (by rw [HV.out, if_pos ⟨HEQ.out, hN1⟩, hX.out]; omega), HPUT.out⟩
                    | succ r =>
                      have e3 : (((r + 1 : Nat) : Int) - 1) = (r : Int) := by omega
                      rw [e3]
                      have hk3 : (0 : Int) ≤ (r : Int) := by omega
                      have hrN : (r : Int) < (N : Int) := by omega
                      have HST := Lib.hid HZ.out.step
                      have zc := HZ.out.at_
                      rcases Nat.mod_two_eq_zero_or_one x with hp | hp
                      · have e4 : ((x : Int) % 2 == 1) = false := W.eqF (by omega)
                        have HPP := Lib.hid hp
                        clear hp
                        go_wp2_with (fail)
                        go_roundg r
                        case measure => omega
                        case rel => exact ⟨x / 2, by go_num, rfl, by omega, by omega, by have h := HST.out; rw [HPP.out] at h; exact h⟩
                      · have e4 : ((x : Int) % 2 == 1) = true := W.eqT (by omega)
                        have HPP := Lib.hid hp
                        clear hp
                        go_wp2_with (fail)
                        go_roundg r
                        case measure => omega
                        case rel => exact ⟨x / 2, by go_num, rfl, by omega, by omega, by have h := HST.out; rw [HPP.out] at h; exact h⟩
                · have e1 : ((n : Int) == (N : Int)) = false := W.eqF (by omega)
                  have e2 : ((n : Int) != (N : Int)) = true := W.neT (by omega)
                  have HS := Lib.hid (HM.out.skip (by rw [getD_of HNN.out]; exact hnN))
                  go_wp2_with (fail)
                  go_roundg g2
                  case measure => omega
                  case rel => exact ⟨i + 1, X, by omega, by go_num, rfl, Lib.hid (by rw [HV.out, if_neg (fun h => hnN h.1)]; exact hX.out), HS.out⟩
end Go.Proofs.YtdpnlmofkkdioaaDoor.Hf
