/- What is written: its length, and what each block adds (plain); a plan's rows. -/
import Derived.Test.YtdpnlmofkkdioaaDoorVk
namespace Go.Proofs.YtdpnlmofkkdioaaDoor.Hf
set_option linter.unusedVariables false
set_option linter.unusedSimpArgs false
open Go.RowKit Go.Proofs.YtdpnlmofkkdioaaDoor.W

theorem encTok_len {a d : List Nat} (ha15 : ∀ x ∈ a, x ≤ 15) (hd15 : ∀ x ∈ d, x ≤ 15) (ha : 286 ≤ a.length) (hd : 30 ≤ d.length) {t : Tok} (h : TokOk t) : (encTok a d t).length ≤ 48 := by
  unfold encTok
  rcases h with ⟨h0, h1, h2⟩ | ⟨h3, h258, hd1, hd200⟩
  · rw [if_pos h0]
    have := code_len15 ha15 (i := t.x.toNat) (by omega)
    omega
  · rw [if_neg (by omega)]
    have q1 := lsy_ok h3 h258
    have q2 := dsy_ok hd1 hd200
    have m1 := mL_le ⟨lsy t.len, by omega⟩
    have m2 := mB_le ⟨dsy t.dist, by omega⟩
    dsimp only at m1 m2
    have e1 := code_len15 ha15 (i := 257 + lsy t.len) (by omega)
    have e2 := code_len15 hd15 (i := dsy t.dist) (by omega)
    simp only [List.length_append, bitsOf_length]
    omega
theorem flat_len {α : Type} {f : α → List Bool} {k : Nat} : ∀ {l : List α}, (∀ t ∈ l, (f t).length ≤ k) → (l.flatMap f).length ≤ k * l.length := by
  intro l
  induction l with
  | nil => intro _; simp
  | cons x l ih =>
    intro h
    have h1 := h x List.mem_cons_self
    have h2 := ih fun t ht => h t (List.mem_cons_of_mem _ ht)
    rw [List.flatMap_cons, List.length_append, List.length_cons, Nat.mul_add]
    omega
theorem encToks_len {a d : List Nat} (ha15 : ∀ x ∈ a, x ≤ 15) (hd15 : ∀ x ∈ d, x ≤ 15) (ha : 286 ≤ a.length) (hd : 30 ≤ d.length) {l : List Tok} (h : ∀ t ∈ l, TokOk t) : (encToks a d l).length ≤ 48 * l.length :=
  flat_len fun t ht => encTok_len ha15 hd15 ha hd (h t ht)
theorem encDyn_len {l : List Tok} {runs : Bool} {a d first : List Nat} {says : List Say} (h : Dyn l runs a d first says) (hok : ∀ t ∈ l, TokOk t) : (encDyn first says a d l).length ≤ 8000 + 48 * l.length := by
  have h15 : ∀ x ∈ a ++ d, x ≤ 15 := fun x hx => Nat.le_trans (h.h9 x hx) (by omega)
  have ha15 : ∀ x ∈ a, x ≤ 15 := fun x hx => h15 x (List.mem_append_left _ hx)
  have hd15 : ∀ x ∈ d, x ≤ 15 := fun x hx => h15 x (List.mem_append_right _ hx)
  have h1 := encToks_len ha15 hd15 (by rw [h.ha]; exact Nat.le_refl _) (by rw [h.hd]; exact Nat.le_refl _) hok
  have h2 := code_len15 ha15 (i := 256) (by rw [h.ha]; omega)
  have h3 : (encLol first).length = 57 := by simp [encLol, ord, bitsOf_length]
  have h4 : (encSays first says).length ≤ 22 * says.length := flat_len fun s hs => by
    have q1 := h.sy.syms h15 s hs
    have q2 := code_len15 (lens := first) (fun x hx => Nat.le_trans (h.h7 x hx) (by omega)) (i := s.sym) (by rw [h.h19]; exact q1.1)
    unfold encSay
    rw [List.length_append, bitsOf_length]
    omega
  have h5 := h.sy.count
  unfold encDyn
  simp only [List.length_append, bitsOf_length]
  omega
section
variable {b : List Int} {i j : Nat} {bits : List Bool}
theorem Wrote.fixed (h : Wrote b i bits false) (hby : Bytes b) {l : List Tok} (ht : Toks b i l j) (last : Bool) : Wrote b j (bits ++ bitsOf 1 last.toNat ++ bitsOf 2 1 ++ (encToks fixL fixD l ++ code fixL 256)) last := by
  have := h.more (enc := hdr last 1 ++ (encToks fixL fixD l ++ code fixL 256)) (j := j) (last := last) fun bs m rest h8 hm hb => Bytes.fixed hby hm ht hb
  unfold hdr at this
  simp only [List.append_assoc] at this ⊢
  exact this
theorem Wrote.dynamic (h : Wrote b i bits false) (hby : Bytes b) {l : List Tok} (ht : Toks b i l j) {runs : Bool} {a d first : List Nat} {says : List Say} (hd : Dyn l runs a d first says) (last : Bool) : Wrote b j (bits ++ bitsOf 1 last.toNat ++ bitsOf 2 2 ++ encDyn first says a d l) last := by
  have := h.more (enc := hdr last 2 ++ encDyn first says a d l) (j := j) (last := last) fun bs m rest h8 hm hb => Bytes.dynamic hby hm ht hd.sy hd.ha hd.hd hd.h9 hd.na hd.nd hd.h7 hd.h19 hd.kr hd.us hd.ul hd.e hb
  unfold hdr at this
  simp only [List.append_assoc] at this ⊢
  exact this
theorem Wrote.stored (h : Wrote b i bits false) (hby : Bytes b) (hij : i ≤ j) (hjb : j ≤ b.length) (hn : j - i ≤ 65535) (last : Bool) : Wrote b j (bits ++ bitsOf 1 last.toNat ++ bitsOf 2 0 ++ List.replicate ((8 - (bits.length + 3) % 8) % 8) false ++ bitsOf 16 (j - i) ++ bitsOf 16 (65535 - (j - i)) ++ bits8 ((b.drop i).take (j - i))) last := by
  have hcl : ((b.drop i).take (j - i)).length = j - i := by rw [List.length_take, List.length_drop]; omega
  have := h.more (enc := encSto bits.length last ((b.drop i).take (j - i))) (j := j) (last := last) fun bs m rest h8 hm hb => Bytes.stored hby hm h8 hij hjb hn hb
  unfold encSto hdr at this
  rw [hcl] at this
  simp only [List.append_assoc] at this ⊢
  exact this
end
/-- A plan, as it is read. -/
def RP4 (w : World) (A : Option Addr) (ps : List (Int × Int × Bool × Bool)) : Prop :=
  ∀ i k n c r, ps[i]? = some (k, n, c, r) → ∃ blk off, A = some ⟨blk, off, none⟩ ∧ blk < w.heap.size ∧ w.cell? ⟨blk, off + i * 4, none⟩ = some (.int .u8 k) ∧ w.cell? ⟨blk, off + i * 4 + 1, none⟩ = some (.int .u16 n) ∧ w.cell? ⟨blk, off + i * 4 + 2, none⟩ = some (.bool c) ∧ w.cell? ⟨blk, off + i * 4 + 3, none⟩ = some (.bool r) ∧ (0 ≤ k ∧ k < 256) ∧ (0 ≤ n ∧ n < 65536)
theorem RP4.below {w w' : World} {A : Option Addr} {ps : List (Int × Int × Bool × Bool)} (h : RP4 w A ps) (hb : Below w.heap.size w w') : RP4 w' A ps := fun i k n c r hi => by
  obtain ⟨blk, off, h1, h2, h3, h4, h5, h6, h7⟩ := h i k n c r hi
  have hc : ∀ o, w'.cell? ⟨blk, o, none⟩ = w.cell? ⟨blk, o, none⟩ := fun o => World.cell?_of_block (a := ⟨blk, o, none⟩) (hb.block blk h2)
  exact ⟨blk, off, h1, Nat.lt_of_lt_of_le h2 hb.size, by rw [hc]; exact h3, by rw [hc]; exact h4, by rw [hc]; exact h5, by rw [hc]; exact h6, h7⟩
end Go.Proofs.YtdpnlmofkkdioaaDoor.Hf
