/- What is written: blocks, and a whole text (plain). -/
import Derived.Test.YtdpnlmofkkdioaaDoorVb
namespace Go.Proofs.YtdpnlmofkkdioaaDoor.Hf
set_option linter.unusedVariables false
set_option linter.unusedSimpArgs false
open Go.RowKit Go.Proofs.YtdpnlmofkkdioaaDoor.W

theorem bitsOf_one (b : Bool) : bitsOf 1 b.toNat = [b] := by cases b <;> rfl
def hdr (last : Bool) (kind : Nat) : List Bool := bitsOf 1 last.toNat ++ bitsOf 2 kind
theorem hdr_length (last : Bool) (kind : Nat) : (hdr last kind).length = 3 := by unfold hdr; rw [List.length_append, bitsOf_length, bitsOf_length]
theorem hdr_num (last : Bool) {kind : Nat} (h : kind < 3) : Hf.num (hdr last kind) = last.toNat + 2 * kind := by
  have : kind = 0 ∨ kind = 1 ∨ kind = 2 := by omega
  rcases this with rfl | rfl | rfl <;> cases last <;> rfl
/-- At a block's head, with all that was told before. -/
def AtHead (bs : List Bool) (b : List Int) (i pos : Nat) (m : M) (fin : Bool) : Prop := Reach bs m (b.take i) pos ∧ m.ph = .head ∧ m.fin = fin ∧ m.why = 0
section
variable {bs rest : List Bool} {b : List Int} {i j pos : Nat} {m : M} {last : Bool}
theorem AtHead.kind {kind : Nat} (h : AtHead bs b i pos m false) (hk : kind < 3) (hb : bs.drop pos = hdr last kind ++ rest) : Hf.step m (b.take i) (bs.drop pos) = some (headM m (last.toNat + 2 * kind) (((bs.drop pos).length - 3) % 8)) := by
  rw [step_head h.2.1, if_pos (by rw [hb, List.length_append, hdr_length]; omega)]
  rw [show Hf.num ((bs.drop pos).take 3) = last.toNat + 2 * kind by rw [hb, List.take_left' (hdr_length _ _), hdr_num last hk]]
theorem last_of (last : Bool) (kind : Nat) : decide ((last.toNat + 2 * kind) % 2 = 1) = last := by cases last <;> simp <;> omega
theorem half_of (last : Bool) (kind : Nat) : (last.toNat + 2 * kind) / 2 = kind := by cases last <;> simp <;> omega
theorem Bytes.fixed (hby : Bytes b) {l : List Tok} (h : AtHead bs b i pos m false) (ht : Toks b i l j) (hb : bs.drop pos = hdr last 1 ++ (encToks fixL fixD l ++ code fixL 256) ++ rest) :
    ∃ m', AtHead bs b j (pos + (hdr last 1 ++ (encToks fixL fixD l ++ code fixL 256)).length) m' last := by
  have hs : ∀ n : _root_.Fin 288, ∃ k, 0 < k ∧ fixL[n.val]? = some k := fun n => ⟨_, by split <;> (try split) <;> omega, fixL_at n⟩
  have hs2 : ∀ n : _root_.Fin 32, ∃ k, 0 < k ∧ fixD[n.val]? = some k := fun n => ⟨5, by omega, fixD_at n⟩
  have hL : ∀ s, s < 288 → Has fixL s := fun s h => hs ⟨s, h⟩
  have hD : ∀ s, s < 32 → Has fixD s := fun s h => hs2 ⟨s, h⟩
  have hus : ∀ t ∈ l, Uses fixL fixD t := by
    intro t htl
    clear hb h
    induction ht with
    | nil => cases htl
    | @lit i j x l hx _ ih =>
      rcases List.mem_cons.1 htl with rfl | h2
      · unfold Uses; rw [if_pos rfl]
        have := hby x (List.mem_of_getElem? hx)
        exact hL _ (by dsimp only; omega)
      · exact ih h2
    | @cpy i j L D l h1 h2 h3 h4 h5 h6 h7 _ ih =>
      rcases List.mem_cons.1 htl with rfl | h9
      · unfold Uses; rw [if_neg (by dsimp only; omega)]
        have q1 := (lsy_ok h1 h2).1
        have q2 := (dsy_ok h3 h4).1
        exact ⟨hL _ (by dsimp only; omega), hD _ (by dsimp only; omega)⟩
      · exact ih h9
  rw [List.append_assoc] at hb
  have hk := h.kind (by omega) hb
  have hb2 := drop_more hb
  rw [hdr_length] at hb2
  have hr : Reach bs { m with last := last, ph := .lit, lt := fixL, ds := fixD } (b.take i) (pos + 3) := h.1.step0 ⟨h.2.2.2, h.2.2.1⟩ (by
    rw [hk]
    unfold headM
    rw [half_of, last_of]
    rfl)
  obtain ⟨m', q1, q2, q3, q4, q5⟩ := Reach.body hby ht hr ⟨h.2.2.2, h.2.2.1⟩ rfl Tab.fixL Tab.fixD hus (hL 256 (by omega)) hb2
  refine ⟨m', ?_, q2, q3, q5⟩
  rw [List.length_append, hdr_length, ← Nat.add_assoc]
  exact q1
/-- The lengths of lengths. -/
def encLol (first : List Nat) : List Bool := ord.flatMap fun o => bitsOf 3 (first.getD o 0)
def lolF (first : List Nat) : Nat → List Nat
  | 0 => List.replicate 19 0
  | i + 1 => (lolF first i).set (ord.getD i 0) (first.getD (ord.getD i 0) 0)
theorem lolF_all (first : List Nat) (h : first.length = 19) : lolF first 19 = first := by
  match first, h with
  | [a0, a1, a2, a3, a4, a5, a6, a7, a8, a9, a10, a11, a12, a13, a14, a15, a16, a17, a18], _ => simp [lolF, ord, List.replicate]
theorem Reach.lol {first : List Nat} {out : List Int} (h7 : ∀ x ∈ first, x ≤ 7) (h19 : first.length = 19) (hk : kraft first = 32768) : ∀ (d i : Nat) (m : M) (pos : Nat) (rest : List Bool), i + d = 18 → Reach bs m out pos → Live m → m.ph = .lol → m.order = i → m.left = 19 → m.fl = lolF first i →
    bs.drop pos = ((ord.drop i).flatMap fun o => bitsOf 3 (first.getD o 0)) ++ rest →
    ∃ m', Reach bs m' out (pos + ((ord.drop i).flatMap fun o => bitsOf 3 (first.getD o 0)).length) ∧ Live m' ∧ m'.ph = .len ∧ m'.cd = first ∧ m'.row = [] ∧ m'.lits = m.lits ∧ m'.wanted = m.wanted ∧ m'.last = m.last := by
  have hv : ∀ o, first.getD o 0 < 2 ^ 3 := fun o => by
    rw [List.getD_eq_getElem?_getD]
    cases hg : first[o]? with
    | none => simp
    | some x => have := h7 x (List.mem_of_getElem? hg); simp; omega
  intro d
  induction d with
  | zero =>
    intro i m pos rest hi hr hl hph ho hle hf hb
    obtain rfl : i = 18 := by omega
    have e : (ord.drop 18).flatMap (fun o => bitsOf 3 (first.getD o 0)) = bitsOf 3 (first.getD (ord.getD 18 0) 0) := by simp [ord]
    rw [e] at hb ⊢
    obtain ⟨n1, n2⟩ := num_bits hb (hv _)
    have r1 : Reach bs { m with fl := first, order := 19, cd := first, row := [], ph := .len } out (pos + 3) := hr.step0 hl (by
      rw [step_lol hph, if_pos n1, n2]
      unfold lolM
      rw [ho, hle, hf]
      dsimp only
      rw [if_neg (by omega), show (lolF first 18).set (ord.getD 18 0) (first.getD (ord.getD 18 0) 0) = lolF first 19 from rfl, lolF_all first h19, if_pos hk])
    rw [bitsOf_length]
    exact ⟨_, r1, hl, rfl, rfl, rfl, rfl, rfl, rfl⟩
  | succ d ih =>
    intro i m pos rest hi hr hl hph ho hle hf hb
    have hio : i < ord.length := by show i < 19; omega
    have e : (ord.drop i).flatMap (fun o => bitsOf 3 (first.getD o 0)) = bitsOf 3 (first.getD (ord.getD i 0) 0) ++ (ord.drop (i + 1)).flatMap (fun o => bitsOf 3 (first.getD o 0)) := by
      have hoo : ord.getD i 0 = ord[i] := by rw [List.getD_eq_getElem?_getD, List.getElem?_eq_getElem hio]; rfl
      rw [List.drop_eq_getElem_cons hio, List.flatMap_cons, hoo]
    rw [e] at hb ⊢
    rw [List.append_assoc] at hb
    obtain ⟨n1, n2⟩ := num_bits hb (hv _)
    have p1 := drop_more hb
    rw [bitsOf_length] at p1
    have r1 : Reach bs { m with fl := lolF first (i + 1), order := i + 1, ph := .lol } out (pos + 3) := hr.step0 hl (by
      rw [step_lol hph, if_pos n1, n2]
      unfold lolM
      rw [ho, hle, hf]
      dsimp only
      rw [if_pos (by omega), ← hph]
      rfl)
    obtain ⟨m', q1, q2⟩ := ih (i + 1) _ _ rest (by omega) r1 hl rfl rfl hle rfl p1
    rw [List.length_append, bitsOf_length, ← Nat.add_assoc]
    exact ⟨m', q1, q2⟩
def encDyn (first : List Nat) (says : List Say) (a d : List Nat) (l : List Tok) : List Bool :=
  bitsOf 5 29 ++ (bitsOf 5 29 ++ (bitsOf 4 15 ++ (encLol first ++ (encSays first says ++ (encToks a d l ++ code a 256)))))
theorem Bytes.dynamic (hby : Bytes b) {l : List Tok} {first a d : List Nat} {says : List Say} (h : AtHead bs b i pos m false) (ht : Toks b i l j) (hsy : Says (a ++ d) 0 says 316) (ha : a.length = 286) (hd : d.length = 30) (h9 : ∀ x ∈ a ++ d, x ≤ 9) (hna : newOk a = true) (hnd : newOk d = true)
    (h7 : ∀ x ∈ first, x ≤ 7) (h19 : first.length = 19) (hk : kraft first = 32768) (hus : ∀ s ∈ says, Has first s.sym) (hul : ∀ t ∈ l, Uses a d t) (he : Has a 256) (hb : bs.drop pos = hdr last 2 ++ encDyn first says a d l ++ rest) :
    ∃ m', AtHead bs b j (pos + (hdr last 2 ++ encDyn first says a d l).length) m' last := by
  rw [List.append_assoc] at hb
  have hkk := h.kind (by omega) hb
  have hb2 := drop_more hb
  rw [hdr_length] at hb2
  have hr : Reach bs { m with last := last, ph := .cts } (b.take i) (pos + 3) := h.1.step0 ⟨h.2.2.2, h.2.2.1⟩ (by
    rw [hkk]
    unfold headM
    rw [half_of, last_of]
    rfl)
  unfold encDyn at hb2
  simp only [List.append_assoc] at hb2
  have h14 : bs.drop (pos + 3) = (bitsOf 5 29 ++ (bitsOf 5 29 ++ bitsOf 4 15)) ++ (encLol first ++ (encSays first says ++ (encToks a d l ++ (code a 256 ++ rest)))) := by rw [hb2]; simp only [List.append_assoc]
  have hl14 : (bitsOf 5 29 ++ (bitsOf 5 29 ++ bitsOf 4 15)).length = 14 := by decide +kernel
  have r2 : Reach bs { m with last := last, lits := 286, wanted := 316, left := 19, order := 0, fl := List.replicate 19 0, ph := .lol } (b.take i) (pos + 3 + 14) := hr.step0 ⟨h.2.2.2, h.2.2.1⟩ (by
    rw [step_cts rfl, h14, if_pos (by rw [List.length_append, hl14]; omega), List.take_left' hl14, show Hf.num (bitsOf 5 29 ++ (bitsOf 5 29 ++ bitsOf 4 15)) = 16317 by decide +kernel]
    rfl)
  have p3 := drop_more h14
  rw [hl14] at p3
  obtain ⟨m3, r3, c1, c2, c3, c4, c5, c6, c7⟩ := Reach.lol h7 h19 hk 18 0 _ _ _ rfl r2 ⟨h.2.2.2, h.2.2.1⟩ rfl rfl rfl rfl p3
  have p4 := drop_more p3
  change Reach bs m3 (b.take i) (pos + 3 + 14 + (encLol first).length) at r3
  have hal : (a ++ d).length = 316 := by rw [List.length_append, ha, hd]
  have hta : (a ++ d).take 286 = a := List.take_left' ha
  have htd : (a ++ d).drop 286 = d := List.drop_left' ha
  have h256 : (a ++ d).getD 256 0 ≠ 0 := by
    obtain ⟨k, k1, k2⟩ := he
    rw [List.getD_eq_getElem?_getD, List.getElem?_append_left (by omega), k2]
    simp; omega
  have hT : Tell (a ++ d) first 286 m3 0 := ⟨c1, .inl ⟨by omega, c2, c3, by rw [c4]; rfl, c5, by rw [c6, hal]⟩⟩
  have htf : Tab first := newOk_tab (newOk_full hk) (fun n hn => by have := h7 n hn; omega)
  obtain ⟨m4, r4, t4, l4⟩ := Reach.tell (a := 286) (by rw [hta, htd]; exact ⟨hna, hnd, h256⟩) htf h9 hsy m3 _ _ r3 hT hus p4
  rcases t4.st with ⟨k1, _⟩ | ⟨_, k2, k3, k4⟩
  · omega
  · have p5 := drop_more p4
    rw [hta] at k3
    rw [htd] at k4
    rw [← List.append_assoc] at p5
    obtain ⟨m', q1, q2, q3, q4, q5⟩ := Reach.body (rest := rest) hby ht r4 t4.live k2 (by rw [k3]; exact newOk_tab hna (fun n hn => by have := h9 n (List.mem_append_left _ hn); omega)) (by rw [k4]; exact newOk_tab hnd (fun n hn => by have := h9 n (List.mem_append_right _ hn); omega)) (by rw [k3, k4]; exact hul) (by rw [k3]; exact he) (by rw [k3, k4]; exact p5)
    have hlast : m4.last = last := l4.trans c7
    refine ⟨m', ?_, q2, by rw [q3, hlast], q5⟩
    rw [k3, k4] at q1
    unfold encDyn
    have e : (hdr last 2 ++ (bitsOf 5 29 ++ (bitsOf 5 29 ++ (bitsOf 4 15 ++ (encLol first ++ (encSays first says ++ (encToks a d l ++ code a 256))))))).length = 3 + 14 + (encLol first).length + (encSays first says).length + (encToks a d l ++ code a 256).length := by
      simp only [List.length_append, hdr_length, bitsOf_length]; omega
    rw [e]
    try simp only [← Nat.add_assoc]
    try simp only [← Nat.add_assoc] at q1
    exact q1
/-! ### stored -/
theorem Reach.sto (hby : Bytes b) : ∀ (n i : Nat) (m : M) (pos : Nat) (rest : List Bool), Reach bs m (b.take i) pos → Live m → m.ph = .sto → m.left = n → i + n ≤ b.length → bs.drop pos = bits8 ((b.drop i).take n) ++ rest →
    ∃ m', AtHead bs b (i + n) (pos + 8 * n) m' m.last := by
  intro n
  induction n with
  | zero =>
    intro i m pos rest hr hl hph hle hi hb
    have r1 : Reach bs (overM m) (b.take i) (pos + 0) := hr.step0 hl (by rw [step_sto hph, if_pos hle])
    exact ⟨_, r1, rfl, rfl, hl.1⟩
  | succ n ih =>
    intro i m pos rest hr hl hph hle hi hb
    obtain ⟨x, hx⟩ : ∃ x, b[i]? = some x := ⟨_, List.getElem?_eq_getElem (by omega)⟩
    have hxb := hby x (List.mem_of_getElem? hx)
    have e : (b.drop i).take (n + 1) = x :: (b.drop (i + 1)).take n := by
      obtain ⟨h1, h2⟩ := List.getElem?_eq_some_iff.1 hx
      rw [List.drop_eq_getElem_cons h1, List.take_succ_cons, h2]
    rw [e, show bits8 (x :: (b.drop (i + 1)).take n) = byteB x ++ bits8 ((b.drop (i + 1)).take n) by unfold bits8; rw [List.flatMap_cons], List.append_assoc] at hb
    obtain ⟨n1, n2⟩ := num_bits (n := 8) (v := x.toNat) hb (by omega)
    have p1 := drop_more hb
    rw [byteB_length] at p1
    have r1 : Reach bs (stoM m) (b.take i ++ [x]) (pos + 8) := hr.step hl (by
      rw [step_sto hph, if_neg (by omega), if_pos n1, n2, show ((x.toNat : Nat) : Int) = x by omega])
    rw [take_next hx] at r1
    unfold stoM at r1
    by_cases h0 : n = 0
    · subst h0
      rw [if_pos hle] at r1
      exact ⟨_, r1, rfl, rfl, hl.1⟩
    · rw [if_neg (by omega)] at r1
      obtain ⟨m', q1, q2⟩ := ih (i + 1) _ _ rest r1 hl hph (by show m.left - 1 = n; omega) (by omega) p1
      refine ⟨m', ?_, q2⟩
      rw [show i + (n + 1) = i + 1 + n by omega, show pos + 8 * (n + 1) = pos + 8 + 8 * n by omega]
      exact q1
def encSto (pos : Nat) (last : Bool) (c : List Int) : List Bool := hdr last 0 ++ (List.replicate ((8 - (pos + 3) % 8) % 8) false ++ (bitsOf 16 c.length ++ (bitsOf 16 (65535 - c.length) ++ bits8 c)))
theorem Bytes.stored (hby : Bytes b) (h : AtHead bs b i pos m false) (h8 : bs.length % 8 = 0) (hij : i ≤ j) (hjb : j ≤ b.length) (hn : j - i ≤ 65535) (hb : bs.drop pos = encSto pos last ((b.drop i).take (j - i)) ++ rest) :
    ∃ m', AtHead bs b j (pos + (encSto pos last ((b.drop i).take (j - i))).length) m' last := by
  have hle := h.1.le
  have hcl : ((b.drop i).take (j - i)).length = j - i := by rw [List.length_take, List.length_drop]; omega
  unfold encSto at hb ⊢
  rw [hcl] at hb ⊢
  generalize hn' : j - i = n at *
  simp only [List.append_assoc] at hb
  have hk := h.kind (by omega) hb
  obtain ⟨p, hp⟩ : ∃ p, (8 - (pos + 3) % 8) % 8 = p := ⟨_, rfl⟩
  rw [hp] at hb ⊢
  have hb2 := drop_more hb
  rw [hdr_length] at hb2
  have hbl : 3 ≤ (bs.drop pos).length := by rw [hb, List.length_append, hdr_length]; omega
  rw [List.length_drop] at hbl
  have hpad : ((bs.drop pos).length - 3) % 8 = p := by rw [List.length_drop]; omega
  have hr : Reach bs { m with last := last, ph := .sth } (b.take i) (pos + (3 + p)) := h.1.step0 ⟨h.2.2.2, h.2.2.1⟩ (by
    rw [hk, hpad]
    unfold headM
    rw [half_of, last_of]
    rfl)
  have hb3 := drop_more hb2
  rw [List.length_replicate, Nat.add_assoc] at hb3
  have h32 : bs.drop (pos + (3 + p)) = (bitsOf 16 n ++ bitsOf 16 (65535 - n)) ++ (bits8 ((b.drop i).take n) ++ rest) := by rw [hb3]; simp only [List.append_assoc]
  have hl32 : (bitsOf 16 n ++ bitsOf 16 (65535 - n)).length = 32 := by rw [List.length_append, bitsOf_length, bitsOf_length]
  have hv : Hf.num (bitsOf 16 n ++ bitsOf 16 (65535 - n)) = n + 65536 * (65535 - n) := by
    rw [num_append, num_bitsOf _ _ (by omega), num_bitsOf _ _ (by omega), bitsOf_length]
  have r2 : Reach bs { m with last := last, left := n, ph := .sto } (b.take i) (pos + (3 + p) + 32) := hr.step0 ⟨h.2.2.2, h.2.2.1⟩ (by
    rw [step_sth rfl, h32, if_pos (by rw [List.length_append, hl32]; omega), List.take_left' hl32, hv]
    unfold sthM
    rw [show (n + 65536 * (65535 - n)) % 65536 = n by omega, show (n + 65536 * (65535 - n)) / 65536 = 65535 - n by omega, if_pos (by omega)])
  have p4 := drop_more h32
  rw [hl32] at p4
  obtain ⟨m', q1, q2⟩ := Reach.sto hby n i _ _ rest r2 ⟨h.2.2.2, h.2.2.1⟩ rfl rfl (by omega) p4
  refine ⟨m', ?_, q2⟩
  rw [show i + n = j by omega] at q1
  have e : (hdr last 0 ++ (List.replicate p false ++ (bitsOf 16 n ++ (bitsOf 16 (65535 - n) ++ bits8 ((b.drop i).take n))))).length = 3 + p + 32 + 8 * n := by
    simp only [List.length_append, hdr_length, bitsOf_length, List.length_replicate, bits8_length, hcl]; omega
  rw [e]
  simp only [← Nat.add_assoc] at q1 ⊢
  exact q1
end
/-! ### a whole text -/
/-- Bits after which the machine stands at a head, the first i bytes told. -/
def Wrote (b : List Int) (i : Nat) (bits : List Bool) (fin : Bool) : Prop := ∀ rest, (bits ++ rest).length % 8 = 0 → ∃ m, AtHead (bits ++ rest) b i bits.length m fin
theorem Wrote.zero (b : List Int) : Wrote b 0 [] false := fun rest _ => ⟨m0, ⟨[], .refl _⟩, rfl, rfl, rfl⟩
theorem Wrote.more {b : List Int} {i j : Nat} {bits enc : List Bool} {last : Bool} (h : Wrote b i bits false) (hs : ∀ bs m rest, bs.length % 8 = 0 → AtHead bs b i bits.length m false → bs.drop bits.length = enc ++ rest → ∃ m', AtHead bs b j (bits.length + enc.length) m' last) : Wrote b j (bits ++ enc) last := fun rest h8 => by
  rw [List.append_assoc] at h8 ⊢
  obtain ⟨m, hm⟩ := h (enc ++ rest) h8
  rw [List.length_append]
  exact hs _ m rest h8 hm (List.drop_left ..)
/-- What gives a text back. -/
theorem Wrote.res {b : List Int} {bits : List Bool} {z behind : List Int} (h : Wrote b b.length bits true) (hz : ∃ pad, bits8 z = bits ++ pad ∧ pad.length < 8) (n : Nat) (hn : b.length ≤ n) : ∃ ts, Res st0 (bits8 (z ++ behind)) n b ts ((bits.length - 1) / 8) 0 true ∧ (bits.length - 1) / 8 + 1 = z.length := by
  obtain ⟨pad, hp, h8⟩ := hz
  have e : bits8 (z ++ behind) = bits ++ (pad ++ bits8 behind) := by
    have : bits8 (z ++ behind) = bits8 z ++ bits8 behind := by unfold bits8; rw [List.flatMap_append]
    rw [this, hp, List.append_assoc]
  obtain ⟨m, ⟨ts, hr⟩, hph, hf, hw⟩ := h (pad ++ bits8 behind) (by rw [← e, bits8_length]; omega)
  rw [← e] at hr
  rw [List.take_length] at hr
  have hres := Res.dead (n := n) hr (fun hl => by have := hl.2; rw [hf] at this; cases this) hn
  have hlen := bits8_length z
  rw [hp, List.length_append] at hlen
  have hpos : bits.length ≠ 0 := fun h0 => by
    have hb0 : bits = [] := List.eq_nil_of_length_eq_zero h0
    subst hb0
    have hp0 := hr
    have hst : ∀ s t : St, Path (bits8 (z ++ behind)) s t → s = st0 → t.pos = 0 → t = st0 := by
      intro s t hpath hs ht
      cases hpath with
      | refl => exact hs
      | cons h1 h2 =>
        subst hs
        have h3 := (next_pos (Nat.zero_le _) h1)
        have h4 := (h2.pos h3.2).1
        obtain ⟨_, r, h5, rfl⟩ := next_some h1
        have h6 := h5
        rw [step_head (m := st0.m) rfl] at h6
        split at h6
        · injection h6 with h6
          subst h6
          have h7 : (st0.add (headM st0.m (Hf.num (((bits8 (z ++ behind)).drop st0.pos).take 3)) ((((bits8 (z ++ behind)).drop st0.pos).length - 3) % 8))).pos = 0 + (headM st0.m (Hf.num (((bits8 (z ++ behind)).drop st0.pos).take 3)) ((((bits8 (z ++ behind)).drop st0.pos).length - 3) % 8)).2.2 := rfl
          rw [headM_used] at h7
          split at h7 <;> omega
        · cases h6
    have h9 := hst _ _ hr rfl rfl
    have : m = m0 := by injection h9
    rw [this] at hf
    cases hf
  rw [hf, hw] at hres
  exact ⟨ts, hres, by omega⟩
end Go.Proofs.YtdpnlmofkkdioaaDoor.Hf
