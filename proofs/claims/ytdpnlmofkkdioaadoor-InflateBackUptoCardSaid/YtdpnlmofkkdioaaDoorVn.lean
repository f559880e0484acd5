/- What beginnings of a written text give (plain). -/
import Derived.Test.YtdpnlmofkkdioaaDoorVl
import Derived.Test.YtdpnlmofkkdioaaDoorLa
namespace Go.Proofs.YtdpnlmofkkdioaaDoor.Hf
set_option linter.unusedVariables false
set_option linter.unusedSimpArgs false
open Go.RowKit Go.Proofs.YtdpnlmofkkdioaaDoor.W

/-- The machine's end over a written text. -/
theorem Wrote.path {b z : List Int} {bits : List Bool} (h : Wrote b b.length bits true) (hz : Pk z bits) : ∃ t, Path (bits8 z) st0 t ∧ ¬ Live t.m ∧ t.out = b ∧ t.pos = bits.length := by
  obtain ⟨m, ⟨ts, hr⟩, hph, hf, hw⟩ := h (List.replicate (8 * z.length - bits.length) false) (by rw [← hz.2.2.2, bits8_length]; omega)
  rw [← hz.2.2.2] at hr
  exact ⟨_, hr, (fun hl => by have h9 := hl.2; dsimp only at h9; rw [hf] at h9; cases h9), List.take_length, rfl⟩
theorem Wrote.back {b z behind : List Int} {bits : List Bool} (h : Wrote b b.length bits true) (hz : Pk z bits) (n : Nat) (hn : b.length ≤ n) : ∃ ts a, Res st0 (bits8 (z ++ behind)) n b ts a 0 true ∧ a + 1 = z.length :=
  let ⟨ts, h1, h2⟩ := h.res (behind := behind) ⟨_, hz.2.2.2, by have := hz.2.1; have := hz.2.2.1; rw [List.length_replicate]; omega⟩ n hn
  ⟨ts, _, h1, h2⟩
/-- A beginning of k bytes: as far as the machine comes. -/
structure Cuts (b z : List Int) (k : Nat) (s : St) : Prop where
  path : Path (bits8 z) st0 s
  ptake : Path ((bits8 z).take (8 * k)) st0 s
  pos : s.pos ≤ 8 * k
  stop : next ((bits8 z).take (8 * k)) s = none
  live : Live s.m
  out : s.out <+: b
theorem Wrote.cuts {b z : List Int} {bits : List Bool} (h : Wrote b b.length bits true) (hz : Pk z bits) {k : Nat} (hk : k < z.length) : ∃ s, Cuts b z k s := by
  obtain ⟨t, pt, hd, rfl, hp⟩ := h.path hz
  have hq : 8 * k ≤ (bits8 z).length := by rw [bits8_length]; omega
  have h8 : (8 * k) % 8 = (bits8 z).length % 8 := by rw [bits8_length]; omega
  obtain ⟨s, p1, p2⟩ := exists_final (bs := (bits8 z).take (8 * k)) _ st0 Ok.m0 (Nat.zero_le _) (Nat.lt_succ_self _)
  obtain ⟨p3, p4⟩ := p1.of_take (Nat.zero_le _) hq h8
  have p5 := pt.final (dead_next hd) p3
  refine ⟨s, p3, p1, p4, p2, ?_, p5.out.1⟩
  refine Classical.byContradiction fun hl => ?_
  have h9 := p5.stuck (dead_next hl)
  subst h9
  have := hz.2.2.1
  omega
theorem Cuts.res {b z : List Int} {k : Nat} {s : St} (h : Cuts b z k s) (n : Nat) (hn : b.length ≤ n) (hk : k < z.length) : Res st0 (bits8 (z.take k)) n s.out s.ts k 1 false := by
  have e : bits8 (z.take k) = (bits8 z).take (8 * k) := (bits8_take z k).symm
  have hl : ((bits8 z).take (8 * k)).length / 8 = k := by rw [List.length_take, bits8_length, Nat.min_eq_left (by omega)]; omega
  have := Res.cut (n := n) h.ptake h.live h.stop (Nat.le_trans h.out.length_le hn)
  rw [hl] at this
  rw [e]
  exact this
theorem Cuts.less {b z : List Int} {k j : Nat} {s s' : St} (h : Cuts b z k s) (h' : Cuts b z j s') (hj : j ≤ k) (hk : k < z.length) : s'.out <+: s.out := by
  rcases h.path.linear h'.path with p | p
  · by_cases he : s' = s
    · rw [he]; exact List.prefix_refl _
    · have := wait_beyond h.pos (by rw [bits8_length]; omega) (by rw [bits8_length]; omega) h.stop p he
      have := h'.pos
      omega
  · exact p.out.1
end Go.Proofs.YtdpnlmofkkdioaaDoor.Hf
