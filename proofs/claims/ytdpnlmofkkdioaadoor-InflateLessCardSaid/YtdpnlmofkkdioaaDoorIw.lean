/- The inflater: any step; advance. -/
import Derived.Test.YtdpnlmofkkdioaaDoorIv
namespace Go.Proofs.YtdpnlmofkkdioaaDoor.Hf
set_option linter.unusedVariables false
set_option linter.unusedSimpArgs false
open Go.RowKit Go.Proofs.YtdpnlmofkkdioaaDoor.W

theorem c_step {w : World} {d r p q g : Nat} {m : M} {out : List Int} {bs : List Bool} (h : Inf w d r p q g m out bs false 0) (h0 : m.why = 0) (hl : bs.length < 64) (hok : Ok m out) (hG : Gt w [d, r, p, q, g]) :
    Calls Tryd.prog (phF m.ph) #[.pointer (some ⟨d, 0, none⟩)] w (StepPost w d r p q g m out bs) := by
  have hp := hok.ph h0
  unfold PhOk at hp
  cases hph : m.ph with
  | head => exact c_head h h0 hph hl
  | sth => exact c_sth h h0 hph hl
  | sto => rw [hph] at hp; exact c_sto h h0 hph hl hp
  | cts => exact c_cts h h0 hph hl
  | lol => exact c_lol h h0 hph hl hok hG
  | len => exact c_len h h0 hph hl hok
  | rep => exact c_rep h h0 hph hl hok
  | lit => rw [hph] at hp; exact c_lit h h0 hph hl hp.lt
  | lbits => rw [hph] at hp; exact c_lbits h h0 hph hl hp.2 hG
  | dst => rw [hph] at hp; exact c_dst h h0 hph hl hp.1.ds
  | dbits => rw [hph] at hp; exact c_dbits h h0 hph hl hp.2.2 hG
  | cpy => exact c_cpy h h0 hph hok
def Mid (m : M) (out : List Int) (bs : List Bool) (m1 : M) (out1 : List Int) (bs1 : List Bool) (rdy1 : Bool) (o1 : Int) : Prop :=
  (rdy1 = false ∧ o1 = 0 ∧ ∀ m' out' bs' r', Adv m1 out1 bs1 m' out' bs' r' → Adv m out bs m' out' bs' r') ∨ (rdy1 = true ∧ Adv m out bs m1 out1 bs1 true ∧ ∃ o0, out1 = o0 ++ [o1])
def AdvPost (w : World) (d r p q g : Nat) (m : M) (out : List Int) (bs : List Bool) (en : Ending) (w' : World) : Prop :=
  en = .returned (.tuple #[]) ∧ ∃ m' out' bs' rdy o, Adv m out bs m' out' bs' rdy ∧ Inf w' d r p q g m' out' bs' rdy o ∧ Ok m' out' ∧ bs'.length ≤ bs.length ∧ Kp [d, r, p, q, g] w w' ∧ (rdy = false → o = 0) ∧ (rdy = true → ∃ o0, out' = o0 ++ [o])
theorem step_gives {m : M} {out : List Int} {bs : List Bool} {rr : Out} (h : step m out bs = some rr) : rr.2.1 = [] ∨ ∃ b, rr.2.1 = [b] := by
  unfold step at h
  have hif : ∀ {c : Prop} [Decidable c] {x : Out}, (if c then some x else none) = some rr → (x.2.1 = [] ∨ ∃ b, x.2.1 = [b]) → rr.2.1 = [] ∨ ∃ b, rr.2.1 = [b] := fun h1 h2 => by
    split at h1
    · injection h1 with h1; subst h1; exact h2
    · cases h1
  cases hph : m.ph with
  | head =>
    rw [hph] at h
    refine hif h ?_
    unfold headM
    rcases num (bs.take 3) / 2 with _ | _ | _ | _ <;> exact .inl rfl
  | sth => rw [hph] at h; exact hif h (.inl rfl)
  | sto =>
    rw [hph] at h
    dsimp only at h
    split at h
    · injection h with h; subst h; exact .inl rfl
    · exact hif h (.inr ⟨_, rfl⟩)
  | cts => rw [hph] at h; exact hif h (.inl rfl)
  | lol => rw [hph] at h; exact hif h (.inl rfl)
  | len =>
    rw [hph] at h
    dsimp only at h
    split at h
    · injection h with h; subst h; exact .inl rfl
    · cases h
  | rep => rw [hph] at h; exact hif h (.inl rfl)
  | lit =>
    rw [hph] at h
    dsimp only at h
    split at h
    · injection h with h
      subst h
      unfold litM
      split
      · exact .inl rfl
      · split
        · exact .inr ⟨_, rfl⟩
        · split <;> exact .inl rfl
    · injection h with h; subst h; exact .inl rfl
    · cases h
  | lbits => rw [hph] at h; exact hif h (.inl rfl)
  | dst =>
    rw [hph] at h
    dsimp only at h
    split at h
    · injection h with h; subst h; exact .inl rfl
    · injection h with h; subst h; exact .inl rfl
    · cases h
  | dbits => rw [hph] at h; exact hif h (.inl rfl)
  | cpy => rw [hph] at h; injection h with h; subst h; exact .inr ⟨_, rfl⟩
theorem run_enter {P : Program} {f : FuncId} {fn : Func} (hf : P.funcs[f]? = some fn) (hname : (fn.name == "runtime.NumGoroutine") = false) (hb : fn.body.isSome = true) (args : Array Value) (w : World) : (callFunc f args).run P w = .ok (.enter f args) w := by
  have h1 : fn.name ≠ "runtime.NumGoroutine" := by simpa using hname
  obtain ⟨c, hc⟩ := Option.isSome_iff_exists.1 hb
  simp [callFunc, hf, h1, hc]
theorem ph_enter (x : Ph) (args : Array Value) (w : World) : Sem.run Tryd.prog (callFunc (phF x) args) w = .ok (.enter (phF x) args) w := by
  cases x with
  | head => exact run_enter Tryd.func37 (by kernel_rfl) rfl args w
  | sth => exact run_enter Tryd.func52 (by kernel_rfl) rfl args w
  | sto => exact run_enter Tryd.func68 (by kernel_rfl) rfl args w
  | cts => exact run_enter Tryd.func55 (by kernel_rfl) rfl args w
  | lol => exact run_enter Tryd.func74 (by kernel_rfl) rfl args w
  | len => exact run_enter Tryd.func82 (by kernel_rfl) rfl args w
  | rep => exact run_enter Tryd.func85 (by kernel_rfl) rfl args w
  | lit => exact run_enter Tryd.func54 (by kernel_rfl) rfl args w
  | lbits => exact run_enter Tryd.func73 (by kernel_rfl) rfl args w
  | dst => exact run_enter Tryd.func81 (by kernel_rfl) rfl args w
  | dbits => exact run_enter Tryd.func83 (by kernel_rfl) rfl args w
  | cpy => exact run_enter Tryd.func87 (by kernel_rfl) rfl args w
set_option maxHeartbeats 4000000 in
set_option maxRecDepth 100000 in
theorem c_advance {w : World} {d r p q g : Nat} {m : M} {out : List Int} {bs : List Bool} (h : Inf w d r p q g m out bs false 0) (hl : bs.length < 64) (hok : Ok m out) (hG : Gt w [d, r, p, q, g]) :
    Calls Tryd.prog 34 #[.pointer (some ⟨d, 0, none⟩)] w (AdvPost w d r p q g m out bs) := by
  have H := Lib.hid h
  have HOK := Lib.hid hok
  have HG := Lib.hid hG
  clear h hok hG
  go_enter Tryd.func34, Tryd.ntmps34
  go_wp2_with (fail)
  go_loopg [] (1000 * bs.length + rank m) (fun gk wx => ∃ m1 out1 bs1 rdy1 o1, Inf wx d r p q g m1 out1 bs1 rdy1 o1 ∧ Kp [d, r, p, q, g] w wx ∧ Ok m1 out1 ∧ bs1.length ≤ bs.length ∧ Mid m out bs m1 out1 bs1 rdy1 o1 ∧ 1000 * bs1.length + rank m1 ≤ gk)
  case atStart => exact ⟨m, out, bs, false, 0, H.out, Kp.refl _ _, HOK.out, Nat.le_refl _, .inl ⟨rfl, rfl, fun _ _ _ _ h => h⟩, Nat.le_refl _⟩
  case round =>
    obtain ⟨m1, out1, bs1, rdy1, o1, hI, hK, hOk, hlen, hmid, hmeas⟩ := hrel
    obtain ⟨l, e, c, hd, hT⟩ := hI.db
    have c6 := hd.a (i := 6) rfl
    have c4 := hd.a (i := 4) rfl
    have c5 := hd.a (i := 5) rfl
    have c2 := hd.a (i := 2) rfl
    have hlt := hd.lt
    have HI := Lib.hid hI
    have HK := Lib.hid hK
    have HO := Lib.hid hOk
    have HL := Lib.hid hlen
    have HM := Lib.hid hmeas
    have HMID := Lib.hid hmid
    clear hI hK hOk hmeas hd hT hmid
    rcases HMID.out with ⟨rfl, rfl, hadv⟩ | ⟨rfl, hadv, o0, ho0⟩
    · have HA := Lib.hid hadv
      clear hadv HMID
      by_cases hlive : Live m1
      · obtain ⟨hw0, hf0⟩ := hlive
        have CS := Lib.hid (c_step HI.out hw0 (by omega) HO.out (HG.out.kept HK.out (fun k hk => hk)))
        rw [hf0] at c4
        rw [hw0] at c5
        have HLV := Lib.hid (show Live m1 from ⟨hw0, hf0⟩)
        have HW0 := Lib.hid hw0
        clear hw0 hf0
        have hen := ph_enter m1.ph #[.pointer (some ⟨d, 0, none⟩)] wr
        generalize phF m1.ph = fn at *
        go_wp2_with (first
          | (refine CS.out.mono ?_; rintro en w2 (⟨hs, rfl, hi, hk⟩ | ⟨rr, hs, rfl, hi, hk⟩)))
        · refine bodyPost_end (results_none rfl _ _ _) rfl ?_
          exact ⟨rfl, m1, out1, bs1, false, 0, HA.out _ _ _ _ (.wait HLV.out hs), hi, HO.out, HL.out, HK.out.trans hk, fun _ => rfl, fun h => (by cases h)⟩
        · have hlt2 := step_meas HO.out HW0.out hs
          have hku := (step_take m1 out1 bs1 (Nat.le_refl _) rfl).1 rr hs
          have hok2 := HO.out.step HW0.out hs
          have hm9 := HM.out
          have hl9 := HL.out
          go_roundg (1000 * (bs1.length - rr.2.2) + rank rr.1)
          case measure => omega
          case rel =>
            obtain ⟨m2, gv, k⟩ := rr
            dsimp only at *
            rcases step_gives hs with h9 | ⟨b, h9⟩
            · dsimp only at h9
              subst h9
              rw [List.append_nil] at hi hok2
              exact ⟨m2, out1, bs1.drop k, false, 0, hi, HK.out.trans hk, hok2, by rw [List.length_drop]; omega, .inl ⟨rfl, rfl, fun m' out' bs' r' h => HA.out _ _ _ _ (.go HLV.out hs h)⟩, by rw [List.length_drop]; omega⟩
            · dsimp only at h9
              subst h9
              exact ⟨m2, out1 ++ [b], bs1.drop k, true, b, hi, HK.out.trans hk, hok2, by rw [List.length_drop]; omega, .inr ⟨rfl, HA.out _ _ _ _ (.give HLV.out hs), out1, rfl⟩, by rw [List.length_drop]; omega⟩
      · have FIN := Lib.hid (show AdvPost w d r p q g m out bs (.returned (.tuple #[])) wr from ⟨rfl, m1, out1, bs1, false, 0, HA.out _ _ _ _ (.dead hlive), HI.out, HO.out, HL.out, HK.out, fun _ => rfl, fun h => (by cases h)⟩)
        by_cases hf : m1.fin = true
        · rw [hf] at c4
          clear hlive hf
          go_wp2_with (fail)
          refine bodyPost_end (results_none rfl _ _ _) rfl ?_
          exact FIN.out
        · have hf2 : m1.fin = false := by cases h9 : m1.fin with
            | false => rfl
            | true => exact absurd h9 hf
          have hw : ¬ m1.why = 0 := fun h9 => hlive ⟨h9, hf2⟩
          have hw2 : ((m1.why : Int) == 0) = false := W.eqF (by omega)
          rw [hf2] at c4
          clear hlive hf hf2 hw
          go_wp2_with (fail)
          refine bodyPost_end (results_none rfl _ _ _) rfl ?_
          exact FIN.out
    · clear HMID
      have FIN := Lib.hid (show AdvPost w d r p q g m out bs (.returned (.tuple #[])) wr from ⟨rfl, m1, out1, bs1, true, o1, hadv, HI.out, HO.out, HL.out, HK.out, fun h => (by cases h), fun _ => ⟨o0, ho0⟩⟩)
      clear hadv ho0
      go_wp2_with (fail)
      refine bodyPost_end (results_none rfl _ _ _) rfl ?_
      exact FIN.out
end Go.Proofs.YtdpnlmofkkdioaaDoor.Hf
