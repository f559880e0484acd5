/- winklelaw14's tells: what a splitter tells at one time. -/
import Derived.Test.YtmalacamfjdimaaRm
namespace Go.Proofs.Ytmalacamfjdimaa.Pt
open Go.RowKit Go.Proofs.Ytmalacamfjdimaa.W

def TellsPost (w : World) (p hb ob : Nat) (s : St) (k0 : Nat) (e : Ending) (w' : World) : Prop :=
  e = .returned (.tuple #[.int .i64 ((k0 + s.out.length : Nat) : Int), .bool true]) ∧ Spl w' p hb ob { s with told := s.out.length } ∧ Kp [p, hb, ob] w w'
theorem Spl.tm {w wz : World} {p hb ob : Nat} {s : St} {base n c gb : Nat} {es : List (Nat × Ev)} (h : Spl w p hb ob s) (ho : w.ownsRow base 67 6 (.slice (some ⟨gb, 0, none⟩) n c) n (tms es)) (hK : Kp [p, hb, ob] w wz) {q : Nat} {t : Nat × Ev} (hq : es[q]? = some t) {i : Nat} {u : Value} (hi : i < 6) (hu : (tmC t)[i]? = some u) : wz.cell? ⟨gb, q * 6 + i, none⟩ = some u := by
  have h1 := own_elem ho ((tms_at hq i hi).trans hu)
  have hn : gb ∉ [p, hb, ob] := by
    intro hm
    simp at hm
    rcases hm with h2 | h2 | h2
    · exact own_ne ho h.cells (by decide) rfl h2
    · exact own_type ho h.hold (by decide) (k := gb) rfl (by rw [h2]; rfl)
    · exact own_type ho h.out (by decide) (k := gb) rfl (by rw [h2]; rfl)
  exact (World.cell?_of_block (a := ⟨gb, q * 6 + i, none⟩) (hK.block gb (own_lt ho) hn)).trans h1
theorem Kp.p3 {p hb ob : Nat} {w w' : World} (h : Kp [p] w w') : Kp [p, hb, ob] w w' := h.mono fun k hk => by simp at hk; subst hk; exact .inl (by simp)

theorem tells_fin {w wq w3 w' : World} {p hb ob q k0 : Nat} {s : St} (hq : q = k0 + s.out.length) (hK : Kp [p, hb, ob] w wq) (hK3 : Kp [p] wq w3) (hS3 : Spl w3 p hb ob { s with told := s.out.length }) (hk : Kp [] w3 w') :
    TellsPost w p hb ob s k0 (.returned (.tuple #[.int .i64 (q : Int), .bool true])) w' := by
  subst hq
  exact ⟨rfl, hS3.kept hk (by simp) (by simp) (by simp), hK.trans ((Kp.p3 hK3).trans (hk.mono (by simp)))⟩
set_option maxHeartbeats 4000000 in
set_option maxRecDepth 100000 in
theorem c_tells (p hb ob : Nat) (s : St) (base : Nat) (A : Option Addr) (n c : Nat) (es : List (Nat × Ev)) (k0 at_ : Nat) (w : World) (h : Spl w p hb ob s) (ok : s.Ok) (hl : es.length = n) (hn : n ≤ 1000000000) (ho : w.ownsRow base 67 6 (.slice A n c) n (tms es))
    (hev : ∀ j e, s.out[j]? = some e → es[k0 + j]? = some (at_, e)) (hend : ∀ t e, es[k0 + s.out.length]? = some (t, e) → t ≠ at_) (hle : k0 + s.out.length ≤ n) (h0 : s.told = 0) :
    Calls Try.prog 20 #[.pointer (some ⟨p, 0, none⟩), .slice A n c, .int .i64 k0, .int .i64 at_] w (TellsPost w p hb ob s k0) := by
  have HL := Lib.hid hl
  have HO := Lib.hid ho
  have HEV := Lib.hid hev
  have HEND := Lib.hid hend
  have HH := Lib.hid h
  have hcap : s.out.length ≤ 96 := (own_cap h.out).1
  have HS0 := Lib.hid (show Spl w p hb ob { s with told := 0 } by rw [← h0]; exact h)
  have HOK := Lib.hid (show ∀ j, St.Ok { s with told := j } from fun j => by obtain ⟨a, b, c, d⟩ := ok; exact ⟨a, b, c, d⟩)
  have HN := Lib.hid (show evA none = .agg #[.int .i64 0, .int .u8 0, .int .i64 0, .int .i64 0, .string ⟨#[]⟩] from rfl)
  clear hl ho hev hend h ok h0
  go_enter Try.func20, Try.ntmps20
  go_wp2
  go_loopg [2] s.out.length (fun g t2 wx => ∃ j q : Nat, j + g = s.out.length ∧ Hid (q = k0 + j) ∧ t2 = .int .i64 q ∧ Spl wx p hb ob { s with told := j } ∧ Kp [p, hb, ob] w wx)
  case atStart => exact ⟨0, k0, by omega, Lib.hid rfl, rfl, HS0.out, Kp.refl _ _⟩
  case round =>
    obtain ⟨j, q, hj, HQ, rfl, hS, hK⟩ := hrel
    obtain ⟨wq, rfl⟩ : ∃ wq : World, wq = wr := ⟨_, rfl⟩
    have HS := Lib.hid hS
    have hlt := hS.lt
    cases gk with
    | zero =>
      obtain rfl : j = s.out.length := by omega
      have hqn : q ≤ n := by have := HQ.out; omega
      have hnone : ({ s with told := s.out.length } : St).out[({ s with told := s.out.length } : St).told]? = none := by simp
      have HNO := Lib.hid hnone
      clear hnone
      by_cases hlq : q < n
      · obtain ⟨te, hte⟩ : ∃ t, es[q]? = some t := ⟨_, List.getElem?_eq_getElem (by rw [HL.out]; exact hlq)⟩
        obtain ⟨t, ev⟩ := te
        obtain ⟨gb, rfl, hgb, hgl⟩ := own_bl HO.out (by omega)
        have hne : t ≠ at_ := HEND.out t ev (by rw [← HQ.out]; exact hte)
        have e1 : ((t : Int) == (at_ : Int)) = false := eqF (by omega)
        have hlq2 : (q : Int) < (n : Int) := by omega
        have k1 : wq.cell? ⟨gb, q * 6, none⟩ = some (.int .i64 t) := HH.out.tm HO.out hK hte (i := 0) (by omega) rfl
        clear hte hne hS
        go_wp2_with (go_at_call 23; go_must (refine (c_next_none p hb ob _ _ HS.out HNO.out).mono ?_); rintro e w3 ⟨rfl, hS3, hK3⟩; go_must (rw [HN.out]))
        go_quiet (fail)
        go_wp2
        go_ret2
        exact tells_fin HQ.out hK hK3 hS3 (by repeat (first | exact Kp.refl _ _ | refine Kp.drewN ?_ _ | refine Kp.alloc ?_ _))
      · have hlq2 : ¬ (q : Int) < (n : Int) := by omega
        clear hS
        go_wp2_with (go_at_call 23; go_must (refine (c_next_none p hb ob _ _ HS.out HNO.out).mono ?_); rintro e w3 ⟨rfl, hS3, hK3⟩; go_must (rw [HN.out]))
        go_quiet (fail)
        go_wp2
        go_ret2
        exact tells_fin HQ.out hK hK3 hS3 (by repeat (first | exact Kp.refl _ _ | refine Kp.drewN ?_ _ | refine Kp.alloc ?_ _))
    | succ g =>
      obtain ⟨ev, hev⟩ : ∃ e, s.out[j]? = some e := ⟨_, List.getElem?_eq_getElem (by omega)⟩
      have hte := HEV.out j ev hev
      rw [← HQ.out] at hte
      have hlq : q < n := by
        have := (List.getElem?_eq_some_iff.1 hte).1
        rw [HL.out] at this
        exact this
      obtain ⟨gb, rfl, hgb, hgl⟩ := own_bl HO.out (by omega)
      obtain ⟨kk, bb, nn, hA, hC⟩ : ∃ kk bb nn : Int, evA (some ev) = .agg #[.int .i64 kk, .int .u8 bb, .int .i64 nn, .int .i64 0, .string ⟨#[]⟩] ∧ evC ev = [.int .i64 kk, .int .u8 bb, .int .i64 nn, .int .i64 0, .string ⟨#[]⟩] := by cases ev <;> exact ⟨_, _, _, rfl, rfl⟩
      have hce : ∀ wz, Kp [p, hb, ob] w wz → ∀ i u, i < 6 → (Value.int .i64 (at_ : Int) :: [Value.int .i64 kk, .int .u8 bb, .int .i64 nn, .int .i64 0, .string ⟨#[]⟩])[i]? = some u → wz.cell? ⟨gb, q * 6 + i, none⟩ = some u := fun wz hk i u hi hu => HH.out.tm HO.out hk hte hi (by unfold tmC; rw [hC]; exact hu)
      have hlq2 : (q : Int) < (n : Int) := by omega
      have k1 : wq.cell? ⟨gb, q * 6, none⟩ = some (.int .i64 at_) := hce wq hK 0 _ (by omega) rfl
      have hcp := c_put p hb ob { s with told := j } 120 wq hS (HOK.out j) (by show j ≤ 96; omega)
      have hpe : ({ s with told := j } : St).put 120 = (false, { s with told := j }) := by unfold St.put; rw [if_pos (by simp; omega)]
      rw [hpe] at hcp
      have hre : ({ s with told := j } : St).reason = 0 := by unfold St.reason; rw [if_pos (by simp; omega)]
      have hnx : ({ s with told := j } : St).out[({ s with told := j } : St).told]? = some ev := hev
      have HCP := Lib.hid hcp
      have HRE := Lib.hid hre
      have HNX := Lib.hid hnx
      have HA := Lib.hid hA
      have HCE := Lib.hid hce
      have HJ := Lib.hid hj
      have HK := Lib.hid hK
      clear hev hte hA hC hce hcp hpe hre hnx hS hj hK
      go_wp2_with (first
        | (go_at_call 19; go_must (refine HCP.out.mono ?_); rintro e w1 ⟨rfl, hS1, hK1⟩; have HS1 := Lib.hid hS1; have HK1 := Lib.hid hK1; have hlt1 := hS1.lt; clear hS1 hK1)
        | (go_at_call 21; go_must (have cR := c_reason p hb ob { s with told := j } w1 HS1.out); go_must (rw [HRE.out] at cR); go_must (refine cR.mono ?_); rintro e w2 ⟨rfl, d2, rfl⟩; clear cR)
        | (go_at_call 23; go_must (refine (c_next_some p hb ob _ _ (HS1.out.drewN d2) ev HNX.out).mono ?_); rintro e w3 ⟨rfl, hS3, hK3⟩; go_must (rw [HA.out]); have HK3 := Lib.hid ((HK.out.trans (HK1.out.drewN d2)).trans (Kp.p3 hK3)); have HS3 := Lib.hid hS3; have hk1 := fun o => HCE.out (w3.alloc o) (HK3.out.alloc o) 1 _ (by omega) rfl; have hk2 := fun o => HCE.out (w3.alloc o) (HK3.out.alloc o) 2 _ (by omega) rfl; have hk3 := fun o => HCE.out (w3.alloc o) (HK3.out.alloc o) 3 _ (by omega) rfl; have hk4 := fun o => HCE.out (w3.alloc o) (HK3.out.alloc o) 4 _ (by omega) rfl; have hk5 := fun o => HCE.out (w3.alloc o) (HK3.out.alloc o) 5 _ (by omega) rfl; clear hS3 hK3))
      go_quiet (fail)
      go_wp2
      go_roundg g
      case measure => omega
      case rel =>
        have hk : Kp [] w3 ((w3.alloc (.cells #[.int .i64 kk, .int .u8 bb, .int .i64 nn, .int .i64 0, .string ⟨#[]⟩] 46)).drewN nq) := ((Kp.refl _ _).alloc _).drewN _
        exact ⟨j + 1, q + 1, by have := HJ.out; omega, Lib.hid (by have := HQ.out; omega), by go_num, HS3.out.kept hk (by simp) (by simp) (by simp), HK3.out.trans (hk.mono (by simp))⟩
end Go.Proofs.Ytmalacamfjdimaa.Pt
