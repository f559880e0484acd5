/- strconv.ParseUint(_, 10, 31), public; strconv.FormatUint(_, 10). -/
import Derived.Test.YtgjningfpkoooaaDoorOd
import Derived.Shelf.Pu.ParseUintPublic10
import Derived.Shelf.Pu.ErrVarParseUint
import Derived.Shelf.Strconv.Itoa3
namespace Go.Proofs.YtgjningfpkoooaaDoor.Ro
set_option linter.unusedVariables false
set_option linter.unusedSimpArgs false
section
open Go.Shelf Go.RowKit
variable {P : Program} {ρ : Ren}
theorem pu31_at (L : LaysPu.n16 P ρ) (t : ByteArray) (hmax : t.size ≤ 9223372036854775806) (w : World) :
    Calls P (ρ.f 16) #[.string t, .int .i64 10, .int .i64 31] w fun e w' => e = .returned (Lib.uintTupleM (ρ.t 34) 2147483647 (Lib.parseUintB 31 t.data.toList)) ∧ (w' = w ∨ w' = Lib.bytesWorld w (ρ.t 5) t) := by
  have eM : (2 : Nat) ^ 31 - 1 = 2147483647 := by decide
  by_cases h0 : t.size = 0
  · have ht : t = ⟨#[]⟩ := by
      apply ByteArray.ext
      exact Array.eq_empty_of_size_eq_zero h0
    subst ht
    exact (AnyPu.internal_strconv_ParseUint_empty { L with } 10 31 w).mono fun e w' ⟨he, hw⟩ => ⟨he, Or.inl hw⟩
  · have hne : t.data.toList ≠ [] := fun h => h0 (by rw [Lib.size_eq, h]; rfl)
    refine (pu31 { L with } t h0 hmax w).mono fun e w' ⟨he, hw⟩ => ⟨?_, Or.inr hw⟩
    rw [he, Lib.parseUintB, if_neg hne, eM]
/-- How a call of ParseUint ends. -/
def PuEnd : Lib.NumEnd Nat → Nat → Value → Prop
  | .ok v, u, er => u = v ∧ er = .nilIface
  | _, _, er => ∃ t p, er = .iface t (.pointer p)
set_option maxHeartbeats 4000000 in
set_option maxRecDepth 100000 in
theorem pu31_pub (L : LaysPu.n14 P ρ) (s : ByteArray) (hlim : s.size ≤ 281474976710656) (ev0 ev1 : Value) (w : World) (hv0 : w.cell? ⟨(ρ.g 0), 0, none⟩ = some ev0) (hev0 : ev0 = .nilIface ∨ ∃ te pe, ev0 = .iface te pe) (hv1 : w.cell? ⟨(ρ.g 1), 0, none⟩ = some ev1) (hev1 : ev1 = .nilIface ∨ ∃ te pe, ev1 = .iface te pe) :
    Calls P (ρ.f 14) #[.string s, .int .i64 10, .int .i64 31] w fun e w' => ∃ (u : Nat) (er : Value), e = .returned (.tuple #[.int .u64 (u : Nat), er]) ∧ PuEnd (Lib.parseUintB 31 s.data.toList) u er ∧ Below w.heap.size w w' := by
  have mixed := L.mixed
  have t9 := L.t9; have a9 := L.a9; have z9 := L.z9; have v9 := L.v9
  have t3 := L.t3; have a3 := L.a3; have z3 := L.z3; have v3 := L.v3
  have t22 := L.t22; have a22 := L.a22; have z22 := L.z22; have v22 := L.v22
  have t24 := L.t24; have a24 := L.a24; have z24 := L.z24; have v24 := L.v24
  have t25 := L.t25; have a25 := L.a25; have z25 := L.z25; have v25 := L.v25
  have t4 := L.t4; have a4 := L.a4; have z4 := L.z4; have v4 := L.v4
  have e16 : ∀ args w, (callFunc (ρ.f 16) args).run P w = .ok (.enter (ρ.f 16) args) w := enters_of L.f16 (by kernel_rfl) rfl
  have e17 : ∀ args w, (callFunc (ρ.f 17) args).run P w = .ok (.enter (ρ.f 17) args) w := enters_of L.f17 (by kernel_rfl) rfl
  have hG0 : (ρ.g 0) < w.heap.size := Lib.lt_of_cell hv0
  have hG1 : (ρ.g 1) < w.heap.size := Lib.lt_of_cell hv1
  have hbW : ∀ W1, (W1 = w ∨ W1 = Lib.bytesWorld w (ρ.t 5) s) → Below w.heap.size w W1 := by
    rintro W1 (rfl | rfl)
    · exact Below.refl _ _
    · exact Lib.bytesWorld_below _ _ _
  have hI := pu31_at { L with } s (by omega) w
  rcases h : Lib.parseUintB 31 s.data.toList with u | _ | _
  · skip
    rw [h] at hI
    have hI : Calls P (ρ.f 16) #[.string s, .int .i64 10, .int .i64 31] w fun e w' => e = .returned (.tuple #[.int .u64 u, .nilIface]) ∧ (w' = w ∨ w' = Lib.bytesWorld w (ρ.t 5) s) := hI
    clear h
    go_enter L.f14, BodyPu.n14_ntmps ρ
    go_wp2_with (go_at_fn (ρ.f 16); refine hI.mono ?_; rintro e W1 ⟨rfl, hW⟩)
    go_wp2
    go_ret2
    exact ⟨u, .nilIface, rfl, ⟨rfl, rfl⟩, hbW _ hW⟩
  · skip
    rw [h] at hI
    have hI : Calls P (ρ.f 16) #[.string s, .int .i64 10, .int .i64 31] w fun e w' => e = .returned (.tuple #[.int .u64 0, .iface (ρ.t 34) (.int .i64 2)]) ∧ (w' = w ∨ w' = Lib.bytesWorld w (ρ.t 5) s) := hI
    clear h
    go_enter L.f14, BodyPu.n14_ntmps ρ
    go_wp2_with (go_at_fn (ρ.f 16); refine hI.mono ?_)
    rintro e W1 ⟨rfl, hW⟩
    have hb1 := hbW _ hW
    have hv1' : W1.cell? ⟨(ρ.g 0), 0, none⟩ = some ev0 := (hb1.cell (show (⟨(ρ.g 0), 0, none⟩ : Addr).block < w.heap.size from hG0)).trans hv0
    clear hW hbW
    go_wp2_with (go_at_fn (ρ.f 17); refine (AnyPu.strconv_toError_syntax { L with } ⟨#[80, 97, 114, 115, 101, 85, 105, 110, 116]⟩ s 10 31 ev0 _ hlim ?_ hev0).mono ?_)
    · exact hv1'
    rintro e W2 ⟨N, rfl, h1, h2, h3⟩
    go_wp2
    go_ret2
    exact ⟨0, _, rfl, ⟨_, _, rfl⟩, hb1.trans (h3.mono hb1.size)⟩
  · skip
    rw [h] at hI
    have hI : Calls P (ρ.f 16) #[.string s, .int .i64 10, .int .i64 31] w fun e w' => e = .returned (.tuple #[.int .u64 2147483647, .iface (ρ.t 34) (.int .i64 1)]) ∧ (w' = w ∨ w' = Lib.bytesWorld w (ρ.t 5) s) := hI
    clear h
    go_enter L.f14, BodyPu.n14_ntmps ρ
    go_wp2_with (go_at_fn (ρ.f 16); refine hI.mono ?_)
    rintro e W1 ⟨rfl, hW⟩
    have hb1 := hbW _ hW
    have hv1' : W1.cell? ⟨(ρ.g 1), 0, none⟩ = some ev1 := (hb1.cell (show (⟨(ρ.g 1), 0, none⟩ : Addr).block < w.heap.size from hG1)).trans hv1
    clear hW hbW
    go_wp2_with (go_at_fn (ρ.f 17); refine (AnyPu.strconv_toError_range { L with } ⟨#[80, 97, 114, 115, 101, 85, 105, 110, 116]⟩ s 10 31 ev1 _ hlim ?_ hev1).mono ?_)
    · exact hv1'
    rintro e W2 ⟨N, rfl, h1, h2, h3⟩
    go_wp2
    go_ret2
    exact ⟨2147483647, _, rfl, ⟨_, _, rfl⟩, hb1.trans (h3.mono hb1.size)⟩
end
end Go.Proofs.YtgjningfpkoooaaDoor.Ro
