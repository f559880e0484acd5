/- FormatUint; what a world must hold; the library's contracts at this dump. -/
import Derived.Test.YtgjningfpkoooaaDoorOe
import Derived.Lib.AppendIntMem
import Derived.Lib.ItoaMem
namespace Go.Proofs.YtgjningfpkoooaaDoor.Ro
set_option linter.unusedVariables false
set_option linter.unusedSimpArgs false
open Go.RowKit Go.Proofs.YtgjningfpkoooaaDoor.W Go.Sort

/-- What the library reads of the world. -/
structure Gw (w : World) : Prop where
  tab : Lib.TabIs Tryd.prog w "internal/strconv.uint64pow10" .u64 Lib.pow10Tab
  mx : ∃ m : Int, w.cell? ⟨3, 0, none⟩ = some (.int .i64 m)
  e0 : ∃ t p, w.cell? ⟨0, 0, none⟩ = some (.iface t p)
  e1 : ∃ t p, w.cell? ⟨1, 0, none⟩ = some (.iface t p)
  sz : 8 ≤ w.heap.size
theorem g2 : Tryd.prog.globalNamed "internal/strconv.uint64pow10" = some 2 := by kernel_rfl
theorem Gw.below {B : Nat} {w w' : World} (h : Gw w) (hb : Below B w w') (hB : 8 ≤ B) : Gw w' := by
  have hc : ∀ g, g < 8 → w'.cell? ⟨g, 0, none⟩ = w.cell? ⟨g, 0, none⟩ := fun g hg => World.cell?_of_block (a := ⟨g, 0, none⟩) (hb.block g (by omega))
  obtain ⟨h1, ⟨m, h2⟩, ⟨t, p, h3⟩, ⟨t', p', h4⟩, h5⟩ := h
  refine ⟨?_, ⟨m, (hc 3 (by omega)).trans h2⟩, ⟨t, p, (hc 0 (by omega)).trans h3⟩, ⟨t', p', (hc 1 (by omega)).trans h4⟩, Nat.le_trans h5 hb.size⟩
  unfold Lib.TabIs World.var? at h1 ⊢
  rw [g2] at h1 ⊢
  dsimp only [Option.bind_some] at h1 ⊢
  rw [hb.block 2 (by omega)]
  exact h1
theorem Gw.kp {w w' : World} (h : Gw w) (hk : Kp [] w w') : Gw w' := h.below (hk.below (Nat.le_refl _) (by simp)) h.sz
def StrIs (w : World) (l : List UInt8) (e : Ending) (w' : World) : Prop := e = .returned (.string ⟨l.toArray⟩) ∧ Below w.heap.size w w'
set_option maxHeartbeats 4000000 in
set_option maxRecDepth 100000 in
theorem c_fuint0 (u : Nat) (hu64 : u < 18446744073709551616) (w : World) (htab : Lib.TabIs Tryd.prog w "internal/strconv.uint64pow10" .u64 Lib.pow10Tab) :
    Calls Tryd.prog 60 #[.int .u64 (u : Nat), .int .i64 10] w (StrIs w (Lib.decDigits u)) := by
  by_cases hs : u < 100
  · have iu : (u : Int) < 100 := by omega
    go_enter Tryd.func60, Tryd.ntmps60
    go_wp2_with (go_at_call 76; refine (Tryd.internal_strconv_small u hs _).mono ?_; rintro e w' ⟨rfl, rfl⟩)
    go_ret
    exact ⟨rfl, Below.refl _ _⟩
  · have iu : ¬ (u : Int) < 100 := by omega
    have hu1 : 1 ≤ u := by omega
    have hnd20 : Lib.nDigits u ≤ 20 := by have := Lib.numDigits_eq u hu1 hu64; split at this <;> omega
    have hal : Tryd.prog.arrayLen 99 = 24 := by simp [Program.arrayLen, Tryd.underlying99]
    have hsl : ∀ W, (Instr.sliceAt 99 (.pointer (some ⟨w.heap.size, 0, none⟩)) none (some (.int .i64 (Lib.nDigits u : Int))) none).run Tryd.prog W = .ok (.slice (some ⟨w.heap.size, 0, none⟩) (Lib.nDigits u) 24) W := fun W => by
      rw [run_sliceAt_array_h W 99 ⟨w.heap.size, 0, none⟩ (by simp [Program.arrayLen, Program.elem, Tryd.underlying99]) .i64 (Lib.nDigits u : Int) (by omega) (by rw [hal]; omega)]
      go_simp
    have hH0 := Lib.holds_zero0 w 99 (Lib.nDigits u) (by omega)
    have hfmt := Tryd.internal_strconv_formatBase10 w.heap.size 0 24 u (Array.replicate (Lib.nDigits u) 0) (w.alloc (.cells Lib.zeros24 99)) hH0 (by rw [Array.size_replicate]; exact Lib.lt_pow_nDigits u) hu64 (by rw [Array.size_replicate]; omega)
    rw [Array.size_replicate] at hfmt
    have HH0 := Lib.hid hH0
    clear hH0 hal hs
    go_enter Tryd.func60, Tryd.ntmps60
    go_wp2_with (first
      | (go_at_call 77; refine (Tryd.internal_strconv_numDigits u hu1 hu64 _ (Lib.tabIs_alloc htab _)).mono ?_; rintro e w' ⟨rfl, rfl⟩))
    go_at_call 78
    refine hfmt.mono ?_
    rintro e w' ⟨rfl, k, v', dk, rfl, hF⟩
    have hcv : (convert 48 9 (.slice (some ⟨w.heap.size, 0, none⟩) (Lib.nDigits u) 24)).run Tryd.prog ((putRow (fun (b : UInt8) => Value.int .u8 (b.toNat : Int)) (w.alloc (.cells Lib.zeros24 99)) w.heap.size 0 dk).drewN k) = .ok (.string ⟨(Lib.decDigits u).toArray⟩) ((putRow (fun (b : UInt8) => Value.int .u8 (b.toNat : Int)) (w.alloc (.cells Lib.zeros24 99)) w.heap.size 0 dk).drewN k) := by
      have h := run_convert_bytes_back (P := Tryd.prog) ((putRow (fun (b : UInt8) => Value.int .u8 (b.toNat : Int)) (w.alloc (.cells Lib.zeros24 99)) w.heap.size 0 dk).drewN k) 48 9 5 ⟨w.heap.size, 0, none⟩ 24 (Lib.decDigits u) Tryd.underlying48 Tryd.underlying5 Tryd.underlying9 (fun j hj => by
        rw [Lib.row_is_numeral hF j hj, Lib.add_plain, World.cell?_drewN]
        exact cell?_putRow (fun (b : UInt8) => Value.int .u8 (b.toNat : Int)) _ w.heap.size 0 _ dk HH0.out (by rw [hF.size, Array.size_replicate]) j (by rw [hF.size]; rw [Lib.decDigits_length] at hj; exact hj))
      rw [Lib.decDigits_length] at h
      exact h
    go_wp2_with (fail)
    go_ret
    obtain ⟨os, eo⟩ := Lib.fin_at w (.cells Lib.zeros24 99) dk k 0
    refine ⟨rfl, ?_⟩
    rw [eo]
    exact Lib.below_grow _ w (Nat.le_refl _) k os
theorem c_fuint (u : Nat) (hu64 : u < 18446744073709551616) (w : World) (hG : Gw w) :
    Calls Tryd.prog 38 #[.int .u64 (u : Nat), .int .i64 10] w (StrIs w (Lib.decDigits u)) := by
  have C := Lib.hid (c_fuint0 u hu64 w hG.tab)
  go_enter Tryd.func38, Tryd.ntmps38
  go_wp2_with (go_at_call 60; refine C.out.mono ?_; rintro e w' ⟨rfl, hb⟩)
  go_ret
  exact ⟨rfl, hb⟩
theorem c_itoa (u : Nat) (hu : u ≤ top) (w : World) (hG : Gw w) : Calls Tryd.prog 33 #[.int .i64 (u : Nat)] w (StrIs w (Lib.decDigits u)) := by
  have hu2 : u ≤ 2147483647 := hu
  refine (Tryd.strconv_Itoa (u : Nat) (by omega) (by omega) w hG.tab).mono ?_
  rintro e w' ⟨rfl, k, os, rfl⟩
  refine ⟨?_, Lib.below_grow _ w (Nat.le_refl _) k os⟩
  rw [Lib.itoa_nonneg]
def PuIs (w : World) (s : ByteArray) (e : Ending) (w' : World) : Prop := ∃ (u : Nat) (er : Value), e = .returned (.tuple #[.int .u64 (u : Nat), er]) ∧ PuEnd (Lib.parseUintB 31 s.data.toList) u er ∧ Below w.heap.size w w'
theorem c_puint (s : ByteArray) (hlim : s.size ≤ 281474976710656) (w : World) (hG : Gw w) : Calls Tryd.prog 37 #[.string s, .int .i64 10, .int .i64 31] w (PuIs w s) := by
  obtain ⟨t, p, h0⟩ := hG.e0
  obtain ⟨t', p', h1⟩ := hG.e1
  exact pu31_pub Tryd.laysPu14 s hlim _ _ w h0 (.inr ⟨_, _, rfl⟩) h1 (.inr ⟨_, _, rfl⟩)
/-- The words of a text. -/
def SplitIs (w : World) (s : ByteArray) (e : Ending) (w' : World) : Prop := ∃ ws : List ByteArray, e = .returned (.slice (some ⟨w.heap.size, 0, none⟩) ws.length ws.length) ∧ w' = w.alloc (.cells (ws.map Value.string).toArray 9) ∧ ws.map (·.data.toList) = sp s.data.toList
theorem c_split (s : ByteArray) (hs : s.size < 4294967281) (w : World) (hG : Gw w) : Calls Tryd.prog 36 #[.string s, .string ⟨#[47]⟩] w (SplitIs w s) := by
  obtain ⟨m, hm⟩ := hG.mx
  refine (Tryd.strings_Split s ⟨#[47]⟩ m w hs hm (by decide)).mono ?_
  rintro e w' ⟨rfl, rfl⟩
  have hsp : (Lib.splitB ⟨#[47]⟩ 0 (Lib.countB s ⟨#[47]⟩) s).map (·.data.toList) = sp s.data.toList := by
    rw [Lib.splitB_data, ← split_sp]
    rfl
  have hl : (Lib.splitB ⟨#[47]⟩ 0 (Lib.countB s ⟨#[47]⟩) s).length = Lib.countB s ⟨#[47]⟩ + 1 := by
    have h1 := congrArg List.length hsp
    rw [List.length_map, split_cnt _ _ (Nat.le_refl _)] at h1
    rw [h1]
  exact ⟨_, by rw [hl], rfl, hsp⟩
end Go.Proofs.YtgjningfpkoooaaDoor.Ro
