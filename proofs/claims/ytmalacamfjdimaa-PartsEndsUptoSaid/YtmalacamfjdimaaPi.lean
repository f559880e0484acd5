/- parts.Valid. -/
import Derived.Test.YtmalacamfjdimaaPj
namespace Go.Proofs.Ytmalacamfjdimaa.Pt
open Go.RowKit Go.Proofs.Ytmalacamfjdimaa.W

def marksB : List UInt8 := [39, 40, 41, 43, 95, 44, 45, 46, 47, 58, 61, 63, 32]
def okP (x : UInt8) : Prop := ((97 ≤ bits .or .u8 (x.toNat : Int) 32 ∧ bits .or .u8 (x.toNat : Int) 32 ≤ 122) ∨ (48 ≤ (x.toNat : Int) ∧ (x.toNat : Int) ≤ 57)) ∨ 0 ≤ Lib.indexByte [39, 40, 41, 43, 95, 44, 45, 46, 47, 58, 61, 63, 32] x
instance (x : UInt8) : Decidable (okP x) := by unfold okP; infer_instance
def validB (l : List UInt8) : Bool := l.all (fun x => decide (okP x)) && decide (1 ≤ l.length) && decide (l.length ≤ 70) && decide (l.getLast? ≠ some 32)

theorem data_len (s : ByteArray) : s.data.toList.length = s.size := by rw [Array.length_toList]; rfl
theorem data_get (s : ByteArray) {k : Nat} (h : k < s.size) : s.data.toList[k]? = some s[k] := by
  rw [List.getElem?_eq_getElem (by rw [data_len]; exact h)]; rfl

set_option maxHeartbeats 2000000 in
set_option maxRecDepth 100000 in
theorem c_valid (s : ByteArray) (w : World) (hs : s.size ≤ 9223372036854775807) :
    Calls Try.prog 13 #[.string s] w fun e w' => e = .returned (.bool (validB s.data.toList)) ∧ w = w' := by
  have HSZ := Lib.hid (data_len s)
  have cI := fun (c : Int) => Try.strings_IndexByte ⟨#[39, 40, 41, 43, 95, 44, 45, 46, 47, 58, 61, 63, 32]⟩ c
  have CI := Lib.hid cI
  clear cI
  go_enter Try.func13, Try.ntmps13
  go_wp2
  go_loopg [3, 4, 8] s.size (fun g s3 s4 s8 wx => ∃ k : Nat, k + g = s.size ∧ s8 = .int .i64 k ∧ Hid (s.data.toList.all (fun x => decide (okP x)) = (s.data.toList.drop k).all (fun x => decide (okP x))) ∧ w = wx)
  case atStart => exact ⟨0, by omega, rfl, rfl, rfl⟩
  case round =>
    obtain ⟨k, hkg, rfl, HB, rfl⟩ := hrel
    cases gk with
    | zero =>
      have hk : ¬ (k : Int) < (s.size : Int) := by omega
      have hall : s.data.toList.all (fun x => decide (okP x)) = true := by rw [HB.out, List.drop_eq_nil_of_le (by rw [HSZ.out]; omega)]; rfl
      have hv : validB s.data.toList = (decide (1 ≤ s.size) && decide (s.size ≤ 70) && decide (s.data.toList.getLast? ≠ some 32)) := by unfold validB; rw [hall, HSZ.out]; simp
      have HV := Lib.hid hv
      clear hall HB
      by_cases h1 : 1 ≤ s.size
      · have i1 : (1 : Int) ≤ (s.size : Int) := by omega
        by_cases h70 : s.size ≤ 70
        · have i70 : (s.size : Int) ≤ 70 := by omega
          have hl : s.data.toList.getLast? = some (s[s.size - 1]'(by omega)) := by rw [List.getLast?_eq_getElem?, HSZ.out, data_get s (by omega)]
          have HL := Lib.hid hl
          clear hl hv
          obtain ⟨x, hx⟩ : ∃ x : UInt8, (s[s.size - 1]'(by omega)) = x := ⟨_, rfl⟩
          by_cases h32 : x = 32
          · have e32 : (((s[s.size - 1]'(by omega)).toNat : Int) != 32) = false := by rw [hx, h32]; rfl
            have hr : validB s.data.toList = false := by rw [HV.out, HL.out, hx, h32]; simp
            have HR := Lib.hid hr
            clear hx h32 hr HV HL
            go_wp2
            go_ret
            exact ⟨by rw [HR.out]; rfl, rfl⟩
          · have n32 : ((s[s.size - 1]'(by omega)).toNat : Int) ≠ 32 := fun e => h32 (by rw [← hx]; exact UInt8.toNat_inj.1 (by show _ = 32; omega))
            have e32 := neT n32
            have hr : validB s.data.toList = true := by rw [HV.out, HL.out, hx]; simp [h32, h1, h70]
            have HR := Lib.hid hr
            clear hx h32 n32 hr HV HL
            go_wp2
            go_ret
            exact ⟨by rw [HR.out]; rfl, rfl⟩
        · have i70 : ¬ (s.size : Int) ≤ 70 := by omega
          have hr : validB s.data.toList = false := by rw [HV.out]; simp [h70]
          have HR := Lib.hid hr
          clear hr hv HV
          go_wp2
          go_ret
          exact ⟨by rw [HR.out]; rfl, rfl⟩
      · have i1 : ¬ (1 : Int) ≤ (s.size : Int) := by omega
        have hr : validB s.data.toList = false := by rw [HV.out]; simp [h1]
        have HR := Lib.hid hr
        clear hr hv HV
        go_wp2
        go_ret
        exact ⟨by rw [HR.out]; rfl, rfl⟩
    | succ g =>
      have hk : (k : Int) < (s.size : Int) := by omega
      have hkn : k < s.size := by omega
      have hd : s.data.toList.drop k = s[k] :: s.data.toList.drop (k + 1) := by rw [List.drop_eq_getElem_cons (by rw [HSZ.out]; exact hkn)]; rfl
      have HD := Lib.hid hd
      clear hd
      by_cases hok : okP s[k]
      · have HOK := Lib.hid hok
        have hb : s.data.toList.all (fun x => decide (okP x)) = (s.data.toList.drop (k + 1)).all (fun x => decide (okP x)) := by rw [HB.out, HD.out, List.all_cons, decT hok, Bool.true_and]
        have HB2 := Lib.hid hb
        clear hok hb
        go_wp2_with (go_at_call 28; go_must (refine (CI.out _ _).mono ?_); rintro e w3 ⟨rfl, rfl⟩)
        all_goals first
          | (exfalso; have hp := HOK.out; unfold okP at hp; omega)
          | (go_roundg g; (case measure => omega); (case rel => exact ⟨k + 1, by omega, by go_num, HB2, rfl⟩))
      · have HOK := Lib.hid hok
        have hb : validB s.data.toList = false := by unfold validB; rw [HB.out, HD.out, List.all_cons, decF hok]; simp
        have HB2 := Lib.hid hb
        clear hok hb
        go_wp2_with (go_at_call 28; go_must (refine (CI.out _ _).mono ?_); rintro e w3 ⟨rfl, rfl⟩)
        all_goals first
          | (exfalso; have hp := HOK.out; unfold okP at hp; omega)
          | (go_ret; exact ⟨by rw [HB2.out]; rfl, rfl⟩)
end Go.Proofs.Ytmalacamfjdimaa.Pt
