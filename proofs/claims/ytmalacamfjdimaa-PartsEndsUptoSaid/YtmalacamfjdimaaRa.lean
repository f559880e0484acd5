/- The reference's Valid. -/
import Derived.Test.YtmalacamfjdimaaPm
namespace Go.Proofs.Ytmalacamfjdimaa.Pt
open Go.RowKit Go.Proofs.Ytmalacamfjdimaa.W

def alnum (c : Int) : Bool := decide ((97 ≤ c ∧ c ≤ 122) ∨ (65 ≤ c ∧ c ≤ 90) ∨ (48 ≤ c ∧ c ≤ 57))
def moreB : ByteArray := ⟨#[39, 40, 41, 43, 95, 44, 45, 46, 47, 58, 61, 63, 32]⟩
def hasB (l : List UInt8) (c : Int) : Bool := l.any fun m => decide ((m.toNat : Int) = c)
theorem okP_ref_all : ∀ n : Fin 256, (alnum ((UInt8.ofNat n.val).toNat : Int) || hasB moreB.data.toList ((UInt8.ofNat n.val).toNat : Int)) = decide (okP (UInt8.ofNat n.val)) := by decide +kernel
theorem okP_ref (x : UInt8) : (alnum (x.toNat : Int) || hasB moreB.data.toList (x.toNat : Int)) = decide (okP x) := by
  have h := okP_ref_all ⟨x.toNat, x.toNat_lt⟩
  rwa [show UInt8.ofNat x.toNat = x by simp] at h

set_option maxHeartbeats 2000000 in
set_option maxRecDepth 100000 in
theorem r_valid (s : ByteArray) (w : World) (hs : s.size ≤ 9223372036854775807) :
    Calls Try.prog 11 #[.string s] w fun e w' => e = .returned (.bool (validB s.data.toList)) ∧ w = w' := by
  have HSZ := Lib.hid (data_len s)
  go_enter Try.func11, Try.ntmps11
  go_wp2
  go_loopg [3] s.size (fun g s2 wx => ∃ k : Nat, k + g = s.size ∧ s2 = .int .i64 k ∧ Hid (s.data.toList.all (fun x => decide (okP x)) = (s.data.toList.drop k).all (fun x => decide (okP x))) ∧ w = wx)
  case atStart => exact ⟨0, by omega, rfl, rfl, rfl⟩
  case round =>
    obtain ⟨k, hkg, rfl, HB, rfl⟩ := hrel
    cases gk with
    | zero =>
      have hk : ¬ (k : Int) < (s.size : Int) := by omega
      have hall : s.data.toList.all (fun x => decide (okP x)) = true := by rw [HB.out, List.drop_eq_nil_of_le (by rw [HSZ.out]; omega)]; rfl
      have hv : validB s.data.toList = (decide (1 ≤ s.size) && decide (s.size ≤ 70) && decide (s.data.toList.getLast? ≠ some 32)) := by unfold validB; rw [hall, HSZ.out]; simp
      have HV := Lib.hid hv
      clear hall HB
      by_cases h1 : 1 ≤ s.size
      · have i1 : (1 : Int) ≤ (s.size : Int) := by omega
        by_cases h70 : s.size ≤ 70
        · have i70 : (s.size : Int) ≤ 70 := by omega
          have hl : s.data.toList.getLast? = some (s[s.size - 1]'(by omega)) := by rw [List.getLast?_eq_getElem?, HSZ.out, data_get s (by omega)]
          have HL := Lib.hid hl
          clear hl hv
          obtain ⟨x, hx⟩ : ∃ x : UInt8, (s[s.size - 1]'(by omega)) = x := ⟨_, rfl⟩
          by_cases h32 : x = 32
          · have e32 : (((s[s.size - 1]'(by omega)).toNat : Int) != 32) = false := by rw [hx, h32]; rfl
            have hr : validB s.data.toList = false := by rw [HV.out, HL.out, hx, h32]; simp
            have HR := Lib.hid hr
            clear hx h32 hr HV HL
            go_wp2
            go_ret
            exact ⟨by rw [HR.out]; rfl, rfl⟩
          · have n32 : ((s[s.size - 1]'(by omega)).toNat : Int) ≠ 32 := fun e => h32 (by rw [← hx]; exact UInt8.toNat_inj.1 (by show _ = 32; omega))
            have e32 := neT n32
            have hr : validB s.data.toList = true := by rw [HV.out, HL.out, hx]; simp [h32, h1, h70]
            have HR := Lib.hid hr
            clear hx h32 n32 hr HV HL
            go_wp2
            go_ret
            exact ⟨by rw [HR.out]; rfl, rfl⟩
        · have i70 : ¬ (s.size : Int) ≤ 70 := by omega
          have hr : validB s.data.toList = false := by rw [HV.out]; simp [h70]
          have HR := Lib.hid hr
          clear hr hv HV
          go_wp2
          go_ret
          exact ⟨by rw [HR.out]; rfl, rfl⟩
      · have i1 : ¬ (1 : Int) ≤ (s.size : Int) := by omega
        have hr : validB s.data.toList = false := by rw [HV.out]; simp [h1]
        have HR := Lib.hid hr
        clear hr hv HV
        go_wp2
        go_ret
        exact ⟨by rw [HR.out]; rfl, rfl⟩
    | succ g =>
      have hk : (k : Int) < (s.size : Int) := by omega
      have hkn : k < s.size := by omega
      have hd : s.data.toList.drop k = s[k] :: s.data.toList.drop (k + 1) := by rw [List.drop_eq_getElem_cons (by rw [HSZ.out]; exact hkn)]; rfl
      have hb : s.data.toList.all (fun x => decide (okP x)) = (decide (okP s[k]) && (s.data.toList.drop (k + 1)).all (fun x => decide (okP x))) := by rw [HB.out, hd, List.all_cons]
      obtain ⟨x, hx⟩ : ∃ x : UInt8, s[k] = x := ⟨_, rfl⟩
      have hbx := okP_ref x
      rw [hx] at hb
      have HBX := Lib.hid hbx
      have HB2 := Lib.hid hb
      clear hd hb hbx
      go_upto_region 5 with (fail)
      go_cut [5] (fun t5 wz => t5 = .bool (alnum (x.toNat : Int)) ∧ wz = w)
      case first =>
        go_wp2
        all_goals go_meet
        all_goals exact ⟨congrArg Value.bool (by unfold alnum; rw [Bool.eq_iff_iff]; simp; omega), rfl⟩
      case rest =>
        obtain ⟨rfl, rfl⟩ := hcut
        go_wp2
        go_loopg [5, 6] 13 (fun g2 s5 s6 wy => ∃ j : Nat, j + g2 = 13 ∧ s6 = .int .i64 j ∧ s5 = .bool (alnum (x.toNat : Int) || hasB (moreB.data.toList.take j) (x.toNat : Int)) ∧ wy = wc)
        case atStart => exact ⟨0, rfl, rfl, by simp [hasB], rfl⟩
        case round =>
          obtain ⟨j, hjg, rfl, rfl, rfl⟩ := hrel
          cases gk with
          | zero =>
            obtain rfl : j = 13 := by omega
            rw [show moreB.data.toList.take 13 = moreB.data.toList by rfl, HBX.out]
            by_cases hok : okP x
            · rw [decT hok]
              have h1 := HB2.out
              rw [decT hok, Bool.true_and] at h1
              have H1 := Lib.hid h1
              clear h1 hok
              go_wp2
              go_roundg g
              case measure => omega
              case rel => exact ⟨k + 1, by omega, by go_num, H1, rfl⟩
            · rw [decF hok]
              have h1 : validB s.data.toList = false := by unfold validB; rw [HB2.out, decF hok]; simp
              have H1 := Lib.hid h1
              clear h1 hok
              go_wp2
              go_ret
              exact ⟨by rw [H1.out]; rfl, rfl⟩
          | succ g2 =>
            have hj : (j : Int) < 13 := by omega
            have hj0 : j < 13 := by omega
            have hsz : moreB.size = 13 := rfl
            have hnx : hasB (moreB.data.toList.take (j + 1)) (x.toNat : Int) = (hasB (moreB.data.toList.take j) (x.toNat : Int) || decide ((moreB[j].toNat : Int) = (x.toNat : Int))) := by
              have h1 : moreB.data.toList[j]? = some moreB[j] := data_get moreB (by rw [hsz]; exact hj0)
              obtain ⟨h2, h3⟩ := List.getElem?_eq_some_iff.1 h1
              unfold hasB
              rw [List.take_succ_eq_append_getElem h2, List.any_append, h3]
              simp
            obtain ⟨B, hB⟩ : ∃ B, (alnum (x.toNat : Int) || hasB (moreB.data.toList.take j) (x.toNat : Int)) = B := ⟨_, rfl⟩
            have HBB := Lib.hid hB
            have HNX := Lib.hid hnx
            rw [hB]
            clear hB hnx
            cases B with
            | true =>
              go_wp2
              go_roundg g2
              case measure => omega
              case rel => exact ⟨j + 1, by omega, by go_num, by rw [HNX.out, ← Bool.or_assoc, HBB.out]; rfl, rfl⟩
            | false =>
              go_wp2
              all_goals first
                | (go_roundg g2; (case measure => omega); (case rel => exact ⟨j + 1, by omega, by go_num, by rw [HNX.out, ← Bool.or_assoc, HBB.out, Bool.false_or]; rfl, rfl⟩))
                | (go_roundg g2; (case measure => omega); (case rel => exact ⟨j + 1, by omega, by go_num, by rw [HNX.out, ← Bool.or_assoc, HBB.out, Bool.false_or]; congr 1; rw [Bool.eq_iff_iff]; simp [moreB], rfl⟩))
                | trace_state
end Go.Proofs.Ytmalacamfjdimaa.Pt
