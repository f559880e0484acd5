/- What the reference's Kind computes, and that its text computes it. -/
import Derived.Test.YtbmnedgoonaneaaWords
namespace Go.Proofs.Ytbmnedgoonaneaa.Sn
open Go.RowKit Go.Proofs.Ytbmnedgoonaneaa.W

def gz : List Int → Bool
  | a :: b :: c :: _ => a == 31 && b == 139 && c == 8
  | _ => false
def zp : List Int → Bool
  | a :: b :: c :: d :: _ => a == 80 && b == 75 && c == 3 && d == 4
  | _ => false
def ut (l : List Int) : Bool := decide (262 ≤ l.length) && ((strOfNums ((l.drop 257).take 5)).toList == [117, 115, 116, 97, 114])
def kind (l : List Int) : Int := if gz l then 7 else if zp l then 9 else if ut l then 8 else 1

set_option maxHeartbeats 1000000 in
set_option maxRecDepth 100000 in
theorem kind_any (A : Option Addr) (n c : Nat) (l : List Int) (w : World) (hl : l.length = n) (hnc : n ≤ c) (hn : n ≤ 140737488355328) (hc : RB w A l) :
    Calls Try.prog 10 #[.slice A n c] w fun e w' => e = .returned (.int .i64 (kind l)) ∧ w = w' := by
  have HC := Lib.hid hc
  have HL := Lib.hid hl
  have hn0 : (0 : Int) ≤ (n : Int) := by omega
  clear hc hl
  go_enter Try.func10, Try.ntmps10
  go_upto_region 1 with (fail)
  go_cut [23] (fun v23 wc => Hid (v23 = .bool (gz l)) ∧ w = wc)
  case first =>
    rcases l with _ | ⟨x0, _ | ⟨x1, _ | ⟨x2, l⟩⟩⟩
    · have h3 : ¬ (3 : Int) ≤ (n : Int) := by have := HL.out; simp at this; omega
      go_wp2
      go_meet
      case rel => exact ⟨Lib.hid rfl, rfl⟩
    · have h3 : ¬ (3 : Int) ≤ (n : Int) := by have := HL.out; simp at this; omega
      go_wp2
      go_meet
      case rel => exact ⟨Lib.hid rfl, rfl⟩
    · have h3 : ¬ (3 : Int) ≤ (n : Int) := by have := HL.out; simp at this; omega
      go_wp2
      go_meet
      case rel => exact ⟨Lib.hid rfl, rfl⟩
    · have h3 : (3 : Int) ≤ (n : Int) := by have := HL.out; simp at this; omega
      have h3b : 3 ≤ n := by omega
      obtain ⟨b, off, rfl, hb, c0⟩ := HC.out.get (i := 0) rfl
      obtain ⟨_, _, hA, _, c1⟩ := HC.out.get (i := 1) rfl
      cases hA
      obtain ⟨_, _, hA, _, c2⟩ := HC.out.get (i := 2) rfl
      cases hA
      simp only [Nat.add_zero] at c0
      by_cases e0 : x0 = 31
      · have b0 := eqT e0
        by_cases e1 : x1 = 139
        · have b1 := eqT e1
          by_cases e2 : x2 = 8
          · have b2 := eqT e2
            have hf : Hid (gz (x0 :: x1 :: x2 :: l) = true) := by show _ = _; simp [gz, b0, b1, b2]
            clear e0 e1 e2
            go_wp2
            go_meet
            case rel => exact ⟨Lib.hid (by rw [hf.out]), rfl⟩
          · have b2 := eqF e2
            have hf : Hid (gz (x0 :: x1 :: x2 :: l) = false) := by show _ = _; simp [gz, b2]
            clear e0 e1 e2
            go_wp2
            go_meet
            case rel => exact ⟨Lib.hid (by rw [hf.out]), rfl⟩
        · have b1 := eqF e1
          have hf : Hid (gz (x0 :: x1 :: x2 :: l) = false) := by show _ = _; simp [gz, b1]
          clear e0 e1
          go_wp2
          go_meet
          case rel => exact ⟨Lib.hid (by rw [hf.out]), rfl⟩
      · have b0 := eqF e0
        have hf : Hid (gz (x0 :: x1 :: x2 :: l) = false) := by show _ = _; simp [gz, b0]
        clear e0
        go_wp2
        go_meet
        case rel => exact ⟨Lib.hid (by rw [hf.out]), rfl⟩
  case rest =>
    obtain ⟨HV, rfl⟩ := hcut
    cases hg : gz l with
    | true =>
      obtain rfl := HV.out.trans (congrArg Value.bool hg)
      have hk : kind l = 7 := by simp [kind, hg]
      have HK := Lib.hid hk
      clear hk hg HV
      go_wp2
      go_ret
      exact ⟨by rw [HK.out]; rfl, rfl⟩
    | false =>
      obtain rfl := HV.out.trans (congrArg Value.bool hg)
      have HG := Lib.hid hg
      clear hg HV
      go_upto_region 3 with (fail)
      go_cut [50] (fun v50 wc => Hid (v50 = .bool (zp l)) ∧ w = wc)
      case first =>
        rcases l with _ | ⟨x0, _ | ⟨x1, _ | ⟨x2, _ | ⟨x3, l⟩⟩⟩⟩
        · have h3 : ¬ (4 : Int) ≤ (n : Int) := by have := HL.out; simp at this; omega
          go_wp2
          go_meet
          case rel => exact ⟨Lib.hid rfl, rfl⟩
        · have h3 : ¬ (4 : Int) ≤ (n : Int) := by have := HL.out; simp at this; omega
          go_wp2
          go_meet
          case rel => exact ⟨Lib.hid rfl, rfl⟩
        · have h3 : ¬ (4 : Int) ≤ (n : Int) := by have := HL.out; simp at this; omega
          go_wp2
          go_meet
          case rel => exact ⟨Lib.hid rfl, rfl⟩
        · have h3 : ¬ (4 : Int) ≤ (n : Int) := by have := HL.out; simp at this; omega
          go_wp2
          go_meet
          case rel => exact ⟨Lib.hid rfl, rfl⟩
        · have h3 : (4 : Int) ≤ (n : Int) := by have := HL.out; simp at this; omega
          have h3b : 4 ≤ n := by omega
          obtain ⟨b, off, rfl, hb, c0⟩ := HC.out.get (i := 0) rfl
          obtain ⟨_, _, hA, _, c1⟩ := HC.out.get (i := 1) rfl
          cases hA
          obtain ⟨_, _, hA, _, c2⟩ := HC.out.get (i := 2) rfl
          cases hA
          obtain ⟨_, _, hA, _, c3⟩ := HC.out.get (i := 3) rfl
          cases hA
          simp only [Nat.add_zero] at c0
          by_cases e0 : x0 = 80
          · have b0 := eqT e0
            by_cases e1 : x1 = 75
            · have b1 := eqT e1
              by_cases e2 : x2 = 3
              · have b2 := eqT e2
                by_cases e3 : x3 = 4
                · have b3 := eqT e3
                  have hf : Hid (zp (x0 :: x1 :: x2 :: x3 :: l) = true) := by show _ = _; simp [zp, b0, b1, b2, b3]
                  clear e0 e1 e2 e3
                  go_wp2
                  go_meet
                  case rel => exact ⟨Lib.hid (by rw [hf.out]), rfl⟩
                · have b3 := eqF e3
                  have hf : Hid (zp (x0 :: x1 :: x2 :: x3 :: l) = false) := by show _ = _; simp [zp, b3]
                  clear e0 e1 e2 e3
                  go_wp2
                  go_meet
                  case rel => exact ⟨Lib.hid (by rw [hf.out]), rfl⟩
              · have b2 := eqF e2
                have hf : Hid (zp (x0 :: x1 :: x2 :: x3 :: l) = false) := by show _ = _; simp [zp, b2]
                clear e0 e1 e2
                go_wp2
                go_meet
                case rel => exact ⟨Lib.hid (by rw [hf.out]), rfl⟩
            · have b1 := eqF e1
              have hf : Hid (zp (x0 :: x1 :: x2 :: x3 :: l) = false) := by show _ = _; simp [zp, b1]
              clear e0 e1
              go_wp2
              go_meet
              case rel => exact ⟨Lib.hid (by rw [hf.out]), rfl⟩
          · have b0 := eqF e0
            have hf : Hid (zp (x0 :: x1 :: x2 :: x3 :: l) = false) := by show _ = _; simp [zp, b0]
            clear e0
            go_wp2
            go_meet
            case rel => exact ⟨Lib.hid (by rw [hf.out]), rfl⟩
      case rest =>
        obtain ⟨HV, rfl⟩ := hcut
        cases hz : zp l with
        | true =>
          obtain rfl := HV.out.trans (congrArg Value.bool hz)
          have hk : kind l = 9 := by simp [kind, HG.out, hz]
          have HK := Lib.hid hk
          clear hk hz HV
          go_wp2
          go_ret
          exact ⟨by rw [HK.out]; rfl, rfl⟩
        | false =>
          obtain rfl := HV.out.trans (congrArg Value.bool hz)
          have HZ := Lib.hid hz
          clear hz HV
          by_cases h6 : 262 ≤ n
          · have h6b : (262 : Int) ≤ (n : Int) := by omega
            have hcc : (262 : Int) ≤ (c : Int) := by omega
            obtain ⟨b, off, rfl, hb⟩ := HC.out.addr (by rw [u8s_length, HL.out]; omega)
            have hcv : ∀ c', (convert 22 9 (.slice (some ⟨b, off + 257, none⟩) 5 c')).run Try.prog w = .ok (.string (strOfNums ((l.drop 257).take 5))) w := fun c' =>
              run_string (P := Try.prog) _ _ _ Try.underlying22 Try.underlying5 Try.underlying9 (l := (l.drop 257).take 5) (by
                have := (RV.drop HC.out 257).take 5
                simpa [RB, u8s] using this) (by have := HL.out; simp; omega)
            by_cases hu : (strOfNums ((l.drop 257).take 5)).toList = [117, 115, 116, 97, 114]
            · have hu1 : ((strOfNums ((l.drop 257).take 5)).toList == [117, 115, 116, 97, 114]) = true := beq_iff_eq.2 hu
              have hk : kind l = 8 := by
                have := HL.out
                simp only [kind, HG.out, HZ.out, ut, hu1, decT (show 262 ≤ l.length by omega)]
                rfl
              have HK := Lib.hid hk
              clear hk hu
              go_wp2
              go_ret
              exact ⟨by rw [HK.out]; rfl, rfl⟩
            · have hu1 : ((strOfNums ((l.drop 257).take 5)).toList == [117, 115, 116, 97, 114]) = false := beq_eq_false_iff_ne.2 hu
              have hk : kind l = 1 := by
                simp only [kind, HG.out, HZ.out, ut, hu1, Bool.and_false]
                rfl
              have HK := Lib.hid hk
              clear hk hu
              go_wp2
              go_ret
              exact ⟨by rw [HK.out]; rfl, rfl⟩
          · have h6b : ¬ (262 : Int) ≤ (n : Int) := by omega
            have hk : kind l = 1 := by
              have := HL.out
              simp only [kind, HG.out, HZ.out, ut, decF (show ¬ 262 ≤ l.length by omega)]
              rfl
            have HK := Lib.hid hk
            clear hk
            go_wp2
            go_ret
            exact ⟨by rw [HK.out]; rfl, rfl⟩
end Go.Proofs.Ytbmnedgoonaneaa.Sn
