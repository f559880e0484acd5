/- The splitter's methods delimits and End. -/
import Derived.Test.YtmalacamfjdimaaPq
import Derived.Test.YtmalacamfjdimaaShelf
namespace Go.Proofs.Ytmalacamfjdimaa.Pt
open Go.RowKit Go.Proofs.Ytmalacamfjdimaa.W

def TrimPost (w : World) (l' : List Int) (b : Nat) (e : Ending) (w' : World) : Prop := w' = w ∧ ∃ o c, e = .returned (.slice (some ⟨b, o, none⟩) l'.length c) ∧ RV w (some ⟨b, o, none⟩) (u8s l') ∧ l'.length ≤ c
theorem byte_one {x v : Int} (h : 0 ≤ x ∧ x < 256) (hv : 0 ≤ v ∧ v < 256) : UInt8.ofNat v.toNat = UInt8.ofNat x.toNat ↔ v = x := by
  constructor
  · intro e
    have := congrArg UInt8.toNat e
    simp at this
    omega
  · rintro rfl; rfl
theorem c_trim (b o c b2 : Nat) (l : List Int) (v : Int) (w : World) (hc : l.length ≤ c) (hl : Bytes l) (hv : 0 ≤ v ∧ v < 256) (h : RV w (some ⟨b, o, none⟩) (u8s l)) (h2 : RV w (some ⟨b2, 0, none⟩) (u8s [v])) :
    Calls Try.prog 43 #[.slice (some ⟨b, o, none⟩) l.length c, .slice (some ⟨b2, 0, none⟩) 1 1] w (TrimPost w (trim1 l v) b) := by
  have get : ∀ (b o : Nat) (l : List Int), RV w (some ⟨b, o, none⟩) (u8s l) → ∀ i, i < l.length → w.cell? ⟨b, o + i, none⟩ = some (.int .u8 (l.getD i 0)) := fun b o l h i hi => by
    obtain ⟨b', o', hA, _, hcell⟩ := RB.get h (List.getElem?_eq_getElem hi)
    injection hA with hA
    injection hA with h1 h2
    subst h1 h2
    rw [hcell]
    simp [List.getD, List.getElem?_eq_getElem hi]
  refine (Try.bytes_TrimPrefix b o l.length c b2 0 1 1 l [v] w rfl rfl hc (get b o l h) (get b2 0 [v] h2)).mono ?_
  rintro e w' ⟨rfl, rfl⟩
  refine ⟨rfl, ?_⟩
  unfold Lib.bytesTrimPrefix trim1
  cases l with
  | nil => exact ⟨o, c, by simp [Lib.hasPrefix, Lib.bytesOf], h, by simp⟩
  | cons x l =>
    have hx := hl x (by simp)
    by_cases hxv : x = v
    · subst hxv
      have h3 := RV.drop h 1
      have hd : (u8s (x :: l)).drop 1 = u8s l := rfl
      rw [hd] at h3
      have hlc : l.length + 1 ≤ c := hc
      by_cases hc1 : c = 1
      · subst hc1
        have : l = [] := List.eq_nil_of_length_eq_zero (by omega)
        subst this
        exact ⟨o, 0, by simp [Lib.hasPrefix, Lib.bytesOf, Lib.sliceFrom], by simpa [u8s] using RV.nil _ _, by simp⟩
      · exact ⟨o + 1, c - 1, by simp [Lib.hasPrefix, Lib.bytesOf, Lib.sliceFrom, hc1], by simpa using h3, by simp; omega⟩
    · have hne : ¬ (UInt8.ofNat v.toNat = UInt8.ofNat x.toNat) := fun e => hxv ((byte_one hx hv).1 e).symm
      exact ⟨o, c, by simp [Lib.hasPrefix, Lib.bytesOf, hne, hxv], by simpa [hxv] using h, by simpa [hxv] using hc⟩

def blk8 (l : List UInt8) : Bool := l.all fun b => b == 9 || b == 32

set_option maxHeartbeats 1000000 in
set_option maxRecDepth 100000 in
theorem c_blk (s : ByteArray) (w : World) (hs : s.size ≤ 9223372036854775807) :
    Calls Try.prog 46 #[.string s] w fun e w' => e = .returned (.bool (blk8 s.data.toList)) ∧ w = w' := by
  have hsz : s.data.toList.length = s.size := by rw [Array.length_toList]; rfl
  have HSZ := Lib.hid hsz
  clear hsz
  go_enter Try.func46, Try.ntmps46
  go_wp2
  go_loopg [6] s.size (fun g s6 wx => ∃ k : Nat, k + g = s.size ∧ s6 = .int .i64 k ∧ Hid (blk8 s.data.toList = blk8 (s.data.toList.drop k)) ∧ w = wx)
  case atStart => exact ⟨0, by omega, rfl, rfl, rfl⟩
  case round =>
    obtain ⟨k, hkg, rfl, HB, rfl⟩ := hrel
    cases gk with
    | zero =>
      have hk : ¬ (k : Int) < (s.size : Int) := by omega
      have hb : blk8 s.data.toList = true := by rw [HB.out, List.drop_eq_nil_of_le (by rw [HSZ.out]; omega)]; rfl
      have HB2 := Lib.hid hb
      clear hb HB
      go_wp2
      go_ret
      exact ⟨by rw [HB2.out]; rfl, rfl⟩
    | succ g =>
      have hk : (k : Int) < (s.size : Int) := by omega
      have hkn : k < s.size := by omega
      have hd : s.data.toList.drop k = s[k] :: s.data.toList.drop (k + 1) := by rw [List.drop_eq_getElem_cons (by rw [HSZ.out]; exact hkn)]; rfl
      have HD := Lib.hid hd
      clear hd
      obtain ⟨x, hx⟩ : ∃ x : UInt8, s[k] = x := ⟨_, rfl⟩
      by_cases h9 : x = 9
      · have e9 : (((s[k]).toNat : Int) != 9) = false := by rw [hx, h9]; rfl
        have hb : blk8 s.data.toList = blk8 (s.data.toList.drop (k + 1)) := by rw [HB.out, HD.out, hx, h9]; simp [blk8]
        clear hx h9 HB HD
        go_wp2
        go_roundg g
        case measure => omega
        case rel => exact ⟨k + 1, by omega, by go_num, hb, rfl⟩
      · have n9 : ((s[k]).toNat : Int) ≠ 9 := fun e => h9 (by rw [← hx]; exact UInt8.toNat_inj.1 (by show _ = 9; omega))
        have e9 := neT n9
        by_cases h32 : x = 32
        · have e32 : (((s[k]).toNat : Int) != 32) = false := by rw [hx, h32]; rfl
          have hb : blk8 s.data.toList = blk8 (s.data.toList.drop (k + 1)) := by rw [HB.out, HD.out, hx, h32]; simp [blk8]
          clear hx h9 h32 n9 HB HD
          go_wp2
          go_roundg g
          case measure => omega
          case rel => exact ⟨k + 1, by omega, by go_num, hb, rfl⟩
        · have n32 : ((s[k]).toNat : Int) ≠ 32 := fun e => h32 (by rw [← hx]; exact UInt8.toNat_inj.1 (by show _ = 32; omega))
          have e32 := neT n32
          have hb : blk8 s.data.toList = false := by rw [HB.out, HD.out, hx]; simp [blk8, h9, h32]
          have HB2 := Lib.hid hb
          clear hx h9 h32 n9 n32 HB HD hb
          go_wp2
          go_ret
          exact ⟨by rw [HB2.out]; rfl, rfl⟩
end Go.Proofs.Ytmalacamfjdimaa.Pt
