/- The walker over what is deflated, and what stands behind it (plain). -/
import Derived.Test.YtjjcemdoefigkaaDoorGc
namespace Go.Proofs.YtjjcemdoefigkaaDoor.Hf
set_option linter.unusedVariables false
set_option linter.unusedSimpArgs false
open Go.RowKit Go.Proofs.YtjjcemdoefigkaaDoor.W

theorem ts_lt {bs : List Bool} {s f : St} {n : Nat} (h : Path bs s f) (hn : 0 < n) (hb : bs.length ≤ 8 * n) (hp : s.pos ≤ bs.length) (hs : ∀ x ∈ s.ts, x < n) : ∀ x ∈ f.ts, x < n := by
  induction h with
  | refl => exact hs
  | @cons s t u h _ ih =>
    have h1 := next_pos hp h
    refine ih h1.2 fun x hx => ?_
    obtain ⟨_, r, _, rfl⟩ := next_some h
    rcases List.mem_append.1 hx with h2 | h2
    · exact hs x h2
    · rw [(List.mem_replicate.1 h2).2]
      have h3 : s.pos + r.2.2 ≤ bs.length := h1.2
      omega
theorem F_ts {l : List Int} {x : Int} {r : List Int} (h : (F (l ++ [x])).out = (F l).out ++ r) : (F (l ++ [x])).ts = (F l).ts ++ List.replicate r.length l.length := by
  have hm := F_more l x
  obtain ⟨tl, htl⟩ := hm.out.2
  have hl1 := (F_path l).len rfl
  have hl2 := (F_path (l ++ [x])).len rfl
  have hlen : tl.length = r.length := by
    have h1 := congrArg List.length htl
    have h2 := congrArg List.length h
    rw [List.length_append] at h1 h2
    omega
  rw [← htl]
  congr 1
  refine List.eq_replicate_iff.2 ⟨hlen, fun y hy => ?_⟩
  have hlt := ts_lt (n := (l ++ [x]).length) (F_path (l ++ [x])) (by simp) (by rw [bits8_length]; exact Nat.le_refl _) (Nat.zero_le _) (fun z hz => by cases hz) y (by rw [← htl]; exact List.mem_append_right _ hy)
  obtain ⟨k, hk⟩ := List.mem_iff_getElem?.1 hy
  have hlb := bits8_length (l ++ [x])
  have hll : (l ++ [x]).length = l.length + 1 := by simp
  have hge := ts_wait (bs := bits8 (l ++ [x])) (i := l.length) (F_pos l) (by omega) (by omega) (by rw [bits8_take, List.take_left]; exact F_none l) hm (k := (F l).ts.length + k) (x := y) (by omega) (by rw [← htl, List.getElem?_append_right (by omega), show (F l).ts.length + k - (F l).ts.length = k by omega]; exact hk)
  omega
/-- What is told of what was deflated. -/
def tmd (i : Nat) (ts : List Nat) (out : List Int) : List (Nat × Ev) := (ts.zip out).map fun p => (i + p.1, evByte p.2)
theorem tmd_append {i : Nat} {ts ts2 : List Nat} {out out2 : List Int} (h : ts.length = out.length) : tmd i (ts ++ ts2) (out ++ out2) = tmd i ts out ++ tmd i ts2 out2 := by
  unfold tmd
  rw [List.zip_append h, List.map_append]
theorem tmd_rep (i j : Nat) (r : List Int) : tmd i (List.replicate r.length j) r = r.map fun b => (i + j, evByte b) := by
  unfold tmd
  induction r with
  | nil => rfl
  | cons b r ih => rw [List.length_cons, List.replicate_succ, List.zip_cons_cons, List.map_cons, List.map_cons, ih]
/-- The walker while what is deflated comes. -/
noncomputable def oz (y : Z) (m : List Int) : Z := { y with data := true, ph := .defl, l := m, ol := (F m).out, ev := ev0, has := false }
theorem over_live {y : Z} {m : List Int} (h0 : y.why = 0) (hl : Live (F m).m) : Z.over (oz y m) = oz y m := by
  unfold Z.over
  rw [show (oz y m).l = m from rfl, if_neg (by rw [hl.2]; simp), hl.1]
  unfold oz
  dsimp only
  rw [h0]
section
variable {l : List Int} {i : Nat} {E0 : List (Nat × Ev)} {y : Z}
theorem open_at (h : AtY l i E0 y.open_) : zAt l i = oz y [] ∧ eAt l i = E0 ++ [(i - 1, evOpen y.nm)] := by
  obtain ⟨h1, h2⟩ := h
  have e : Zq y.open_ = (oz y [], [evOpen y.nm]) := by
    unfold Zq
    rw [if_pos (show y.open_.has = true from rfl)]
    unfold oz
    rw [F_nil]
    rfl
  rw [e] at h1 h2
  exact ⟨h1, h2⟩
theorem d_run (hb : Bytes l) (h0 : y.why = 0) (hz : zAt l i = oz y []) (hi : i ≤ l.length) : ∀ j, i + j ≤ l.length → (∀ k, k < j → Live (F ((l.drop i).take k)).m) →
    zAt l (i + j) = Z.over (oz y ((l.drop i).take j)) ∧ eAt l (i + j) = eAt l i ++ tmd i (F ((l.drop i).take j)).ts (F ((l.drop i).take j)).out := by
  intro j
  induction j with
  | zero =>
    intro _ _
    have e : oz y [] = Z.over (oz y []) := (over_live h0 (by rw [F_nil]; exact ⟨rfl, rfl⟩)).symm
    refine ⟨hz.trans e, ?_⟩
    rw [List.take_zero, F_nil]
    show eAt l i = eAt l i ++ []
    rw [List.append_nil]
  | succ j ih =>
    intro hij hl
    obtain ⟨h1, h2⟩ := ih (by omega) (fun k hk => hl k (by omega))
    have hlv := hl j (by omega)
    rw [over_live h0 hlv] at h1
    have hx : l[i + j]? = some l[i + j] := List.getElem?_eq_getElem (by omega)
    obtain ⟨h3, h4⟩ := at_succ hx
    have hR := Rz.at_ hb (i + j)
    rw [h1] at h3 h4 hR
    obtain ⟨r, hr, hbz⟩ := bz_data (x := l[i + j]) hR h0 rfl
    have hm : (l.drop i).take (j + 1) = (l.drop i).take j ++ [l[i + j]] := sl_snoc hx
    have hml : ((l.drop i).take j).length = j := by rw [List.length_take, List.length_drop]; omega
    rw [hbz] at h3 h4
    have hr2 : (F ((l.drop i).take j ++ [l[i + j]])).out = (F ((l.drop i).take j)).out ++ r := hr
    have hts := F_ts hr2
    rw [hm]
    refine ⟨h3.trans ?_, ?_⟩
    · congr 1
      unfold oz
      dsimp only
      rw [hr2]
    · rw [hts, hr2, tmd_append ((F_path _).len rfl).symm, hml, tmd_rep, ← List.append_assoc, ← h2, ← Nat.add_assoc, h4, List.map_map]
      rfl
theorem F_tail {m : List Int} (h : ¬ Live (F m).m) : ∀ m2, F (m ++ m2) = F m := by
  intro m2
  refine rev_ind (P := fun m2 => F (m ++ m2) = F m) (by rw [List.append_nil]) (fun m2 x ih => ?_) m2
  rw [← List.append_assoc, F_dead (by rw [ih]; exact h), ih]
/-- Where it is over. -/
theorem d_all (m : List Int) : ∃ j, j ≤ m.length ∧ F (m.take j) = F m ∧ (∀ k, k < j → Live (F (m.take k)).m) ∧ (¬ Live (F m).m → j = ((F m).pos - 1) / 8 + 1 ∧ 0 < j) ∧ (Live (F m).m → j = m.length) := by
  have hpre : ∀ k, ¬ Live (F (m.take k)).m → F m = F (m.take k) := fun k hk => by
    have h1 := F_tail hk (m.drop k)
    rw [List.take_append_drop] at h1
    exact h1
  by_cases hl : Live (F m).m
  · exact ⟨m.length, Nat.le_refl _, by rw [List.take_length], fun k _ => Decidable.by_contra fun h => h (by rw [← hpre k h]; exact hl), fun h => absurd hl h, fun _ => rfl⟩
  · have hex : ∃ n, ∀ j, j ≤ n → True := ⟨0, fun _ _ => trivial⟩
    have key : ∀ n, n ≤ m.length → ¬ Live (F (m.take n)).m → ∃ j, j ≤ n ∧ ¬ Live (F (m.take j)).m ∧ ∀ k, k < j → Live (F (m.take k)).m := by
      intro n
      induction n with
      | zero => intro _ h; exact ⟨0, Nat.le_refl _, h, fun k hk => by omega⟩
      | succ n ih =>
        intro hn h
        by_cases hd : Live (F (m.take n)).m
        · refine ⟨n + 1, Nat.le_refl _, h, fun k hk => ?_⟩
          refine Decidable.by_contra fun h9 => ?_
          have h1 := F_tail h9 ((m.take n).drop k)
          rw [show m.take k = (m.take n).take k by rw [List.take_take, Nat.min_eq_left (by omega)], List.take_append_drop] at h1
          rw [show m.take k = (m.take n).take k by rw [List.take_take, Nat.min_eq_left (by omega)]] at h9
          rw [h1] at hd
          exact h9 hd
        · obtain ⟨j, h1, h2, h3⟩ := ih (by omega) hd
          exact ⟨j, by omega, h2, h3⟩
    obtain ⟨j, h1, h2, h3⟩ := key m.length (Nat.le_refl _) (by rw [List.take_length]; exact hl)
    have he := hpre j h2
    have hj0 : 0 < j := by
      rcases Nat.eq_zero_or_pos j with h | h
      · subst h
        rw [List.take_zero, F_nil] at h2
        exact absurd ⟨rfl, rfl⟩ h2
      · exact h
    refine ⟨j, h1, he.symm, h3, fun _ => ⟨?_, hj0⟩, fun h => absurd h hl⟩
    obtain ⟨k, rfl⟩ : ∃ k, j = k + 1 := ⟨j - 1, by omega⟩
    have hlk := h3 k (by omega)
    have hx : m[k]? = some m[k] := List.getElem?_eq_getElem (by omega)
    have hm : m.take (k + 1) = m.take k ++ [m[k]] := List.take_succ_eq_append_getElem (by omega)
    have hmo := F_more (m.take k) m[k]
    rw [← hm] at hmo
    have hml : (m.take k).length = k := by rw [List.length_take]; omega
    have hp1 := F_pos (m.take k)
    have hp2 := F_pos (m.take (k + 1))
    have hml2 : (m.take (k + 1)).length = k + 1 := by rw [List.length_take]; omega
    have hlb := bits8_length (m.take (k + 1))
    have hb := wait_beyond (q := 8 * k) (by omega) (by omega) (by omega) (by rw [bits8_take, List.take_take, Nat.min_eq_left (by omega)]; exact F_none _) hmo (fun h => h2 (by rw [h]; exact hlk))
    rw [he]
    omega
/-- The walker where what was deflated ended. -/
def sz (y : Z) (m out : List Int) : Z := { y with data := false, l := m, ol := out, ev := ev0, has := false }
theorem over_fin {m : List Int} (hf : (F m).m.fin = true) (h0 : (F m).m.why = 0) (hy : y.why = 0) : Z.over (oz y m) = (sz y m (F m).out).want .sums := by
  unfold Z.over
  rw [show (oz y m).l = m from rfl, if_pos hf, h0]
  unfold oz sz Z.want
  dsimp only
  rw [hy]
theorem over_dead {m : List Int} (hf : (F m).m.fin = false) : (Z.over (oz y m)).why = (F m).m.why := by
  unfold Z.over
  rw [show (oz y m).l = m from rfl, if_neg (by rw [hf]; simp)]
/-- What was deflated, over. -/
theorem d_end (hb : Bytes l) (h0 : y.why = 0) (hbt : y.between = false) (hz : zAt l i = oz y []) (hi : i ≤ l.length) {N : Nat} {out : List Int} {ts : List Nat} {a why : Nat} {e : Bool} (hR : Res st0 (bits8 (l.drop i)) N out ts a why e) (h62 : why ≠ 62) :
    (e = false → Stp l (eAt l i ++ tmd i ts out) why (min (i + a) l.length)) ∧
    (e = true → i + a + 1 ≤ l.length ∧ zAt l (i + a + 1) = (sz y ((l.drop i).take (a + 1)) out).want .sums ∧ eAt l (i + a + 1) = eAt l i ++ tmd i ts out) := by
  obtain ⟨j, j1, j2, j3, j4, j5⟩ := d_all (l.drop i)
  have hlen : (l.drop i).length = l.length - i := List.length_drop
  obtain ⟨h1, h2⟩ := d_run hb h0 hz hi j (by omega) j3
  rw [j2] at h2
  cases hR with
  | @dead t p hd hn =>
    have ht : t = F (l.drop i) := F_uniq p (dead_next hd)
    subst ht
    obtain ⟨j6, j7⟩ := j4 hd
    have hwy := (F_path (l.drop i)).wy wy0
    have hea : i + ((F (l.drop i)).pos - 1) / 8 + 1 = i + j := by omega
    constructor
    · intro hf
      have hw : (F (l.drop i)).m.why ≠ 0 := fun h => hd ⟨h, hf⟩
      have h3 := d_run hb h0 hz hi (j - 1) (by omega) (fun k hk => j3 k (by omega))
      refine .inl ⟨hw, by omega, ?_, ?_, ?_⟩
      · rw [show min (i + ((F (l.drop i)).pos - 1) / 8) l.length = i + (j - 1) by omega, h3.1, over_live h0 (j3 _ (by omega))]
        exact h0
      · rw [show min (i + ((F (l.drop i)).pos - 1) / 8) l.length + 1 = i + j by omega, h1, over_dead (by rw [j2]; exact hf), j2]
      · rw [show min (i + ((F (l.drop i)).pos - 1) / 8) l.length + 1 = i + j by omega]
        exact h2
    · intro hf
      refine ⟨by omega, ?_, by rw [hea]; exact h2⟩
      rw [hea, h1, over_fin (by rw [j2]; exact hf) (by rw [j2]; exact hwy.1 hf) h0, j2, ← j6]
  | @cut t p hl hx hn =>
    have ht : t = F (l.drop i) := F_uniq p hx
    subst ht
    have hj := j5 hl
    have hL : i + j = l.length := by omega
    rw [hL] at h1 h2
    rw [over_live h0 (by rw [j2]; exact hl)] at h1
    refine ⟨fun _ => ?_, fun h => by cases h⟩
    have e9 : min (i + (bits8 (l.drop i)).length / 8) l.length = l.length := by rw [bits8_length]; omega
    rw [e9]
    exact .cut h1 h0 hbt h2
  | much => exact absurd rfl h62
theorem e_mono (l : List Int) {i j : Nat} (h : i ≤ j) (hj : j ≤ l.length) : eAt l i <+: eAt l j := by
  have h1 := (at_add l i (j - i) (by omega)).2
  rw [show i + (j - i) = j by omega] at h1
  exact ⟨_, h1.symm⟩
/-- More than is asked for. -/
theorem d_much (hb : Bytes l) (h0 : y.why = 0) (hz : zAt l i = oz y []) (hi : i ≤ l.length) {N : Nat} {out : List Int} {ts : List Nat} {a why : Nat} {e : Bool} (hR : Res st0 (bits8 (l.drop i)) N out ts a why e) (h62 : why = 62) :
    out.length = N ∧ ∃ tm b tl, eAt l l.length = eAt l i ++ tmd i ts out ++ (tm, evByte b) :: tl := by
  obtain ⟨j, j1, j2, j3, j4, j5⟩ := d_all (l.drop i)
  have hlen : (l.drop i).length = l.length - i := List.length_drop
  obtain ⟨h1, h2⟩ := d_run hb h0 hz hi j (by omega) j3
  rw [j2] at h2
  have hwy := (F_path (l.drop i)).wy wy0
  cases hR with
  | @dead t p hd hn =>
    have ht : t = F (l.drop i) := F_uniq p (dead_next hd)
    subst ht
    exact absurd h62 hwy.2.2
  | cut p hl hx hn => cases h62
  | @much u t x p hx ho hn =>
    refine ⟨hn, ?_⟩
    have hpt : Path (bits8 (l.drop i)) t (F (l.drop i)) := (F_path (l.drop i)).final (F_none _) (p.snoc hx)
    obtain ⟨⟨o2, ho2⟩, ⟨t2, ht2⟩⟩ := hpt.out
    obtain ⟨_, r, hs, rfl⟩ := next_some hx
    have hr1 : r.2.1 = [x] := List.append_cancel_left ho
    have e2 : (u.add r).ts = u.ts ++ [(u.pos + r.2.2 - 1) / 8] := by
      show u.ts ++ List.replicate r.2.1.length ((u.pos + r.2.2 - 1) / 8) = _
      rw [hr1]
      rfl
    rw [ho] at ho2
    rw [e2] at ht2
    have hul := p.len rfl
    obtain ⟨tl, htl⟩ := e_mono l (show i + j ≤ l.length by omega) (Nat.le_refl _)
    rw [h2, ← ho2, ← ht2, List.append_assoc, List.append_assoc u.out, List.append_assoc u.ts, tmd_append hul.symm] at htl
    rw [← htl]
    refine ⟨i + (u.pos + r.2.2 - 1) / 8, x, tmd i t2 o2 ++ tl, ?_⟩
    simp [tmd]
/-! ### the sum and the size -/
theorem u_cut (hb : Bytes l) {m out : List Int} (h0 : y.why = 0) (hbt : y.between = false) (hz : zAt l i = (sz y m out).want .sums) (hi : i ≤ l.length) (hc : ¬ i + 4 ≤ l.length) : Stp l (eAt l i) 1 l.length :=
  w_cut (y := sz y m out) hb sums_no h0 rfl rfl hbt hz rfl hi hc
theorem u_bad (hb : Bytes l) {m out : List Int} (h0 : y.why = 0) (hz : zAt l i = (sz y m out).want .sums) (hi : i + 4 ≤ l.length) (hn : numL (sl l i 4) ≠ crcL out) : Stp l (eAt l i) 44 (i + 3) := by
  obtain ⟨h, h3⟩ := w_last (y := sz y m out) hb sums_no sums_yes (by omega) h0 rfl rfl hz rfl hi
  have e : Z.sums2 (wz (sz y m out) l i .sums 4) = Z.stop (wz (sz y m out) l i .sums 4) 44 := by
    unfold Z.sums2
    rw [if_neg (show ¬ (wz (sz y m out) l i .sums 4).val = crcL (wz (sz y m out) l i .sums 4).ol from hn)]
  rw [e] at h
  exact .at (by decide) (by omega) rfl h3 h rfl
theorem u_end (hb : Bytes l) {m out : List Int} (h0 : y.why = 0) (hz : zAt l i = (sz y m out).want .sums) (hi : i + 4 ≤ l.length) (hn : numL (sl l i 4) = crcL out) : ∃ y2 : Z, zAt l (i + 4) = Z.want y2 .sizes ∧ eAt l (i + 4) = eAt l i ∧ y2.why = 0 ∧ y2.data = false ∧ y2.has = false ∧ y2.between = y.between ∧ y2.ol = out := by
  obtain ⟨h, h3⟩ := w_last (y := sz y m out) hb sums_no sums_yes (by omega) h0 rfl rfl hz rfl hi
  have e : Z.sums2 (wz (sz y m out) l i .sums 4) = Z.want (wz (sz y m out) l i .sums 4) .sizes := by
    unfold Z.sums2
    rw [if_pos (show (wz (sz y m out) l i .sums 4).val = crcL (wz (sz y m out) l i .sums 4).ol from hn)]
  rw [e] at h
  obtain ⟨h4, h5⟩ := h.no rfl
  exact ⟨_, h4, h5, h0, rfl, rfl, rfl, rfl⟩
theorem v_cut (hb : Bytes l) (h0 : y.why = 0) (hd : y.data = false) (hh : y.has = false) (hbt : y.between = false) (hz : zAt l i = y.want .sizes) (hi : i ≤ l.length) (hc : ¬ i + 4 ≤ l.length) : Stp l (eAt l i) 1 l.length :=
  w_cut hb sizes_no h0 hd hh hbt hz rfl hi hc
theorem v_bad (hb : Bytes l) (h0 : y.why = 0) (hd : y.data = false) (hh : y.has = false) (hz : zAt l i = y.want .sizes) (hi : i + 4 ≤ l.length) (hn : numL (sl l i 4) ≠ y.ol.length % 4294967296) : Stp l (eAt l i) 45 (i + 3) := by
  obtain ⟨h, h3⟩ := w_last hb sizes_no sizes_yes (by omega) h0 hd hh hz rfl hi
  have e : Z.sizes2 (wz y l i .sizes 4) = Z.stop (wz y l i .sizes 4) 45 := by
    unfold Z.sizes2
    rw [if_neg (show ¬ (wz y l i .sizes 4).val = (wz y l i .sizes 4).ol.length % 4294967296 from hn)]
  rw [e] at h
  exact .at (by decide) (by omega) rfl h3 h hh
theorem v_end (hb : Bytes l) (h0 : y.why = 0) (hd : y.data = false) (hh : y.has = false) (hz : zAt l i = y.want .sizes) (hi : i + 4 ≤ l.length) (hn : numL (sl l i 4) = y.ol.length % 4294967296) : ∃ y2 : Z, zAt l (i + 4) = y2 ∧ Bg y2 ∧ y2.between = true ∧ eAt l (i + 4) = eAt l i ++ [(i + 3, evClose)] := by
  obtain ⟨h, h3⟩ := w_last hb sizes_no sizes_yes (by omega) h0 hd hh hz rfl hi
  have e : Z.sizes2 (wz y l i .sizes 4) = Z.begin (Z.tell (wz y l i .sizes 4) evClose) := by
    unfold Z.sizes2
    rw [if_pos (show (wz y l i .sizes 4).val = (wz y l i .sizes 4).ol.length % 4294967296 from hn)]
  rw [e] at h
  obtain ⟨h1, h2⟩ := h
  have e2 : Zq (Z.begin (Z.tell (wz y l i .sizes 4) evClose)) = ({ Z.begin (Z.tell (wz y l i .sizes 4) evClose) with ev := ev0, has := false }, [evClose]) := by
    unfold Zq
    rw [if_pos (show (Z.begin (Z.tell (wz y l i .sizes 4) evClose)).has = true from rfl)]
    rfl
  rw [e2] at h1 h2
  exact ⟨_, h1, ⟨rfl, h0, rfl, rfl, rfl⟩, rfl, h2⟩
end
end Go.Proofs.YtjjcemdoefigkaaDoor.Hf
