/- The walker of gzip files in memory; tell, begin, want, number. -/
import Derived.Test.YtjjcemdoefigkaaDoorGa
import Derived.Test.YtjjcemdoefigkaaDoorGe
import Derived.Test.YtjjcemdoefigkaaDoorUs
import Derived.Test.YtjjcemdoefigkaaDoorOwn
import Derived.RegionTactic
import Derived.Deep.AppendLies
import Derived.Deep.RegionLaw
namespace Go.Proofs.YtjjcemdoefigkaaDoor.Hf
set_option linter.unusedVariables false
set_option linter.unusedSimpArgs false
open Go.RowKit Go.Proofs.YtjjcemdoefigkaaDoor.W

/-- Where a walker lies: its struct, its name's row, its inflater's blocks. -/
structure Ad where
  b : Nat
  nb : Nat
  d : Nat
  r : Nat
  p : Nat
  q : Nat
  g : Nat
def Ad.inf (a : Ad) : List Nat := [a.d, a.r, a.p, a.q, a.g]
def Ad.all (a : Ad) : List Nat := [a.b, a.nb, a.d, a.r, a.p, a.q, a.g]
def gpF : Gp → Nat
  | .first => 13
  | .nought => 23
  | .fixed => 22
  | .exLen => 33
  | .exBytes => 39
  | .nameB => 38
  | .comB => 49
  | .hSum => 60
  | .defl => 68
  | .sums => 20
  | .sizes => 26
def Ad.ptr (a : Ad) : Value := .pointer (some ⟨a.b, 0, none⟩)
def gpV (a : Ad) (p : Gp) : Value := .func (Fn.func (gpF p)) #[.pointer (some ⟨a.b, 0, none⟩)] #[]
def evL (e : Ev) : List Value := [.int .i64 (e.kd : Nat), .int .u8 e.by_, .int .i64 (e.nd : Nat), .int .i64 0, .string (strOfNums e.tx)]
def evV (e : Ev) : Value := .agg #[.int .i64 (e.kd : Nat), .int .u8 e.by_, .int .i64 (e.nd : Nat), .int .i64 0, .string (strOfNums e.tx)]
def Z.cells (z : Z) (a : Ad) (st : Value) : List Value := [st, .pointer (some ⟨a.d, 0, none⟩), .int .i64 (z.ev.kd : Nat), .int .u8 z.ev.by_, .int .i64 (z.ev.nd : Nat), .int .i64 0, .string (strOfNums z.ev.tx), .bool z.has, .bool z.ended, .int .i64 (z.why : Nat), .bool z.data, .bool z.between, .int .u8 (z.fl : Nat), .int .i64 (z.n : Nat), .int .i64 (z.cnt : Nat), .int .u32 (z.head : Nat), .int .u32 (crcL z.ol : Nat), .int .u32 (z.ol.length % 4294967296 : Nat), .int .u32 (z.val : Nat), .slice (some ⟨a.nb, 0, none⟩) z.nm.length 256]
structure GMv (w : World) (a : Ad) (st : Value) (z : Z) : Prop where
  cells : w.heap[a.b]? = some (.cells (z.cells a st).toArray 36 (0, 0))
  name : w.ownsRow 0 5 1 (.slice (some ⟨a.nb, 0, none⟩) z.nm.length 256) z.nm.length (u8s z.nm)
  inf : z.data = true → ∃ t mp rdy o, Sx w a.d a.r a.p a.q a.g z.l t mp rdy o z.ol
  raw : ∃ m out bs rdy o, Inf w a.d a.r a.p a.q a.g m out bs rdy o ∧ Ok m out
  ne : a.all.Nodup
def GM (w : World) (a : Ad) (z : Z) : Prop := GMv w a (gpV a z.ph) z
/-- What leaves the inflater's tables as they are. -/
def Tn (w : World) (T : List Nat) : Prop := ∀ k ∈ T, ∃ cs ty f, w.heap[k]? = some (.cells cs ty f) ∧ ty ≠ 82
theorem Tb.row2 {w w2 : World} {S T : List Nat} {tt : Nat} {lens : List Nat} (h : Tb w S tt lens) (hk : Kp T w w2) (hT : Tn w T) : Tb w2 S tt lens := by
  obtain ⟨b, h1, h2, h3⟩ := h.mp
  obtain ⟨cs, hty⟩ := h.ty
  have ht : tt ∉ T := fun h4 => by
    obtain ⟨cs', ty, f, h5, h6⟩ := hT tt h4
    rw [hty] at h5
    injection h5 with h5
    injection h5 with h5 h7
    exact h6 h7.symm
  have hb : b ∉ T := fun h4 => by
    obtain ⟨cs', ty, f, h5, _⟩ := hT b h4
    obtain ⟨es, ck, h6, _⟩ := h2
    rw [h6] at h5
    cases h5
  exact ⟨h.nums.kept hk ht, h.out, ⟨b, (World.cell?_of_block (a := ⟨tt, 1, none⟩) (hk.block tt h.nums.lt ht)).trans h1, h2.kept hk hb, h3⟩, ⟨cs, (hk.block tt h.nums.lt ht).trans hty⟩⟩
theorem Inf.row2 {w w2 : World} {d r p q g : Nat} {rdy : Bool} {o : Int} {T : List Nat} {m : M} {out : List Int} {bs : List Bool} (h : Inf w d r p q g m out bs rdy o) (hk : Kp T w w2) (hT : Tn w T) (hD : ∀ k ∈ [d, r, p, q, g], k ∉ T) : Inf w2 d r p q g m out bs rdy o := by
  obtain ⟨l, e, c, hd, hT2⟩ := h.db
  obtain ⟨b0, hr, hb⟩ := h.rd
  refine ⟨⟨l, e, c, hd.kept hk (hD d (by simp)), ⟨fun hu => ?_, fun hu => ?_, fun hu => ?_⟩⟩, ⟨b0, hr.kept hk (hD r (by simp)), hb⟩, h.rg.kept hk (hD p (by simp)) (hD q (by simp)), own_kp h.row hk (hD g (by simp)), h.ne⟩
  · obtain ⟨t, h1, h2⟩ := hT2.l hu; exact ⟨t, h1, h2.row2 hk hT⟩
  · obtain ⟨t, h1, h2⟩ := hT2.e hu; exact ⟨t, h1, h2.row2 hk hT⟩
  · obtain ⟨t, h1, h2⟩ := hT2.c hu; exact ⟨t, h1, h2.row2 hk hT⟩
theorem Sx.keep2 {wx w' : World} {d r p q g : Nat} {l' : List Int} {t : St} {mp : M} {rdy : Bool} {o : Int} {ol : List Int} {T : List Nat} (h : Sx wx d r p q g l' t mp rdy o ol) (hk : Kp T wx w') (hT : Tn wx T) (hD : ∀ k ∈ [d, r, p, q, g], k ∉ T) : Sx w' d r p q g l' t mp rdy o ol :=
  ⟨h.pn, by obtain ⟨b0, h1, h2⟩ := h.inf; exact ⟨b0, h1.row2 hk hT hD, h2⟩, h.ok⟩
theorem news_at {w : World} {H : Nat} (hH : w.heap.size = H) (cs : Array Value) (t : TypeId) : ∀ j u, cs.toList[j]? = some u → (w.alloc (.cells cs t)).cell? ((⟨H, 0, none⟩ : Addr).add j) = some u := by subst hH; exact news_block w cs t
theorem setZ {w : World} {b : Nat} {t : TypeId} {l : List Value} (h : w.heap[b]? = some (.cells l.toArray t (0, 0))) (i : Nat) (u : Value) : (w.setCell ⟨b, i, none⟩ u).heap[b]? = some (.cells (l.set i u).toArray t (0, 0)) :=
  (heap_set h i u).trans (by rw [List.setIfInBounds_toArray])
section
variable {w w' : World} {a : Ad} {st st' : Value} {z z' : Z}
theorem Ad.sep (h : a.all.Nodup) : a.b ≠ a.nb ∧ (∀ k ∈ a.inf, k ≠ a.b ∧ k ≠ a.nb) := by
  unfold Ad.all at h
  simp only [List.nodup_cons, List.mem_cons, List.not_mem_nil, or_false, not_or] at h
  obtain ⟨⟨h0, h1, h2, h3, h4, h5⟩, ⟨g1, g2, g3, g4, g5⟩, _⟩ := h
  refine ⟨h0, fun k hk => ?_⟩
  unfold Ad.inf at hk
  simp only [List.mem_cons, List.not_mem_nil, or_false] at hk
  rcases hk with rfl | rfl | rfl | rfl | rfl
  · exact ⟨fun e => h1 e.symm, fun e => g1 e.symm⟩
  · exact ⟨fun e => h2 e.symm, fun e => g2 e.symm⟩
  · exact ⟨fun e => h3 e.symm, fun e => g3 e.symm⟩
  · exact ⟨fun e => h4 e.symm, fun e => g4 e.symm⟩
  · exact ⟨fun e => h5 e.symm, fun e => g5 e.symm⟩
theorem GMv.lt (h : GMv w a st z) : a.b < w.heap.size := (Array.getElem?_eq_some_iff.1 h.cells).1
theorem GMv.fz (h : GMv w a st z) : ∀ i, w.frozen? ⟨a.b, i, none⟩ = false := fun i => frozen_of_row w a.b i _ _ h.cells
theorem GMv.cs (h : GMv w a st z) {i : Nat} {v : Value} (hv : (z.cells a st)[i]? = some v) : w.cell? ⟨a.b, i, none⟩ = some v := by
  rw [cell_of_row w a.b i _ _ _ h.cells, List.getElem?_toArray]
  exact hv
theorem GMv.tn (h : GMv w a st z) : Tn w [a.b] := fun k hk => by
  rw [List.mem_singleton.1 hk]
  exact ⟨_, _, _, h.cells, by decide⟩
theorem GMv.tn2 (h : GMv w a st z) : Tn w [a.b, a.nb] := fun k hk => by
  simp only [List.mem_cons, List.not_mem_nil, or_false] at hk
  rcases hk with rfl | rfl
  · exact ⟨_, _, _, h.cells, by decide⟩
  · rcases h.name.2 with ⟨h2, _⟩ | ⟨g, cap, cur, hv, _, hg, _⟩
    · cases h2
    · injection hv with hv _ _
      injection hv with hv
      injection hv with hv
      subst hv
      exact ⟨_, _, _, hg, by decide⟩
theorem GMv.lts (h : GMv w a st z) : ∀ k ∈ a.all, k < w.heap.size := by
  obtain ⟨m, out, bs, rdy, o, hi, _⟩ := h.raw
  have h1 := hi.lts
  have h2 := h.lt
  have h3 := own_lt h.name
  intro k hk
  unfold Ad.all at hk
  rcases List.mem_cons.1 hk with rfl | hk
  · exact h2
  · rcases List.mem_cons.1 hk with rfl | hk
    · exact h3
    · exact h1 k hk
theorem GMv.kept {T : List Nat} (h : GMv w a st z) (hk : Kp T w w') (hT : Tn w T) (hD : ∀ k ∈ a.all, k ∉ T) : GMv w' a st z := by
  have hi : ∀ k ∈ [a.d, a.r, a.p, a.q, a.g], k ∉ T := fun k hm => hD k (by unfold Ad.all; exact List.mem_cons_of_mem _ (List.mem_cons_of_mem _ hm))
  refine ⟨(hk.block a.b h.lt (hD _ (by simp [Ad.all]))).trans h.cells, own_kp h.name hk (hD _ (by simp [Ad.all])), fun hd => ?_, ?_, h.ne⟩
  · obtain ⟨t, mp, rdy, o, hs⟩ := h.inf hd
    exact ⟨t, mp, rdy, o, hs.keep2 hk hT hi⟩
  · obtain ⟨m, out, bs, rdy, o, hr, hok⟩ := h.raw
    exact ⟨m, out, bs, rdy, o, hr.row2 hk hT hi, hok⟩
theorem GMv.keep (h : GMv w a st z) (hk : Kp [] w w') : GMv w' a st z := h.kept hk (fun k hk => by cases hk) (fun k _ hk => by cases hk)
/-- The struct's cells have turned. -/
theorem GMv.upd (h : GMv w a st z) (hc : w'.heap[a.b]? = some (.cells (z'.cells a st').toArray 36 (0, 0))) (hk : Kp [a.b] w w') (hn : z'.nm = z.nm ∨ z'.nm = []) (hd : z'.data = true → z.data = true ∧ z'.l = z.l ∧ z'.ol = z.ol) : GMv w' a st' z' := by
  have hs := Ad.sep h.ne
  have hi : ∀ k ∈ [a.d, a.r, a.p, a.q, a.g], k ∉ [a.b] := fun k hm h2 => (hs.2 k hm).1 (List.mem_singleton.1 h2)
  refine ⟨hc, ?_, fun h2 => ?_, ?_, h.ne⟩
  · have hrow := own_kp h.name hk (fun h2 => hs.1 (List.mem_singleton.1 h2).symm)
    rcases hn with e | e
    · rw [e]; exact hrow
    · rw [e]; exact own_zero hrow
  · obtain ⟨h3, e1, e2⟩ := hd h2
    obtain ⟨t, mp, rdy, o, hsx⟩ := h.inf h3
    rw [e1, e2]
    exact ⟨t, mp, rdy, o, hsx.keep2 hk h.tn hi⟩
  · obtain ⟨m, out, bs, rdy, o, hr, hok⟩ := h.raw
    exact ⟨m, out, bs, rdy, o, hr.row2 hk h.tn hi, hok⟩
def GMP (w : World) (a : Ad) (st : Value) (z : Z) (e : Ending) (w' : World) : Prop := e = .returned (.tuple #[]) ∧ GMv w' a st z ∧ Kp [a.b] w w'
theorem u256 (h : GMv w a st z) : z.nm.length ≤ 256 := (own_cap h.name).1
theorem kpb (h : a.b ∈ ([a.b] : List Nat)) (i : Nat) (u : Value) : Kp [a.b] w (w.setCell ⟨a.b, i, none⟩ u) := (Kp.refl _ _).setCell (.inl h) u
set_option maxHeartbeats 2000000 in
set_option maxRecDepth 100000 in
theorem g_tell (e : Ev) (h : GMv w a st z) : Calls Tryd.prog 16 #[.pointer (some ⟨a.b, 0, none⟩), evV e] w (GMP w a st (z.tell e)) := by
  have c2 := h.cs (i := 2) rfl
  have c3 := h.cs (i := 3) rfl
  have c4 := h.cs (i := 4) rfl
  have c5 := h.cs (i := 5) rfl
  have c6 := h.cs (i := 6) rfl
  have c7 := h.cs (i := 7) rfl
  have fz := h.fz
  have hlt := h.lt
  have hk : Kp [a.b] w ((((((w.setCell ⟨a.b, 2, none⟩ (.int .i64 (e.kd : Nat))).setCell ⟨a.b, 3, none⟩ (.int .u8 e.by_)).setCell ⟨a.b, 4, none⟩ (.int .i64 (e.nd : Nat))).setCell ⟨a.b, 5, none⟩ (.int .i64 0)).setCell ⟨a.b, 6, none⟩ (.string (strOfNums e.tx))).setCell ⟨a.b, 7, none⟩ (.bool true)) :=
    (((((kpb (by simp) _ _).trans (kpb (by simp) _ _)).trans (kpb (by simp) _ _)).trans (kpb (by simp) _ _)).trans (kpb (by simp) _ _)).trans (kpb (by simp) _ _)
  have hU := h.upd (z' := z.tell e) (st' := st) (setZ (setZ (setZ (setZ (setZ (setZ h.cells 2 (.int .i64 (e.kd : Nat))) 3 (.int .u8 e.by_)) 4 (.int .i64 (e.nd : Nat))) 5 (.int .i64 0)) 6 (.string (strOfNums e.tx))) 7 (.bool true)) hk (.inl rfl) (fun h => ⟨h, rfl, rfl⟩)
  have HU := Lib.hid hU
  have HK := Lib.hid hk
  unfold evV
  clear h hk hU
  go_enter Tryd.func16, Tryd.ntmps16
  go_wp2
  refine bodyPost_end (results_none rfl _ _ _) rfl ?_
  exact ⟨rfl, HU.out.keep ((Kp.refl _ _).alloc _), HK.out.alloc _⟩
set_option maxHeartbeats 2000000 in
set_option maxRecDepth 100000 in
theorem g_begin (h : GMv w a st z) : Calls Tryd.prog 10 #[.pointer (some ⟨a.b, 0, none⟩)] w (GMP w a (gpV a .first) z.begin) := by
  have c0 := h.cs (i := 0) rfl
  have c10 := h.cs (i := 10) rfl
  have c11 := h.cs (i := 11) rfl
  have c13 := h.cs (i := 13) rfl
  have c15 := h.cs (i := 15) rfl
  have c19 := h.cs (i := 19) rfl
  have fz := h.fz
  have hlt := h.lt
  have h256 := u256 h
  have hst := store_fn (fn := gpF .first) (v := .pointer (some ⟨a.b, 0, none⟩)) c0 (fz 0)
  rw [show gpF .first = 13 from rfl] at hst
  have hk : Kp [a.b] w ((((((w.setCell ⟨a.b, 0, none⟩ (gpV a .first)).setCell ⟨a.b, 13, none⟩ (.int .i64 0)).setCell ⟨a.b, 15, none⟩ (.int .u32 0)).setCell ⟨a.b, 10, none⟩ (.bool false)).setCell ⟨a.b, 11, none⟩ (.bool true)).setCell ⟨a.b, 19, none⟩ (.slice (some ⟨a.nb, 0, none⟩) 0 256)) :=
    (((((kpb (by simp) _ _).trans (kpb (by simp) _ _)).trans (kpb (by simp) _ _)).trans (kpb (by simp) _ _)).trans (kpb (by simp) _ _)).trans (kpb (by simp) _ _)
  have hU := h.upd (z' := z.begin) (st' := gpV a .first) (setZ (setZ (setZ (setZ (setZ (setZ h.cells 0 (gpV a .first)) 13 (.int .i64 0)) 15 (.int .u32 0)) 10 (.bool false)) 11 (.bool true)) 19 (.slice (some ⟨a.nb, 0, none⟩) 0 256)) hk (.inr rfl) (fun h => by cases h)
  have HU := Lib.hid hU
  have HK := Lib.hid hk
  clear h hk hU
  generalize z.nm.length = N at *
  go_enter Tryd.func10, Tryd.ntmps10
  go_wp2
  refine bodyPost_end (results_none rfl _ _ _) rfl ?_
  exact ⟨rfl, HU.out, HK.out⟩
set_option maxHeartbeats 2000000 in
set_option maxRecDepth 100000 in
theorem g_want (p : Gp) (h : GMv w a st z) (hd : z.data = false) : Calls Tryd.prog 19 #[.pointer (some ⟨a.b, 0, none⟩), .func (Fn.func (gpF p)) #[.pointer (some ⟨a.b, 0, none⟩)] #[]] w (GMP w a (gpV a p) (z.want p)) := by
  have c0 := h.cs (i := 0) rfl
  have c13 := h.cs (i := 13) rfl
  have c18 := h.cs (i := 18) rfl
  have fz := h.fz
  have hlt := h.lt
  have hst := store_fn (fn := gpF p) (v := .pointer (some ⟨a.b, 0, none⟩)) c0 (fz 0)
  have hk : Kp [a.b] w (((w.setCell ⟨a.b, 0, none⟩ (gpV a p)).setCell ⟨a.b, 13, none⟩ (.int .i64 0)).setCell ⟨a.b, 18, none⟩ (.int .u32 0)) :=
    ((kpb (by simp) _ _).trans (kpb (by simp) _ _)).trans (kpb (by simp) _ _)
  have hU := h.upd (z' := z.want p) (st' := gpV a p) (setZ (setZ (setZ h.cells 0 (gpV a p)) 13 (.int .i64 0)) 18 (.int .u32 0)) hk (.inl rfl) (fun h2 => by rw [show (z.want p).data = z.data from rfl, hd] at h2; cases h2)
  have HU := Lib.hid hU
  have HK := Lib.hid hk
  clear h hk hU
  unfold gpV at HU HK ⊢
  generalize gpF p = f at *
  go_enter Tryd.func19, Tryd.ntmps19
  go_wp2
  refine bodyPost_end (results_none rfl _ _ _) rfl ?_
  exact ⟨rfl, HU.out, HK.out⟩
end
end Go.Proofs.YtjjcemdoefigkaaDoor.Hf
