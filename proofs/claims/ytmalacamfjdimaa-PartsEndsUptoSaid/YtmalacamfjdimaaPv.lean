/- The splitter's methods that hold and tell: say, free, fresh, delimiter. -/
import Derived.Test.YtmalacamfjdimaaPw
namespace Go.Proofs.Ytmalacamfjdimaa.Pt
open Go.RowKit Go.Proofs.Ytmalacamfjdimaa.W

theorem u8_info : (Try.prog.info? 5).map (fun i => (i.zero, i.size, i.bytes)) = some (some (.int .u8 0), 1, 1) := by kernel_rfl
theorem ev_info : (Try.prog.info? 46).map (·.size) = some 5 := by kernel_rfl

theorem news_block (w : World) (cs : Array Value) (t : TypeId) : ∀ j u, cs.toList[j]? = some u → (w.alloc (.cells cs t)).cell? ((⟨w.heap.size, 0, none⟩ : Addr).add j) = some u := by
  intro j u hu
  obtain ⟨b, off, hA, _, hc⟩ := RV.new (w := w) cs t j u hu
  injection hA with hA
  injection hA with h1 h2
  subst h1 h2
  have : (⟨w.heap.size, 0, none⟩ : Addr).add j = ⟨w.heap.size, 0 + j, none⟩ := by unfold Addr.add; split <;> simp_all
  rw [this]; exact hc

section
variable {w : World} {p hb ob : Nat} {s : St}
/-- What is known behind an event's append, ahead of its store. -/
structure Pushed (w w1 : World) (p hb ob : Nat) (s : St) (e : Ev) : Prop where
  cell : w1.cell? ⟨p, 5, none⟩ = some (.slice (some ⟨ob, 0, none⟩) s.out.length 96)
  fz : ∀ i, w1.frozen? ⟨p, i, none⟩ = false
  spl : Spl (w1.setCell ⟨p, 5, none⟩ (.slice (some ⟨ob, 0, none⟩) (s.out.length + 1) 96)) p hb ob { s with out := s.out ++ [e] }
  kp : Kp [p, hb, ob] w (w1.setCell ⟨p, 5, none⟩ (.slice (some ⟨ob, 0, none⟩) (s.out.length + 1) 96))

theorem pushed {w1 : World} {o : Obj} {e : Ev} (h : Spl w p hb ob s) (own : w1.ownsRow 0 46 5 (.slice (some ⟨ob, 0, none⟩) (s.out.length + 1) 96) (s.out.length + 1) (evs s.out ++ evC e)) (grow : (w.alloc o).grownBy w1 (some ob)) : Pushed w w1 p hb ob s e := by
  have hk : Kp [ob] w w1 := ((Kp.refl [ob] w).alloc o).grown grow (fun k hk => by cases hk; left; simp)
  have hp : w1.heap[p]? = some (.cells (s.cells hb ob) 60 (0, 0)) := (hk.block p h.lt (by simpa using h.po)).trans h.cells
  have hk2 : Kp [p, ob] w (w1.setCell ⟨p, 5, none⟩ (.slice (some ⟨ob, 0, none⟩) (s.out.length + 1) 96)) := (hk.mono (fun k hk => by left; simp at hk ⊢; exact .inr hk)).setCell (.inl (by simp)) _
  refine ⟨?_, fun i => frozen_of_row w1 p i _ _ hp, ⟨?_, ?_, ?_, h.ph, h.po, h.ho⟩, hk2.mono (fun k hk => by left; simp at hk ⊢; rcases hk with rfl | rfl <;> simp)⟩
  · rw [cell_of_row w1 p 5 _ _ _ hp]; rfl
  · refine (heap_set hp 5 _).trans ?_
    simp only [St.cells, List.length_append, List.length_singleton]
    rfl
  · exact own_kp h.hold hk2 (by simp; exact ⟨h.ph.symm, h.ho⟩)
  · have h2 := own_kp own (kp1 (p := p) 5 (.slice (some ⟨ob, 0, none⟩) (s.out.length + 1) 96)) (by simpa using h.po.symm)
    rw [evs_append]
    simp only [List.length_append, List.length_singleton]
    rw [show evs [e] = evC e by simp [evs]]
    exact h2

/-- 's.out = append(s.out, e)': behind 'at_builtin'. -/
theorem wpList_push {ops : Array Oper} {rest : List Oper} {o : Oper} {a : Act} {Q : Exit → Act → World → Prop} (hgd : o.guard = none) (sl x : Operand)
    (ho : o.op = .call { callee := .builtin .append, args := #[sl, x], argTypes := #[57, 57] }) (e : Ev) {cs : Array Value} (hcs : cs.toList = evC e) (h : Spl w p hb ob s) (hroom : s.out.length < 96)
    (hs : a.eval sl = .slice (some ⟨ob, 0, none⟩) s.out.length 96) {H : Nat} (hx : a.eval x = .slice (some ⟨H, 0, none⟩) 1 1) (hH : w.heap.size = H)
    (K : ∀ w1, Pushed w w1 p hb ob s e → wpList Try.prog ops Q rest (a.put o.dst (.slice (some ⟨ob, 0, none⟩) (s.out.length + 1) 96)) w1) :
    wpList Try.prog ops Q (o :: rest) a (w.alloc (.cells cs 46)) := by
  subst hH
  obtain ⟨i, hi, hsz⟩ := Option.map_eq_some_iff.1 ev_info
  refine wpList_append_fits _ hgd sl x _ ho 0 46 i 5 Try.underlying57 hi hsz ob s.out.length 96 (evs s.out) hs (h.out.alloc _) ⟨w.heap.size, 0, none⟩ 1 1 (evC e) hx (evC_length e) ?_ ?_ hroom ?_
  · rw [← hcs]
    exact news_block w cs _
  · intro u hu
    exact evs_one [e] u (by simpa [evs] using hu)
  · intro w1 own grow
    exact K w1 (pushed h own grow)

/-- What is known behind a byte's append to what is held, ahead of its store. -/
structure Held (w w1 : World) (p hb ob : Nat) (s : St) (b : Int) : Prop where
  cell : w1.cell? ⟨p, 4, none⟩ = some (.slice (some ⟨hb, 0, none⟩) s.hold.length 94)
  fz : ∀ i, w1.frozen? ⟨p, i, none⟩ = false
  spl : Spl (w1.setCell ⟨p, 4, none⟩ (.slice (some ⟨hb, 0, none⟩) (s.hold.length + 1) 94)) p hb ob { s with hold := s.hold ++ [b] }
  kp : Kp [p, hb, ob] w (w1.setCell ⟨p, 4, none⟩ (.slice (some ⟨hb, 0, none⟩) (s.hold.length + 1) 94))

theorem held {w1 : World} {o : Obj} {b : Int} (h : Spl w p hb ob s) (own : w1.ownsRow 0 5 1 (.slice (some ⟨hb, 0, none⟩) (s.hold.length + 1) 94) (s.hold.length + 1) (u8s s.hold ++ u8s [b])) (grow : (w.alloc o).grownBy w1 (some hb)) : Held w w1 p hb ob s b := by
  have hk : Kp [hb] w w1 := ((Kp.refl [hb] w).alloc o).grown grow (fun k hk => by cases hk; left; simp)
  have hp : w1.heap[p]? = some (.cells (s.cells hb ob) 60 (0, 0)) := (hk.block p h.lt (by simpa using h.ph)).trans h.cells
  have hk2 : Kp [p, hb] w (w1.setCell ⟨p, 4, none⟩ (.slice (some ⟨hb, 0, none⟩) (s.hold.length + 1) 94)) := (hk.mono (fun k hk => by left; simp at hk ⊢; exact .inr hk)).setCell (.inl (by simp)) _
  refine ⟨?_, fun i => frozen_of_row w1 p i _ _ hp, ⟨?_, ?_, ?_, h.ph, h.po, h.ho⟩, hk2.mono (fun k hk => by left; simp at hk ⊢; rcases hk with rfl | rfl <;> simp)⟩
  · rw [cell_of_row w1 p 4 _ _ _ hp]; rfl
  · refine (heap_set hp 4 _).trans ?_
    simp only [St.cells, List.length_append, List.length_singleton]
    rfl
  · have h2 := own_kp own (kp1 (p := p) 4 (.slice (some ⟨hb, 0, none⟩) (s.hold.length + 1) 94)) (by simpa using h.ph.symm)
    rw [u8s_append]
    simp only [List.length_append, List.length_singleton]
    exact h2
  · exact own_kp h.out hk2 (by simp; exact ⟨h.po.symm, h.ho.symm⟩)

theorem wpList_hold {ops : Array Oper} {rest : List Oper} {o : Oper} {a : Act} {Q : Exit → Act → World → Prop} (hgd : o.guard = none) (sl x : Operand)
    (ho : o.op = .call { callee := .builtin .append, args := #[sl, x], argTypes := #[22, 22] }) (b : Int) (h : Spl w p hb ob s) (hroom : s.hold.length < 94)
    (hs : a.eval sl = .slice (some ⟨hb, 0, none⟩) s.hold.length 94) {H : Nat} (hx : a.eval x = .slice (some ⟨H, 0, none⟩) 1 1) (hH : w.heap.size = H)
    (K : ∀ w1, Held w w1 p hb ob s b → wpList Try.prog ops Q rest (a.put o.dst (.slice (some ⟨hb, 0, none⟩) (s.hold.length + 1) 94)) w1) :
    wpList Try.prog ops Q (o :: rest) a (w.alloc (.cells #[.int .u8 b] 5)) := by
  subst hH
  obtain ⟨i, hi, _, hsz, _⟩ := info_parts u8_info
  refine wpList_append_fits _ hgd sl x _ ho 0 5 i 1 Try.underlying22 hi hsz hb s.hold.length 94 (u8s s.hold) hs (h.hold.alloc _) ⟨w.heap.size, 0, none⟩ 1 1 (u8s [b]) hx rfl (news_block w #[.int .u8 b] _) (u8s_one [b]) hroom ?_
  intro w1 own grow
  exact K w1 (held h own grow)
end

set_option maxHeartbeats 1000000 in
set_option maxRecDepth 100000 in
theorem c_say (p hb ob : Nat) (s : St) (b : Int) (w : World) (h : Spl w p hb ob s) (hroom : s.out.length < 96) :
    Calls Try.prog 42 #[.pointer (some ⟨p, 0, none⟩), .int .u8 b] w (EndPost w p hb ob (s.say b)) := by
  have c5 := h.cell 5
  have c7 := h.cell 7
  simp only [St.cells, List.getElem?_toArray, List.getElem?_cons_succ, List.getElem?_cons_zero] at c5 c7
  have fz := h.fz
  have hlt := h.lt
  cases ho : s.opn
  · have hr : s.say b = s := by simp [St.say, ho]
    have HR := Lib.hid hr
    rw [ho] at c7
    clear hr ho
    go_enter Try.func42, Try.ntmps42
    go_wp2
    go_end0
    rw [HR.out]
    exact ⟨rfl, h, Kp.refl _ _⟩
  · have hr : s.say b = { s with out := s.out ++ [.by_ b] } := by simp [St.say, ho]
    have HR := Lib.hid hr
    rw [ho] at c7
    clear hr ho
    go_enter Try.func42, Try.ntmps42
    go_wp2_with (at_builtin; go_must (refine wpList_push rfl (.tmp 12) _ (by rfl) (.by_ b) rfl h hroom (by rfl) (by rfl) (by simp) ?_); intro w1 hP; have k5 := hP.cell; have kz := hP.fz)
    go_end0
    rw [HR.out]
    exact ⟨rfl, hP.spl, hP.kp⟩
end Go.Proofs.Ytmalacamfjdimaa.Pt
