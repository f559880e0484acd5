/- The map of a table's codes. -/
import Derived.Test.YtjjcemdoefigkaaDoorIi
import Derived.Maps.Own
import Derived.DeepKeys4
namespace Go.Proofs.YtjjcemdoefigkaaDoor.Hf
set_option linter.unusedVariables false
set_option linter.unusedSimpArgs false
open Go.RowKit Go.Proofs.YtjjcemdoefigkaaDoor.W
open Go.Maps (Keyed)

theorem codeLaid : laidOutB Tryd.prog = true := by kernel_rfl
set_option maxRecDepth 100000 in
theorem codeRow : (84 : TypeId) < Tryd.prog.types.size := of_decide_eq_true (by kernel_rfl)
theorem codeWide : (match Tryd.prog.underlying 84 with | some (.array _ _) | some (.struct _) => true | _ => false) = true := by rw [Tryd.underlying84]
theorem codeKT : Tryd.prog.keyTypeAt 2 84 = true := by kernel_rfl
set_option maxRecDepth 100000 in
theorem codeK : Keyed Tryd.prog 84 := Keyed.of_law (deep_law_laid (k := 84) (m := 2) codeLaid (of_decide_eq_true rfl) codeRow codeKT codeWide)
theorem codeT : Tryd.prog.keyType 84 = true := by kernel_rfl
theorem codeC : Tryd.prog.cellsOf 84 = 2 := by kernel_rfl
theorem mapU : Tryd.prog.underlying 78 = some (.map 84 3) := by kernel_rfl
def keyV (k v : Nat) : Value := .agg #[.int .i64 k, .int .u32 v]
set_option maxRecDepth 100000 in
theorem keyV_key {k v : Nat} (hk : k ≤ 15) (hv : v < 32768) : ∃ l, keyOf Tryd.prog 84 (keyV k v) = some l := by
  have h1 : (Lit.int .i64 (k : Int)).wf = true := by
    unfold Lit.wf
    simp [IntKind.min, IntKind.max, IntKind.bits, IntKind.signed]
    omega
  have h2 : (Lit.int .u32 (v : Int)).wf = true := by
    unfold Lit.wf
    simp [IntKind.min, IntKind.max, IntKind.bits, IntKind.signed]
    omega
  unfold keyOf
  rw [Tryd.underlying84]
  dsimp only
  rw [codeT]
  have hf : Value.formed Tryd.prog 84 (keyV k v) = true := by simp [Value.formed, Tryd.underlying84, codeC, keyV]
  have hi : Tryd.prog.cellsOf 3 = 1 := by kernel_rfl
  have hu : Tryd.prog.cellsOf 33 = 1 := by kernel_rfl
  have hl : Tryd.prog.keyLits (Tryd.prog.types.size + 1) 84 [Value.int .i64 k, Value.int .u32 v] = some [Lit.int .i64 k, Lit.int .u32 v] := by
    obtain ⟨d, hd⟩ : ∃ d, Tryd.prog.types.size = d + 1 := Nat.exists_eq_succ_of_ne_zero (fun h => (by have h2 := codeRow; rw [h] at h2; exact absurd h2 (Nat.not_lt_zero _)))
    rw [hd]
    simp [Program.keyLits, Tryd.underlying84, Tryd.underlying3, Tryd.underlying33, codeC, hi, hu, h1, h2]
  rw [hf, if_pos (show (true && true) = true from rfl)]
  exact ⟨_, congrArg (Option.map fun ls => Lit.string (keyBytes ls)) hl⟩
/-- The map at block b bears the entries L, in the order in which they came. -/
def Ms (w : World) (b : Nat) (L : List (Value × Value)) : Prop := ∃ es clock, w.heap[b]? = some (.map es clock) ∧ es.toList.map (fun e => (e.key, e.val)) = L
def Keys (L : List (Value × Value)) : Prop := ∀ p ∈ L, ∃ l, keyOf Tryd.prog 84 p.1 = some l
theorem Ms.kept {S : List Nat} {w w' : World} {b : Nat} {L : List (Value × Value)} (h : Ms w b L) (hk : Kp S w w') (h1 : b ∉ S) : Ms w' b L := by
  obtain ⟨es, clock, hb, hL⟩ := h
  exact ⟨es, clock, (hk.block b (Array.getElem?_eq_some_iff.1 hb).1 h1).trans hb, hL⟩
theorem Ms.lt {w : World} {b : Nat} {L : List (Value × Value)} (h : Ms w b L) : b < w.heap.size := by
  obtain ⟨es, clock, hb, hL⟩ := h
  exact (Array.getElem?_eq_some_iff.1 hb).1
set_option maxRecDepth 100000 in
theorem Ms.lookup {w : World} {b : Nat} {L : List (Value × Value)} (h : Ms w b L) (hK : Keys L) (hnd : L.Pairwise fun p q => p.1 ≠ q.1) {x v : Value} (hp : (x, v) ∈ L) :
    (Instr.lookup 78 (.map (some b)) x false).run Tryd.prog w = .ok v w := by
  obtain ⟨es, clock, hb, rfl⟩ := h
  obtain ⟨l, hl⟩ := hK _ hp
  have hes : ∀ e ∈ es.toList, ∃ l, keyOf Tryd.prog 84 e.key = some l := fun e he => hK (e.key, e.val) (List.mem_map.2 ⟨e, he, rfl⟩)
  rcases codeK.find w hl es.toList hes with ⟨h1, h2⟩ | ⟨j, e, h1, h2, h3⟩
  · obtain ⟨e, he, heq⟩ := List.mem_map.1 hp
    injection heq with e1 e2
    exact absurd e1 (h2 e he)
  · have hv : e.val = v := by
      obtain ⟨e', he, heq⟩ := List.mem_map.1 hp
      injection heq with e1 e2
      obtain ⟨i, hi⟩ := List.mem_iff_getElem?.1 he
      have hij : i = j := by
        have hap : ∀ (i j : Nat) (a c : MapEntry), es.toList[i]? = some a → es.toList[j]? = some c → i < j → a.key ≠ c.key := fun i j a c ha hc hij => by
          obtain ⟨ha1, ha2⟩ := List.getElem?_eq_some_iff.1 ha
          obtain ⟨hc1, hc2⟩ := List.getElem?_eq_some_iff.1 hc
          have h := List.pairwise_iff_getElem.1 (List.pairwise_map.1 hnd) i j ha1 hc1 hij
          rw [ha2, hc2] at h
          exact h
        rcases Nat.lt_trichotomy i j with h4 | h4 | h4
        · exact absurd (e1.trans h3.symm) (hap i j e' e hi h2 h4)
        · exact h4
        · exact absurd (h3.trans e1.symm) (hap j i e e' h2 hi h4)
      subst hij
      rw [hi] at h2
      injection h2 with h2
      rw [← h2, e2]
    simp [Instr.lookup, run_underlying mapU, MapKept.run_getObj_map hb, codeK.check w _ hl, h1, Result.andThen, hv]
set_option maxRecDepth 100000 in
theorem Ms.update {w : World} {b : Nat} {L : List (Value × Value)} (h : Ms w b L) (hK : Keys L) {x v : Value} (hx : ∃ l, keyOf Tryd.prog 84 x = some l) (hne : ∀ p ∈ L, p.1 ≠ x) :
    ∃ w', (Instr.mapUpdate 78 (.map (some b)) x v).run Tryd.prog w = .ok () w' ∧ Ms w' b (L ++ [(x, v)]) ∧ w.grownBy w' (some b) := by
  obtain ⟨es, clock, hb, rfl⟩ := h
  obtain ⟨l, hl⟩ := hx
  have hes : ∀ e ∈ es.toList, ∃ l, keyOf Tryd.prog 84 e.key = some l := fun e he => hK (e.key, e.val) (List.mem_map.2 ⟨e, he, rfl⟩)
  rcases codeK.find w hl es.toList hes with ⟨h1, h2⟩ | ⟨j, e, h1, h2, h3⟩
  · refine ⟨ChangeMaps.setBlock w b (.map (es.push ⟨x, v, clock⟩) (clock + 1)), ?_, ⟨es.push ⟨x, v, clock⟩, clock + 1, ChangeMaps.heap_setBlock_same hb _, by simp⟩, ⟨rfl, rfl, rfl, by simp [ChangeMaps.setBlock], fun i _ hi => ChangeMaps.heap_setBlock_other hb _ (fun e => hi (by rw [e]))⟩⟩
    simp [Instr.mapUpdate, run_underlying mapU, MapKept.run_getObj_map hb, codeK.check w false hl, h1, MapKept.run_setObj_map _ hb, Result.andThen, ChangeMaps.setBlock]
  · exact absurd h3 (hne (e.key, e.val) (List.mem_map.2 ⟨e, List.mem_of_getElem? h2, rfl⟩))
theorem Ms.made (w : World) : Ms (w.alloc (.map #[] 0)) w.heap.size [] := ⟨#[], 0, (MapKept.heap_alloc w _).1, rfl⟩
end Go.Proofs.YtjjcemdoefigkaaDoor.Hf
