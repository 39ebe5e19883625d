/- Ranging over a map that reads as an association list: whatever order the tape gives. -/
import Derived.Test.YticfigfipbcmhaaGreatDoorBase
import Derived.Maps.RangeWalk
namespace Go.Proofs.YticfigfipbcmhaaGreatDoor
open Go.RowKit Go.ChangeMaps Go.MapKept
set_option linter.unusedVariables false
section
variable {P : Program} {K : Type} {kt : TypeId} {ek : K → Value}
/-- what of the entries has not been seen -/
def restOf {β : Type} (seen : Array Nat) (L : List (MapEntry × β)) : List β := (L.filter fun p => !seen.contains p.1.born).map (·.2)
theorem restOf_step {β : Type} (seen : Array Nat) (x : MapEntry × β) (hx : seen.contains x.1.born = false) : ∀ L : List (MapEntry × β), (L.map fun p => p.1.born).Nodup → x ∈ L → (restOf seen L).Perm (x.2 :: restOf (seen.push x.1.born) L) := by
  intro L
  induction L with
  | nil => intro _ h; cases h
  | cons y L ih =>
    intro hn hm
    rw [List.map_cons, List.nodup_cons] at hn
    unfold restOf at ih ⊢
    rcases List.mem_cons.1 hm with rfl | hm
    · have e1 : (L.filter fun p => !(seen.push x.1.born).contains p.1.born) = L.filter fun p => !seen.contains p.1.born := by
        apply List.filter_congr
        intro p hp
        have hne : p.1.born ≠ x.1.born := fun e => hn.1 (List.mem_map.2 ⟨p, hp, e⟩)
        rw [contains_push]
        simp [hne]
      rw [List.filter_cons, List.filter_cons, e1]
      simp only [hx, Bool.not_false, if_true, contains_push, beq_self_eq_true, Bool.or_true, Bool.not_true, Bool.false_eq_true, if_false, List.map_cons]
      exact List.Perm.refl _
    · have hne : y.1.born ≠ x.1.born := fun e => hn.1 (List.mem_map.2 ⟨x, hm, e.symm⟩)
      have h1 := ih hn.2 hm
      rw [List.filter_cons, List.filter_cons]
      simp only [contains_push]
      have hb : (y.1.born == x.1.born) = false := by simp [hne]
      rw [hb, Bool.or_false]
      simp only [contains_push] at h1
      cases seen.contains y.1.born
      · simp only [Bool.not_false, if_true, List.map_cons]
        exact (List.Perm.cons _ h1).trans (List.Perm.swap _ _ _)
      · simp only [Bool.not_true, Bool.false_eq_true, if_false]
        exact h1
/-- a range over the map b: 'rest' is still to come -/
def RangeAt (P : Program) (kt : TypeId) (ek : K → Value) (w : World) (b r : Nat) (es rest : List (K × Value)) : Prop :=
  ∃ arr clock since seen c0, w.heap[b]? = some (.map arr clock) ∧ arr.toList.map (fun e => (e.key, e.val)) = es.map (fun p => (ek p.1, p.2)) ∧ Stamped arr clock ∧ (∀ p ∈ es, KeyOk P kt (ek p.1)) ∧
    w.heap[r]? = some (.mapIter (some b) since seen c0) ∧ (∀ x ∈ arr.toList, x.born < since) ∧ since ≤ c0 ∧ since ≤ clock ∧ rest = restOf seen (arr.toList.zip es)
theorem RangeAt.map {w : World} {b r : Nat} {es rest : List (K × Value)} (h : RangeAt P kt ek w b r es rest) : MapAt P kt ek w b es := by
  obtain ⟨arr, clock, since, seen, c0, h1, h2, h3, h4, _⟩ := h
  exact ⟨arr, clock, h1, h2, h3, h4⟩
theorem RangeAt.lt {w : World} {b r : Nat} {es rest : List (K × Value)} (h : RangeAt P kt ek w b r es rest) : r < w.heap.size := by
  obtain ⟨arr, clock, since, seen, c0, h1, h2, h3, h4, h5, _⟩ := h
  exact lt_of_obj h5
theorem RangeAt.of_blocks {w w' : World} {b r : Nat} {es rest : List (K × Value)} (h : RangeAt P kt ek w b r es rest) (hb : w'.heap[b]? = w.heap[b]?) (hr : w'.heap[r]? = w.heap[r]?) : RangeAt P kt ek w' b r es rest := by
  obtain ⟨arr, clock, since, seen, c0, h1, h2, h3, h4, h5, h6⟩ := h
  exact ⟨arr, clock, since, seen, c0, hb.trans h1, h2, h3, h4, hr.trans h5, h6⟩
theorem RangeAt.kept {w w' : World} {b r : Nat} {es rest : List (K × Value)} {S : List Nat} (h : RangeAt P kt ek w b r es rest) (hc : Chg S w w') (hb : b ∉ S) (hr : r ∉ S) : RangeAt P kt ek w' b r es rest :=
  h.of_blocks (hc.block b h.map.lt hb) (hc.block r h.lt hr)
theorem restOf_len {seen : Array Nat} {arr : Array MapEntry} {es : List (K × Value)} (hl : arr.toList.length = es.length) : (restOf seen (arr.toList.zip es)).length = (leftOf arr seen).size := by
  have key : ∀ (L : List MapEntry) (es : List (K × Value)), L.length = es.length → (restOf seen (L.zip es)).length = (L.filter fun e => !seen.contains e.born).length := by
    intro L
    induction L with
    | nil => intro es h; simp [restOf]
    | cons x L ih =>
      intro es h
      cases es with
      | nil => simp at h
      | cons y es =>
        have := ih es (by simpa using h)
        unfold restOf at this ⊢
        rw [List.zip_cons_cons, List.filter_cons, List.filter_cons]
        split <;> simp only [List.map_cons, List.length_cons, this]
  rw [key _ _ hl]
  simp [leftOf, ← Array.length_toList]
theorem RangeAt.left_eq {w : World} {b r : Nat} {es rest : List (K × Value)} (h : RangeAt P kt ek w b r es rest) : w.rangeLeft b r = rest.length := by
  obtain ⟨arr, clock, since, seen, c0, hb, he, _, _, hr, _, _, _, rfl⟩ := h
  have hl : arr.toList.length = es.length := by have := congrArg List.length he; simpa using this
  rw [restOf_len hl]
  simp only [World.rangeLeft, hb, hr]
/-- 'range m' -/
theorem MapAt.range {t e : TypeId} (ht : P.underlying t = some (.map kt e)) {w : World} {b : Nat} {es : List (K × Value)} (h : MapAt P kt ek w b es) :
    ∃ o, (Instr.range t (.map (some b))).run P w = .ok (.pointer (some ⟨w.heap.size, 0, none⟩)) (w.alloc o) ∧ RangeAt P kt ek (w.alloc o) b w.heap.size es es := by
  have hlt := h.lt
  obtain ⟨arr, clock, h1, h2, h3, h4⟩ := h
  have hl : arr.toList.length = es.length := by have := congrArg List.length h2; simpa using this
  refine ⟨_, run_range_map w t kt e b arr clock ht h1, arr, clock, clock, #[], clock, (heap_past _ _ _ hlt).trans h1, h2, h3, h4, heap_at _ _ _ rfl, h3.1, Nat.le_refl _, Nat.le_refl _, ?_⟩
  unfold restOf
  rw [List.filter_eq_self.2 (by simp), List.map_snd_zip (by omega)]
/-- the step: nothing is left, or an entry comes -/
theorem RangeAt.next {w : World} {b r : Nat} {es rest : List (K × Value)} (h : RangeAt P kt ek w b r es rest) (ty : TypeId) :
    (rest = [] ∧ (Instr.next (.pointer (some ⟨r, 0, none⟩)) false ty).run P w = .ok (.tuple #[.bool false]) w) ∨
    ∃ k v rest' w', rest.Perm ((k, v) :: rest') ∧ (Instr.next (.pointer (some ⟨r, 0, none⟩)) false ty).run P w = .ok (.tuple #[.bool true, ek k, v]) w' ∧
      RangeAt P kt ek w' b r es rest' ∧ Chg [r] w w' ∧ w'.heap.size = w.heap.size ∧ (∀ a : Addr, w'.cell? a = w.cell? a) ∧ (∀ a : Addr, w'.frozen? a = w.frozen? a) ∧ (Instr.entry (.pointer (some ⟨r, 0, none⟩))).run P w' = .ok (.tuple #[ek k, v]) w' := by
  obtain ⟨arr, clock, since, seen, c0, hb, he, hst, hok, hr, hold, hsc, hsk, rfl⟩ := h
  have hl : arr.toList.length = es.length := by have := congrArg List.length he; simpa using this
  rcases run_next_at (P := P) w ty r b since c0 seen arr clock hr hb hold hsc with ⟨h0, hrun⟩ | ⟨e, hel, w1, hal, hrun⟩
  · refine Or.inl ⟨?_, hrun⟩
    have h1 := all_seen arr seen h0
    unfold restOf
    rw [List.filter_eq_nil_iff.2 (fun p hp => by rw [h1 p.1 (List.of_mem_zip hp).1]; simp)]
    rfl
  · have hmem := mem_left hel
    have hne : r ≠ b := fun e1 => by rw [e1, hb] at hr; cases hr
    obtain ⟨j, hj, hje⟩ := List.getElem_of_mem hmem.1
    have hj' : j < es.length := by omega
    have hzm : (e, es[j]) ∈ arr.toList.zip es := by
      rw [← hje]
      exact List.mem_iff_getElem.2 ⟨j, by rw [List.length_zip]; omega, List.getElem_zip⟩
    have hkv : e.key = ek es[j].1 ∧ e.val = es[j].2 := by
      have h1 : (arr.toList.map fun e => (e.key, e.val))[j]? = (es.map fun p => (ek p.1, p.2))[j]? := by rw [he]
      rw [List.getElem?_map, List.getElem?_map, List.getElem?_eq_getElem hj, List.getElem?_eq_getElem hj', hje] at h1
      simpa using h1
    have hnd : ((arr.toList.zip es).map fun p => p.1.born).Nodup := by
      have e1 : ((arr.toList.zip es).map fun p => p.1.born) = arr.toList.map (·.born) := by
        have : ((arr.toList.zip es).map fun p => p.1.born) = (((arr.toList.zip es).map Prod.fst).map (·.born)) := by rw [List.map_map]; rfl
        rw [this, List.map_fst_zip (by omega)]
      rw [e1]; exact hst.2.1
    have hr1 : w1.heap[r]? = some (.mapIter (some b) since seen c0) := by rcases hal with rfl | rfl <;> exact hr
    have hb1 : w1.heap[b]? = some (.map arr clock) := by rcases hal with rfl | rfl <;> exact hb
    have hset : (setBlock w1 r (.mapIter (some b) since (seen.push e.born) clock)).heap[r]? = some (.mapIter (some b) since (seen.push e.born) clock) := by simp [setBlock, lt_of_obj hr1]
    have hb' : (setBlock w1 r (.mapIter (some b) since (seen.push e.born) clock)).heap[b]? = some (.map arr clock) := by
      have : (setBlock w1 r (.mapIter (some b) since (seen.push e.born) clock)).heap[b]? = w1.heap[b]? := by simp [setBlock, hne]
      exact this.trans hb1
    have hcell : ∀ a : Addr, (setBlock w1 r (.mapIter (some b) since (seen.push e.born) clock)).cell? a = w.cell? a := fun a => by
      have h2 : w1.cell? a = w.cell? a := by rcases hal with rfl | rfl <;> rfl
      rw [← h2]
      by_cases ha : a.block = r
      · unfold World.cell?
        rw [ha, hset, hr1]
      · exact cell_setBlock ha
    have hfroz : ∀ a : Addr, (setBlock w1 r (.mapIter (some b) since (seen.push e.born) clock)).frozen? a = w.frozen? a := fun a => by
      have h2 : w1.frozen? a = w.frozen? a := by rcases hal with rfl | rfl <;> rfl
      rw [← h2]
      by_cases ha : a.block = r
      · unfold World.frozen?
        rw [ha, hset, hr1]
      · exact World.frozen?_of_block (by simp [setBlock, Ne.symm ha])
    refine Or.inr ⟨es[j].1, es[j].2, restOf (seen.push e.born) (arr.toList.zip es), _, restOf_step seen (e, es[j]) hmem.2 _ hnd hzm, by rw [hrun, hkv.1, hkv.2], ⟨arr, clock, since, seen.push e.born, clock, hb', he, hst, hok, hset, hold, hsk, hsk, rfl⟩, ?_, ?_, hcell, hfroz, ?_⟩
    · have h0 : Chg [r] w w1 := by rcases hal with rfl | rfl <;> first | exact Chg.refl _ _ | exact (Chg.refl _ _).drew
      exact h0.setBlock (Or.inl (by simp)) _
    · rcases hal with rfl | rfl <;> simp [setBlock]
    · rw [run_entry_at _ r b since seen arr clock e hset hb' hmem.1 hst.2.1, hkv.1, hkv.2]
/-- len of a map -/
theorem MapAt.len {t e : TypeId} (ht : P.underlying t = some (.map kt e)) {w : World} {b : Nat} {es : List (K × Value)} (h : MapAt P kt ek w b es) (ty : TypeId) : (Builtin.len_ #[t] ty #[.map (some b)]).run P w = .ok (.int .i64 (es.length : Nat)) w := by
  obtain ⟨arr, clock, hb, he, _⟩ := h
  have hl : arr.size = es.length := by have := congrArg List.length he; simpa using this
  simp [Builtin.len_, run_underlying ht, MapKept.run_getObj_map hb, hl, goInt, Result.andThen]
end
end Go.Proofs.YticfigfipbcmhaaGreatDoor
