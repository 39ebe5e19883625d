/- A queue of ints (a slice at any offset of a row of the call's own, appended to), and rows of rows. -/
import Derived.Test.YtaciceaipmclgaaFixPlain
import Derived.Deep.AppendSrc
import Derived.Maps.AppendAt
import Derived.Test.YtaciceaipmclgaaRows
namespace Go.Proofs.Ytaciceaipmclgaa
open Go.RowKit
set_option linter.unusedVariables false
theorem Try.infoInt : (Try.prog.info? 3).map (fun i => (i.zero, i.size, i.bytes)) = some (some (.int .i64 0), 1, 8) := by kernel_rfl
/-- the cell of a natural number -/
def nv (n : Nat) : Value := .int .i64 (n : Int)
/-- a queue: xs lie in the call's own row, from some place on -/
def Que (w : World) (base : Nat) (v : Value) (xs : List Nat) : Prop :=
  ∃ g off cap cur, v = .slice (some ⟨g, off, none⟩) xs.length cap ∧ base ≤ g ∧ w.heap[g]? = some (.cells cur 3 (0, 0)) ∧ xs.length ≤ cap ∧ cap ≤ maxLen ∧ off + cap ≤ cur.size ∧
    ∀ j, j < xs.length → cur[off + j]? = some (nv (xs.getD j 0))
theorem Que.kept {w w' : World} {base : Nat} {v : Value} {xs : List Nat} {T : List Nat} (h : Que w base v xs) (hc : Chg T w w') (hT : ∀ g ∈ v.ownBlock.toList, g ∉ T) : Que w' base v xs := by
  obtain ⟨g, off, cap, cur, rfl, h1, h2, h3, h4, h5, h6⟩ := h
  exact ⟨g, off, cap, cur, rfl, h1, (hc.block g (lt_of_obj h2) (hT g (by simp [Value.ownBlock]))).trans h2, h3, h4, h5, h6⟩
theorem Que.cell {w : World} {base g off cap n : Nat} {xs : List Nat} (h : Que w base (.slice (some ⟨g, off, none⟩) n cap) xs) (j : Nat) (hj : j < xs.length) : w.cell? ⟨g, off + j, none⟩ = some (nv (xs.getD j 0)) := by
  obtain ⟨g', off', cap', cur, hv, h1, h2, h3, h4, h5, h6⟩ := h
  simp only [Value.slice.injEq, Option.some.injEq, Addr.mk.injEq, and_true] at hv
  obtain ⟨⟨rfl, rfl⟩, rfl, rfl⟩ := hv
  exact cell_of_heap h2 (h6 j hj)
/-- the queue's head taken off -/
theorem Que.tail {w : World} {base : Nat} {v : Value} {x : Nat} {xs : List Nat} (h : Que w base v (x :: xs)) :
    ∃ v', (∀ w' : World, (Instr.slice 23 v (some (.int .i64 1)) none none).run Try.prog w' = .ok v' w') ∧ Que w base v' xs ∧ v'.ownBlock = v.ownBlock := by
  obtain ⟨g, off, cap, cur, rfl, h1, h2, h3, h4, h5, h6⟩ := h
  simp only [List.length_cons] at h3 h6 ⊢
  by_cases hc : cap = 1
  · subst hc
    have h0 : xs = [] := List.eq_nil_of_length_eq_zero (by omega)
    subst h0
    refine ⟨.slice (some ⟨g, off, none⟩) 0 0, fun w' => ?_, ⟨g, off, 0, cur, rfl, h1, h2, by simp, by unfold maxLen; omega, by omega, by simp⟩, rfl⟩
    simp [Instr.slice, run_underlying Try.underlying23, Instr.sliceBounds, Instr.sliceBound, asIntOf, Result.andThen]
  · refine ⟨.slice (some ⟨g, off + 1, none⟩) xs.length (cap - 1), fun w' => ?_, ⟨g, off + 1, cap - 1, cur, rfl, h1, h2, by omega, by omega, by omega, fun j hj => ?_⟩, rfl⟩
    · have h1' : (1 : Int) ≤ (xs.length : Int) + 1 := by omega
      simp [Instr.slice, run_underlying Try.underlying23, Instr.sliceBounds, Instr.sliceBound, asIntOf, Result.andThen, h1', hc, Addr.add]
    · have := h6 (j + 1) (by omega)
      rw [List.getD_cons_succ] at this
      rw [← this]
      congr 1
      omega
/-- the queue, one element more -/
theorem que_append {w : World} {base : Nat} {v : Value} {xs : List Nat} (h : Que w base v xs) (hb : base ≤ w.heap.size) (x : Nat) (ad : Addr) (c : Nat) (hx : w.cell? (ad.add 0) = some (nv x)) (hn : xs.length + 1 ≤ 1000000) :
    ∃ v' w', (Builtin.append_ #[23, 23] 23 #[v, .slice (some ad) 1 c]).run Try.prog w = .ok v' w' ∧ Que w' base v' (xs ++ [x]) ∧ Chg v.ownBlock.toList w w' ∧ (v'.ownBlock = v.ownBlock ∨ v'.ownBlock = some w.heap.size) := by
  obtain ⟨i, hi, hz, hsz, hby⟩ := info_parts Try.infoInt
  obtain ⟨g, off, cap, cur, rfl, h1, h2, h3, h4, h5, h6⟩ := h
  have hsrc : Src Try.prog i.size 23 (.slice (some ad) 1 c) 1 [nv x] w := by
    rw [hsz]
    exact Src.ofSlice w Try.underlying23 ad 1 c [nv x] rfl (fun j u hu => by
      cases j with
      | zero => simp at hu; subst hu; exact hx
      | succ j => simp at hu) (by simp [nv, Value.oneCell'])
  by_cases hroom : xs.length + 1 ≤ cap
  · have hr := run_append_room_src (P := Try.prog) w 23 23 23 3 i Try.underlying23 hi g off xs.length cap _ 1 [nv x] hsrc hroom
      (fun j hj => by
        rw [hsz]
        simp only [List.length_singleton] at hj
        have hlt : off + xs.length * 1 + j < cur.size := by omega
        rw [cell_of_heap h2 (Array.getElem?_eq_getElem hlt)]
        rfl)
      (fun j hj => frozen_of_heap h2)
    rw [hsz, Nat.mul_one] at hr
    refine ⟨_, _, hr, ⟨g, off, cap, cur.setIfInBounds (off + xs.length) (nv x), by simp, h1, heap_setCell_same h2 _, by simpa using hroom, h4, by simpa using h5, fun j hj => ?_⟩, (Chg.refl _ w).setCell (Or.inl (by simp [Value.ownBlock])) _, Or.inl rfl⟩
    rw [List.length_append, List.length_singleton] at hj
    rw [Array.getElem?_setIfInBounds]
    by_cases hjx : j = xs.length
    · subst hjx
      rw [if_pos rfl, if_pos (by omega)]
      simp
    · rw [if_neg (by omega), h6 j (by omega)]
      congr 2
      simp [List.getD_eq_getElem?_getD, List.getElem?_append_left (show j < xs.length by omega)]
  · have hcx : cap = xs.length := by omega
    subst hcx
    have hfc : ∀ w' : World, w'.heap[g]? = w.heap[g]? → (Builtin.firstCells i.size xs.length (.slice (some ⟨g, off, none⟩) xs.length xs.length)).run Try.prog w' = .ok (xs.map nv).toArray w' := fun w' hw' => by
      rw [hsz]
      refine run_firstCells_some w' 1 xs.length ⟨g, off, none⟩ xs.length xs.length (xs.map nv) (by simp) (fun j u hu => ?_)
      rw [Addr.add_lit]
      have hj : j < xs.length := by
        have := (List.getElem?_eq_some_iff.1 hu).1
        simpa using this
      refine cell_of_heap (hw'.trans h2) ((h6 j hj).trans ?_)
      rw [← hu]
      simp [hj]
    have hr := run_append_grow_src (P := Try.prog) w 23 23 23 3 i (.int .i64 0) Try.underlying23 hi hz (some ⟨g, off, none⟩) xs.length xs.length (xs.map nv) (hfc w.drew rfl) _ 1 [nv x] hsrc
      (by omega) (by omega) (by rw [hby]; exact growslice_fits (by omega) (by omega))
    have hge := grownCap_ge w (xs.length + 1) xs.length 3
    have hcm : grownCap w (xs.length + 1) xs.length 3 ≤ maxLen := grownCap_le_maxLen w (xs.length + 1) xs.length 3 (by unfold maxLen; omega)
    refine ⟨_, _, hr, ⟨w.heap.size, 0, _, _, by simp, hb, heap_alloc_new w.drew _, by simpa using hge, hcm, ?_, fun j hj => ?_⟩, ?_, Or.inr rfl⟩
    · simp only [Array.size_append, List.size_toArray, size_zeroCells, List.length_append, List.length_map, List.length_singleton]
      show 0 + grownCap w (xs.length + 1) xs.length 3 ≤ xs.length + 1 + (grownCap w (xs.length + 1) xs.length 3 - (xs.length + 1)) * 1
      omega
    · rw [List.length_append, List.length_singleton] at hj
      rw [Nat.zero_add, Array.getElem?_append_left (by simp; omega)]
      simp only [List.getElem?_toArray]
      by_cases hjx : j = xs.length
      · subst hjx
        simp
      · have hjl : j < xs.length := by omega
        rw [List.getElem?_append_left (by simpa using hjl)]
        simp [hjl, List.getD_eq_getElem?_getD, List.getElem?_append_left hjl]
    · exact ((Chg.refl _ w).drew).alloc _
end Go.Proofs.Ytaciceaipmclgaa
