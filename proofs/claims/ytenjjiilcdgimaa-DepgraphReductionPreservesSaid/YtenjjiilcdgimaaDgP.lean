/- graphExample. -/
import Derived.Test.YtenjjiilcdgimaaDgN
import Derived.Test.YtenjjiilcdgimaaDgO
namespace Go.Proofs.Ytenjjiilcdgimaa
open Go.RowKit Go.ChangeMaps Go.MapKept Go.Shelf
set_option linter.unusedVariables false
set_option linter.unusedSimpArgs false
def kA : I3 := (0, 1, 0)
def kB : I3 := (0, 2, 0)
def kC : I3 := (0, 3, 0)
def exE : List Ed := [(kC, kB), (kB, kA)]
theorem exE_ok : EdOk exE := by
  intro e he
  simp only [exE, List.mem_cons, List.not_mem_nil, or_false] at he
  rcases he with rfl | rfl <;> simp [kA, kB, kC, QKok, In64]
theorem ex_reach {x y : I3} (h : Reach exE x y) : (x = kC ∧ (y = kB ∨ y = kA)) ∨ (x = kB ∧ y = kA) := by
  induction h with
  | one h =>
    simp only [exE, List.mem_cons, List.not_mem_nil, or_false, Prod.mk.injEq] at h
    rcases h with ⟨rfl, rfl⟩ | ⟨rfl, rfl⟩ <;> simp
  | step h _ ih =>
    simp only [exE, List.mem_cons, List.not_mem_nil, or_false, Prod.mk.injEq] at h
    rcases h with ⟨rfl, rfl⟩ | ⟨rfl, rfl⟩
    · rcases ih with ⟨e, _⟩ | ⟨_, e⟩
      · exact absurd e (by decide)
      · exact Or.inl ⟨rfl, Or.inr e⟩
    · rcases ih with ⟨e, _⟩ | ⟨e, _⟩ <;> exact absurd e (by decide)
theorem ex_cb : Reach exE kC kB := .one (by simp [exE])
theorem ex_ba : Reach exE kB kA := .one (by simp [exE])
theorem sorted2 (x y : I3) (h : ltK x y) : SortedK [x, y] := by
  unfold SortedK
  simp [h]
theorem ex_deps {l : List I3} (h : IsDeps exE kC l) : l = [kA, kB] := by
  refine SortedK.ext h.1 (sorted2 _ _ (by unfold ltK; decide)) fun x => ?_
  rw [h.2]
  constructor
  · intro hx
    rcases ex_reach hx with ⟨_, e⟩ | ⟨e, _⟩
    · rcases e with rfl | rfl <;> simp
    · exact absurd e (by decide)
  · intro hx
    simp only [List.mem_cons, List.not_mem_nil, or_false] at hx
    rcases hx with rfl | rfl
    · exact ex_cb.trans ex_ba
    · exact ex_cb
theorem ex_depts {l : List I3} (h : IsDeps (rev exE) kA l) : l = [kB, kC] := by
  refine SortedK.ext h.1 (sorted2 _ _ (by unfold ltK; decide)) fun x => ?_
  rw [h.2, reach_rev_iff]
  constructor
  · intro hx
    rcases ex_reach hx with ⟨rfl, _⟩ | ⟨rfl, _⟩ <;> simp
  · intro hx
    simp only [List.mem_cons, List.not_mem_nil, or_false] at hx
    rcases hx with rfl | rfl
    · exact ex_ba
    · exact ex_cb.trans ex_ba
def k2Obj (a b : I3) : Obj := .cells #[.int .i64 a.1, .int .i64 a.2.1, .int .i64 a.2.2, .int .i64 b.1, .int .i64 b.2.1, .int .i64 b.2.2] 24 (0, 0)
theorem keys2_at {w : World} {n : Nat} {a b : I3} (h : w.heap[n]? = some (k2Obj a b)) : I3s (fun g => g = n) w (.slice (some ⟨n, 0, none⟩) 2 2) [a, b] := by
  refine ⟨_, 2, rfl, Nat.le_refl _, by simp [maxLen], fun _ => ⟨n, 0, rfl, rfl, fun j hj => ?_⟩⟩
  match j, hj with
  | 0, _ => exact ⟨cell_of_heap h rfl, cell_of_heap h rfl, cell_of_heap h rfl⟩
  | 1, _ => exact ⟨cell_of_heap h rfl, cell_of_heap h rfl, cell_of_heap h rfl⟩
theorem exEq (a b : I3) {W : World} {v : Value} {n : Nat} (hv : I3s (fun _ => True) W v [a, b]) (hn : W.heap[n]? = some (k2Obj a b)) :
    Calls Try.prog 14 #[v, .slice (some ⟨n, 0, none⟩) 2 2] W fun e w' => e = .returned (.bool true) ∧ Chg [] W w' := by
  refine (equalKeys_any W _ _ _ _ _ _ hv (keys2_at hn)).mono ?_
  rintro e w' ⟨rfl, hc⟩
  exact ⟨by simp, hc⟩
structure ExW (w5 : World) (nA nB nC nE : Nat) : Prop where
  a : w5.heap[nA]? = some (kObj kA)
  b : w5.heap[nB]? = some (kObj kB)
  c : w5.heap[nC]? = some (kObj kC)
  e : w5.heap[nE]? = some (.cells #[.int .i64 0, .int .i64 3, .int .i64 0, .int .i64 0, .int .i64 2, .int .i64 0, .int .i64 0, .int .i64 2, .int .i64 0, .int .i64 0, .int .i64 1, .int .i64 0] 37 (0, 0))
theorem ExW.same {w5 W : World} {nA nB nC nE : Nat} (h : ExW w5 nA nB nC nE) (hc : Chg [] w5 W) : ExW W nA nB nC nE :=
  ⟨(hc.block _ (lt_of_obj h.a) (by simp)).trans h.a, (hc.block _ (lt_of_obj h.b) (by simp)).trans h.b, (hc.block _ (lt_of_obj h.c) (by simp)).trans h.c, (hc.block _ (lt_of_obj h.e) (by simp)).trans h.e⟩
theorem ExW.eds {w5 : World} {nA nB nC nE : Nat} (h : ExW w5 nA nB nC nE) : EdP (fun g => g = nE) w5 (.slice (some ⟨nE, 0, none⟩) 2 2) exE := by
  refine ⟨_, 2, rfl, Nat.le_refl _, by simp [maxLen], fun _ => ⟨nE, 0, rfl, rfl, fun j hj => ?_⟩⟩
  match j, hj with
  | 0, _ => exact ⟨⟨cell_of_heap h.e rfl, cell_of_heap h.e rfl, cell_of_heap h.e rfl⟩, cell_of_heap h.e rfl, cell_of_heap h.e rfl, cell_of_heap h.e rfl⟩
  | 1, _ => exact ⟨⟨cell_of_heap h.e rfl, cell_of_heap h.e rfl, cell_of_heap h.e rfl⟩, cell_of_heap h.e rfl, cell_of_heap h.e rfl, cell_of_heap h.e rfl⟩
def ExS (W : World) (nA nB nC : Nat) : Prop :=
  W.cell? ⟨nA, 0, none⟩ = some (.int .i64 0) ∧ W.cell? ⟨nA, 1, none⟩ = some (.int .i64 1) ∧ W.cell? ⟨nA, 2, none⟩ = some (.int .i64 0) ∧ W.cell? ⟨nB, 0, none⟩ = some (.int .i64 0) ∧ W.cell? ⟨nB, 1, none⟩ = some (.int .i64 2) ∧ W.cell? ⟨nB, 2, none⟩ = some (.int .i64 0) ∧ W.cell? ⟨nC, 0, none⟩ = some (.int .i64 0) ∧ W.cell? ⟨nC, 1, none⟩ = some (.int .i64 3) ∧ W.cell? ⟨nC, 2, none⟩ = some (.int .i64 0)
theorem ExW.cells {W : World} {nA nB nC nE : Nat} (h : ExW W nA nB nC nE) : ExS W nA nB nC :=
  ⟨cell_of_heap h.a rfl, cell_of_heap h.a rfl, cell_of_heap h.a rfl, cell_of_heap h.b rfl, cell_of_heap h.b rfl, cell_of_heap h.b rfl, cell_of_heap h.c rfl, cell_of_heap h.c rfl, cell_of_heap h.c rfl⟩
theorem exDeps {w5 : World} {nA nB nC nE : Nat} (h : ExW w5 nA nB nC nE) (W : World) (hc : Chg [] w5 W) :
    Calls Try.prog 7 #[.slice (some ⟨nE, 0, none⟩) 2 2, .agg #[.int .i64 0, .int .i64 3, .int .i64 0]] W fun e w' => ∃ v', e = .returned v' ∧ I3s (fun _ => True) w' v' [kA, kB] ∧ Chg [] W w' := by
  refine (deps_any _ W _ exE kC ((h.same hc).eds) (by decide) exE_ok (by simp [kC, QKok, In64])).mono ?_
  rintro e w' ⟨v', l, rfl, hi, hd, hc'⟩
  rw [ex_deps hd] at hi
  exact ⟨v', rfl, hi.imp fun _ _ => trivial, hc'⟩
theorem exDepts {w5 : World} {nA nB nC nE : Nat} (h : ExW w5 nA nB nC nE) (W : World) (hc : Chg [] w5 W) :
    Calls Try.prog 9 #[.slice (some ⟨nE, 0, none⟩) 2 2, .agg #[.int .i64 0, .int .i64 1, .int .i64 0]] W fun e w' => ∃ v', e = .returned v' ∧ I3s (fun _ => True) w' v' [kB, kC] ∧ Chg [] W w' := by
  refine (depts_any _ W _ exE kA ((h.same hc).eds) (by decide) exE_ok (by simp [kA, QKok, In64])).mono ?_
  rintro e w' ⟨v', l, rfl, hi, hd, hc'⟩
  rw [ex_depts hd] at hi
  exact ⟨v', rfl, hi.imp fun _ _ => trivial, hc'⟩
theorem i3s_same {p : Nat → Prop} {w w' : World} {v : Value} {xs : List I3} (h : I3s p w v xs) (hc : Chg [] w w') : I3s p w' v xs := h.kept (hc.p (S := fun _ => False)) (fun _ _ h => h)
set_option maxRecDepth 100000 in
set_option maxHeartbeats 8000000 in
theorem graphExample_any (w : World) : Calls Try.prog 6 #[] w fun e w' => e = .returned (.bool true) ∧ Chg [] w w' := by
  obtain ⟨w5, hw5⟩ : ∃ q, q = (((w.alloc (.cells #[.int .i64 0, .int .i64 1, .int .i64 0] 24)).alloc (.cells #[.int .i64 0, .int .i64 2, .int .i64 0] 24)).alloc (.cells #[.int .i64 0, .int .i64 3, .int .i64 0] 24)).alloc (.cells #[.int .i64 0, .int .i64 3, .int .i64 0, .int .i64 0, .int .i64 2, .int .i64 0, .int .i64 0, .int .i64 2, .int .i64 0, .int .i64 0, .int .i64 1, .int .i64 0] 37) := ⟨_, rfl⟩
  obtain ⟨nA, hA⟩ : ∃ n, n = w.heap.size := ⟨_, rfl⟩
  obtain ⟨nB, hB⟩ : ∃ n, n = w.heap.size + 1 := ⟨_, rfl⟩
  obtain ⟨nC, hC⟩ : ∃ n, n = w.heap.size + 1 + 1 := ⟨_, rfl⟩
  obtain ⟨nE, hE⟩ : ∃ n, n = w.heap.size + 1 + 1 + 1 := ⟨_, rfl⟩
  have hX : ExW w5 nA nB nC nE := by
    rw [hw5, hA, hB, hC, hE]
    refine ⟨?_, ?_, ?_, heap_at _ _ _ (by simp)⟩
    · exact (heap_past _ _ _ (by simp <;> omega)).trans ((heap_past _ _ _ (by simp <;> omega)).trans ((heap_past _ _ _ (by simp <;> omega)).trans (heap_at _ _ _ rfl)))
    · exact (heap_past _ _ _ (by simp <;> omega)).trans ((heap_past _ _ _ (by simp <;> omega)).trans (heap_at _ _ _ (by simp)))
    · exact (heap_past _ _ _ (by simp <;> omega)).trans (heap_at _ _ _ (by simp))
  have hc5 : Chg [] w w5 := by rw [hw5]; exact ((((Chg.refl [] w).alloc _).alloc _).alloc _).alloc _
  obtain ⟨s0, s1, s2, s3, s4, s5, s6, s7, s8⟩ := hX.cells
  have lA := lt_of_cell s0
  have lB := lt_of_cell s3
  have lC := lt_of_cell s6
  have HX := Lib.hid hX
  have Hc5 := Lib.hid hc5
  have HW := Lib.hid (And.intro hw5 (And.intro hA (And.intro hB (And.intro hC hE))))
  clear hX hc5 hw5 hA hB hC hE
  go_enter Try.func6, Try.ntmps6
  go_upto_region 3 with (fail)
  rw [← HW.out.1, ← HW.out.2.2.2.2, ← HW.out.2.2.2.1, ← HW.out.2.2.1, ← HW.out.2.1]
  go_region_held3 (fun W => W.cell? ⟨nA, 0, none⟩ = some (.int .i64 0) ∧ W.cell? ⟨nA, 1, none⟩ = some (.int .i64 1) ∧ W.cell? ⟨nA, 2, none⟩ = some (.int .i64 0) ∧ W.cell? ⟨nB, 0, none⟩ = some (.int .i64 0) ∧ W.cell? ⟨nB, 1, none⟩ = some (.int .i64 2) ∧ W.cell? ⟨nB, 2, none⟩ = some (.int .i64 0) ∧ W.cell? ⟨nC, 0, none⟩ = some (.int .i64 0) ∧ W.cell? ⟨nC, 1, none⟩ = some (.int .i64 3) ∧ W.cell? ⟨nC, 2, none⟩ = some (.int .i64 0))
    (first | (go_keep; done) | (exact (HX.out.same C5.out).cells) | (exact (HX.out.same C4.out).cells) | (exact (HX.out.same C3.out).cells) | (exact (HX.out.same C2.out).cells))
    (first
      | (go_at_call 7; (with_reducible refine Calls.mono (exDeps HX.out _ ?_) ?_); (first | exact (Chg.refl [] w5).drew | fail); rintro e w2 ⟨v2, rfl, hi, hc⟩; have Hi2 := Lib.hid hi; have C2 : Hid (Chg [] w5 w2) := Lib.hid (((Chg.refl [] w5).drew).trans hc); clear hi hc)
      | (go_at_call 7; (with_reducible refine Calls.mono (exDeps HX.out _ ?_) ?_); (first | exact ((Chg.refl [] w5).drew).alloc _ | fail); rintro e w2 ⟨v2, rfl, hi, hc⟩; have Hi2 := Lib.hid hi; have B2 : Hid (w2.heap[w5.heap.size]? = some (k2Obj kA kB)) := Lib.hid ((hc.block w5.heap.size (by simp) (by simp)).trans (heap_at _ _ w5.heap.size (by simp))); have C2 : Hid (Chg [] w5 w2) := Lib.hid ((((Chg.refl [] w5).drew).alloc _).trans hc); clear hi hc)
      | (go_at_call 14; (with_reducible refine Calls.mono (exEq kA kB ?_ ?_) ?_); (first | exact i3s_same Hi2.out ((Chg.refl [] w2).alloc _) | fail); (first | exact heap_at w2 _ _ rfl | fail); rintro e w3 ⟨rfl, hc⟩; have C3 : Hid (Chg [] w5 w3) := Lib.hid ((C2.out.alloc _).trans hc); clear hc)
      | (go_at_call 14; (with_reducible refine Calls.mono (exEq kA kB ?_ ?_) ?_); (first | exact Hi2.out | fail); (first | exact B2.out | fail); rintro e w3 ⟨rfl, hc⟩; have C3 : Hid (Chg [] w5 w3) := Lib.hid (C2.out.trans hc); clear hc)
      | (go_at_call 9; (with_reducible refine Calls.mono (exDepts HX.out _ ?_) ?_); (first | exact C3.out | fail); rintro e w4 ⟨v4, rfl, hi, hc⟩; have Hi4 := Lib.hid hi; have C4 : Hid (Chg [] w5 w4) := Lib.hid ((C3.out).trans hc); clear hi hc)
      | (go_at_call 9; (with_reducible refine Calls.mono (exDepts HX.out _ ?_) ?_); (first | exact (C3.out).alloc _ | fail); rintro e w4 ⟨v4, rfl, hi, hc⟩; have Hi4 := Lib.hid hi; have B4 : Hid (w4.heap[w3.heap.size]? = some (k2Obj kB kC)) := Lib.hid ((hc.block w3.heap.size (by simp) (by simp)).trans (heap_at _ _ w3.heap.size (by simp))); have C4 : Hid (Chg [] w5 w4) := Lib.hid (((C3.out).alloc _).trans hc); clear hi hc)
      | (go_at_call 14; (with_reducible refine Calls.mono (exEq kB kC ?_ ?_) ?_); (first | exact i3s_same Hi4.out ((Chg.refl [] w4).alloc _) | fail); (first | exact heap_at w4 _ _ rfl | fail); rintro e w6 ⟨rfl, hc⟩; have C5 : Hid (Chg [] w5 w6) := Lib.hid ((C4.out.alloc _).trans hc); clear hc)
      | (go_at_call 14; (with_reducible refine Calls.mono (exEq kB kC ?_ ?_) ?_); (first | exact Hi4.out | fail); (first | exact B4.out | fail); rintro e w6 ⟨rfl, hc⟩; have C5 : Hid (Chg [] w5 w6) := Lib.hid (C4.out.trans hc); clear hc))
  all_goals
    go_wp2_with fail
    go_ret
    exact ⟨rfl, Hc5.out.trans C5.out⟩
end Go.Proofs.Ytenjjiilcdgimaa
