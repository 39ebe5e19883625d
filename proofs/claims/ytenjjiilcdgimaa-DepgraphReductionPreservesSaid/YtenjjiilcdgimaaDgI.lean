/- depgraph.compareKeys with its world told. -/
import Derived.Test.YtenjjiilcdgimaaDgG
import Derived.Test.YtenjjiilcdgimaaDgH
namespace Go.Proofs.Ytenjjiilcdgimaa
open Go.RowKit Go.ChangeMaps Go.MapKept Go.Shelf
set_option linter.unusedVariables false
set_option linter.unusedSimpArgs false
set_option maxRecDepth 100000 in
set_option maxHeartbeats 4000000 in
theorem compareKeys_exact (a b : I3) (w : World) : Calls Try.prog 29 #[i3v a, i3v b] w fun e w' => e = .returned (.int .i64 (cmpK a b)) ∧ ∃ o, w' = (((w.alloc (kObj a)).alloc (kObj b)).alloc o).drew := by
  obtain ⟨a0, a1, a2⟩ := a
  obtain ⟨b0, b1, b2⟩ := b
  have HC := Lib.hid compare_any
  unfold i3v
  simp only
  obtain ⟨c0, hc0⟩ : ∃ x, cmpI a0 b0 = x := ⟨_, rfl⟩
  obtain ⟨c1, hc1⟩ : ∃ x, cmpI a1 b1 = x := ⟨_, rfl⟩
  obtain ⟨c2, hc2⟩ : ∃ x, cmpI a2 b2 = x := ⟨_, rfl⟩
  have Hc := Lib.hid (show cmpK (a0, a1, a2) (b0, b1, b2) = or3 c0 c1 c2 by unfold cmpK or3; simp only [hc0, hc1, hc2])
  have H0 := Lib.hid (show ∀ W, Calls Try.prog 38 #[.int .i64 a0, .int .i64 b0] W fun e w' => e = .returned (.int .i64 c0) ∧ w' = W from fun W => by rw [← hc0]; exact compare_any _ _ W)
  have H1 := Lib.hid (show ∀ W, Calls Try.prog 38 #[.int .i64 a1, .int .i64 b1] W fun e w' => e = .returned (.int .i64 c1) ∧ w' = W from fun W => by rw [← hc1]; exact compare_any _ _ W)
  have H2 := Lib.hid (show ∀ W, Calls Try.prog 38 #[.int .i64 a2, .int .i64 b2] W fun e w' => e = .returned (.int .i64 c2) ∧ w' = W from fun W => by rw [← hc2]; exact compare_any _ _ W)
  clear hc0 hc1 hc2 HC
  obtain ⟨w1, hw1⟩ : ∃ x, x = (w.alloc (.cells #[.int .i64 a0, .int .i64 a1, .int .i64 a2] 24)).alloc (.cells #[.int .i64 b0, .int .i64 b1, .int .i64 b2] 24) := ⟨_, rfl⟩
  have hch : Chg [] w w1 := by rw [hw1]; exact ((Chg.refl [] w).alloc _).alloc _
  have hba : w1.heap[w.heap.size]? = some (.cells #[.int .i64 a0, .int .i64 a1, .int .i64 a2] 24 (0, 0)) := by rw [hw1, heap_past _ _ _ (by simp)]; exact heap_at _ _ _ rfl
  have hbb : w1.heap[w.heap.size + 1]? = some (.cells #[.int .i64 b0, .int .i64 b1, .int .i64 b2] 24 (0, 0)) := by rw [hw1]; exact heap_at _ _ _ (by simp)
  obtain ⟨na, hna⟩ : ∃ n, n = w.heap.size := ⟨_, rfl⟩
  obtain ⟨nb, hnb⟩ : ∃ n, n = w.heap.size + 1 := ⟨_, rfl⟩
  rw [← hna] at hba
  rw [← hnb] at hbb
  have x0 : w1.cell? ⟨na, 0, none⟩ = some (.int .i64 a0) := cell_of_heap hba rfl
  have x1 : w1.cell? ⟨na, 1, none⟩ = some (.int .i64 a1) := cell_of_heap hba rfl
  have x2 : w1.cell? ⟨na, 2, none⟩ = some (.int .i64 a2) := cell_of_heap hba rfl
  have y0 : w1.cell? ⟨nb, 0, none⟩ = some (.int .i64 b0) := cell_of_heap hbb rfl
  have y1 : w1.cell? ⟨nb, 1, none⟩ = some (.int .i64 b1) := cell_of_heap hbb rfl
  have y2 : w1.cell? ⟨nb, 2, none⟩ = some (.int .i64 b2) := cell_of_heap hbb rfl
  have lx := lt_of_cell x0
  have ly := lt_of_cell y0
  have Hw1 := Lib.hid hw1
  have Hch := Lib.hid hch
  have Hn := Lib.hid (And.intro hna hnb)
  clear hw1 hch hba hbb hna hnb
  go_enter Try.func29, Try.ntmps29
  go_upto_region 1 with (fail)
  rw [← Hw1.out, ← Hn.out.2, ← Hn.out.1]
  go_region_held3 (fun w' => w'.cell? ⟨na, 0, none⟩ = some (.int .i64 a0) ∧ w'.cell? ⟨na, 1, none⟩ = some (.int .i64 a1) ∧ w'.cell? ⟨na, 2, none⟩ = some (.int .i64 a2) ∧ w'.cell? ⟨nb, 0, none⟩ = some (.int .i64 b0) ∧ w'.cell? ⟨nb, 1, none⟩ = some (.int .i64 b1) ∧ w'.cell? ⟨nb, 2, none⟩ = some (.int .i64 b2))
    (first | (go_keep; done) | assumption)
    (first
      | (go_at_call 38; (with_reducible refine (H0.out _).mono ?_); rintro e w' ⟨rfl, rfl⟩)
      | (go_at_call 38; (with_reducible refine (H1.out _).mono ?_); rintro e w' ⟨rfl, rfl⟩)
      | (go_at_call 38; (with_reducible refine (H2.out _).mono ?_); rintro e w' ⟨rfl, rfl⟩)
      | (go_at_call 37; refine (or_h c0 c1 c2 w1.heap.size _ (T := 3) (heap_atD w1 _ _ rfl)).mono ?_; rintro e w' ⟨rfl, rfl⟩))
  all_goals
    try simp only [List.getElem_toArray, List.getElem_cons_zero, List.getElem_cons_succ]
    go_wp2_with fail
    go_ret
    exact ⟨by rw [Hc.out]; rfl, _, by rw [Hw1.out]; rfl⟩
theorem nx_ok {E : List Ed} (h : EdOk E) (k y : I3) (hy : y ∈ nx E k) : QKok y := (h _ (((nx_spec E k).2.1 y).1 hy)).2
theorem revIf_ok {E : List Ed} (h : EdOk E) (r : Bool) : EdOk (revIf r E) := by
  unfold revIf
  split
  · intro e he
    unfold rev at he
    obtain ⟨d, hd, rfl⟩ := List.mem_map.1 he
    exact ⟨(h d hd).2, (h d hd).1⟩
  · exact h
theorem cmpK_neg (x y : I3) (h : ¬ cmpK x y < 0) (h0 : cmpK x y ≠ 0) : cmpK y x < 0 := by
  rw [cmpK_lt] at *
  rcases ltK_total x y with e | e | e
  · exact absurd e h
  · exact absurd ((cmpK_eq _ _).2 e) h0
  · exact e
end Go.Proofs.Ytenjjiilcdgimaa
