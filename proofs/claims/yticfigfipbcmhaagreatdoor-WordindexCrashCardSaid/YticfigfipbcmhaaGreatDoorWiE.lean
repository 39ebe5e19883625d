/- wordindex: newEntry. -/
import Derived.Test.YticfigfipbcmhaaGreatDoorWiD
namespace Go.Proofs.YticfigfipbcmhaaGreatDoor
open Go.RowKit Go.ChangeMaps Go.MapKept Go.Shelf
set_option linter.unusedVariables false
set_option linter.unusedSimpArgs false
theorem cell_set_ne {w : World} {a b : Addr} {u : Value} (h : a.block ≠ b.block) : (w.setCell b u).cell? a = w.cell? a := World.cell?_of_block (heap_setCell_ne _ _ _ _ h)
theorem set3 {w6 : World} {n1 n2 : Nat} {u0 u1 u2 : Value} {a b : Option Value} (hne : n1 ≠ n2) (z0 : w6.cell? ⟨n1, 0, none⟩ = a) (z2 : w6.cell? ⟨n1, 2, none⟩ = b) :
    (((w6.setCell ⟨n2, 0, none⟩ u0).setCell ⟨n2, 1, none⟩ u1).setCell ⟨n2, 2, none⟩ u2).cell? ⟨n1, 0, none⟩ = a ∧ (((w6.setCell ⟨n2, 0, none⟩ u0).setCell ⟨n2, 1, none⟩ u1).setCell ⟨n2, 2, none⟩ u2).cell? ⟨n1, 2, none⟩ = b :=
  ⟨(cell_set_ne hne).trans ((cell_set_ne hne).trans ((cell_set_ne hne).trans z0)), (cell_set_ne hne).trans ((cell_set_ne hne).trans ((cell_set_ne hne).trans z2))⟩
set_option maxRecDepth 100000 in
set_option maxHeartbeats 4000000 in
theorem newEntry_any (nm : ByteArray) (ver : Int) (tx : ByteArray) (w : World) (ht : tx.size ≤ 2000) :
    Calls Tryz.prog 16 #[.agg #[.string nm, .int .i64 ver, .string tx]] w fun e w' => ∃ a c, e = .returned (.agg #[.string nm, .int .u32 (ck tx.data.toList), .slice a (words tx).length c]) ∧ StrsP (fun g => w.heap.size ≤ g ∧ g < w'.heap.size) w' (.slice a (words tx).length c) (words tx) ∧ Chg [] w w' := by
  have Hck := Lib.hid (fun W => checksum_any tx W (by omega))
  have Hwd := Lib.hid (fun W => words_any W tx ht)
  obtain ⟨kk, hkk⟩ : ∃ k, k = ((ck tx.data.toList : Nat) : Int) := ⟨_, rfl⟩
  rw [← hkk] at Hck ⊢
  clear hkk
  obtain ⟨w1, hw1⟩ : ∃ q, q = (w.alloc (.cells #[.string nm, .int .i64 ver, .string tx] 34)).alloc (.cells #[.string ⟨#[]⟩, .int .u32 0, .slice none 0 0] 40) := ⟨_, rfl⟩
  obtain ⟨n1, hn1⟩ : ∃ n, n = w.heap.size := ⟨_, rfl⟩
  obtain ⟨n2, hn2⟩ : ∃ n, n = w.heap.size + 1 := ⟨_, rfl⟩
  have hc1 : Chg [] w w1 := by rw [hw1]; exact ((Chg.refl [] w).alloc _).alloc _
  have hb1 : w1.heap[n1]? = some (.cells #[.string nm, .int .i64 ver, .string tx] 34 (0, 0)) := by rw [hw1, hn1]; exact (heap_past _ _ _ (by simp)).trans (heap_at _ _ _ rfl)
  have hb2 : w1.heap[n2]? = some (.cells #[.string ⟨#[]⟩, .int .u32 0, .slice none 0 0] 40 (0, 0)) := by rw [hw1, hn2]; exact heap_at _ _ _ (by simp)
  have x0 : w1.cell? ⟨n1, 0, none⟩ = some (.string nm) := cell_of_heap hb1 rfl
  have x1 : w1.cell? ⟨n1, 1, none⟩ = some (.int .i64 ver) := cell_of_heap hb1 rfl
  have x2 : w1.cell? ⟨n1, 2, none⟩ = some (.string tx) := cell_of_heap hb1 rfl
  have y0 : w1.cell? ⟨n2, 0, none⟩ = some (.string ⟨#[]⟩) := cell_of_heap hb2 rfl
  have y1 : w1.cell? ⟨n2, 1, none⟩ = some (.int .u32 0) := cell_of_heap hb2 rfl
  have y2 : w1.cell? ⟨n2, 2, none⟩ = some (.slice none 0 0) := cell_of_heap hb2 rfl
  have f2 : ∀ i, w1.frozen? ⟨n2, i, none⟩ = false := fun i => frozen_of_heap hb2
  have lx := lt_of_cell x0
  have ly := lt_of_cell y0
  have hne : n1 ≠ n2 := by omega
  have hge : w.heap.size ≤ n2 := by omega
  have HW := Lib.hid (And.intro hw1 (And.intro hn1 hn2))
  have H1 := Lib.hid (And.intro hc1 (And.intro hb1 hb2))
  clear hw1 hn1 hn2 hc1 hb1 hb2
  go_enter Tryz.func16, Tryz.ntmps16
  go_upto_region 1 with (fail)
  rw [← HW.out.1, ← HW.out.2.2, ← HW.out.2.1]
  go_region_held3 (fun W => W.cell? ⟨n1, 0, none⟩ = some (.string nm) ∧ W.cell? ⟨n1, 2, none⟩ = some (.string tx))
    (first | (go_keep; done) | (exact ⟨z0, z2⟩) | (exact set3 hne z0 z2))
    (first
      | (go_at_call 10; (with_reducible refine (Hck.out _).mono ?_); rintro e w4 ⟨rfl, rfl⟩)
      | (go_at_call 33; (with_reducible refine (Hwd.out _).mono ?_); rintro e w6 ⟨a6, c6, rfl, hs, hc⟩; have hc6 : Chg [] w1 w6 := (Chg.refl [] w1).drew.trans hc; have e1 := (hc6.block _ (lt_of_obj H1.out.2.1) (by simp)).trans H1.out.2.1; have e2 := (hc6.block _ (lt_of_obj H1.out.2.2) (by simp)).trans H1.out.2.2; have z0 : w6.cell? ⟨n1, 0, none⟩ = some (.string nm) := cell_of_heap e1 rfl; have z2 : w6.cell? ⟨n1, 2, none⟩ = some (.string tx) := cell_of_heap e1 rfl; have u0 : w6.cell? ⟨n2, 0, none⟩ = some (.string ⟨#[]⟩) := cell_of_heap e2 rfl; have u1 : w6.cell? ⟨n2, 1, none⟩ = some (.int .u32 0) := cell_of_heap e2 rfl; have u2 : w6.cell? ⟨n2, 2, none⟩ = some (.slice none 0 0) := cell_of_heap e2 rfl; have v0 : w6.frozen? ⟨n2, 0, none⟩ = false := frozen_of_heap e2; have v1 : w6.frozen? ⟨n2, 1, none⟩ = false := frozen_of_heap e2; have v2 : w6.frozen? ⟨n2, 2, none⟩ = false := frozen_of_heap e2; have l6 := lt_of_cell u0; have H6 := Lib.hid (And.intro hs (And.intro hc6 e2)); clear hs hc hc6 e1 e2))
  all_goals
    go_wp2_with fail
    obtain ⟨hs, hc6, e2⟩ := H6.out
    obtain ⟨w9, hw9⟩ : ∃ q, q = ((w6.setCell ⟨n2, 0, none⟩ (.string nm)).setCell ⟨n2, 1, none⟩ (.int .u32 kk)).setCell ⟨n2, 2, none⟩ (.slice a6 (words tx).length c6) := ⟨_, rfl⟩
    have hb9 : w9.heap[n2]? = some (.cells #[.string nm, .int .u32 kk, .slice a6 (words tx).length c6] 40 (0, 0)) := by
      rw [hw9]
      exact heap_setCell_same (heap_setCell_same (heap_setCell_same e2 _) _) _
    have hc9 : Chg [n2] w6 w9 := by
      rw [hw9]
      exact (((Chg.refl [n2] w6).setCell (p := ⟨n2, 0, none⟩) (Or.inl (by simp)) _).setCell (p := ⟨n2, 1, none⟩) (Or.inl (by simp)) _).setCell (p := ⟨n2, 2, none⟩) (Or.inl (by simp)) _
    rw [← hw9]
    have r0 : w9.cell? ⟨n2, 0, none⟩ = some (.string nm) := cell_of_heap hb9 rfl
    have r1 : w9.cell? ⟨n2, 1, none⟩ = some (.int .u32 kk) := cell_of_heap hb9 rfl
    have r2 : w9.cell? ⟨n2, 2, none⟩ = some (.slice a6 (words tx).length c6) := cell_of_heap hb9 rfl
    refine bodyPost_ret (v := .agg #[.string nm, .int .u32 kk, .slice a6 (words tx).length c6]) (by simp [results, Tryz.results16, go_sem, r0, r1, r2]) rfl ⟨a6, c6, rfl, ?_, ?_⟩
    · have l2 := lt_of_obj H1.out.2.2
      have h1 : ∀ g, w1.heap.size ≤ g ∧ g < w6.heap.size → ¬ (g ∈ [n2]) := fun g hg hm => by
        have := List.mem_singleton.1 hm
        omega
      refine (StrsP.kept hs hc9.toP h1).imp fun g hg => ?_
      have := H1.out.1.size
      have := hc9.size
      have hg' : w1.heap.size ≤ g ∧ g < w6.heap.size := hg
      omega
    · exact (H1.out.1.trans hc6).comp hc9 fun g hg => Or.inr (by rw [List.mem_singleton.1 hg]; exact hge)
end Go.Proofs.YticfigfipbcmhaaGreatDoor
