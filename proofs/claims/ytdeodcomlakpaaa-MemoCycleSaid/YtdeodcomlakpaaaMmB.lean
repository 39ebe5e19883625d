/- Cloning values: the new numbers lie in a new block. -/
import Derived.Test.YtdeodcomlakpaaaMiE
import Derived.Test.YtdeodcomlakpaaaMqN
namespace Go.Proofs.Ytdeodcomlakpaaa.Inp
open Go.RowKit
set_option linter.unusedVariables false
/-- memo.clone -/
theorem memoClone (w : World) (v : Value) (s : ByteArray) (xs : List Int) (h : Ints w v xs) (hl : xs.length * 8 ≤ 140737488355328) :
    Calls Try.prog 67 #[.agg #[v, .string s]] w fun e w' => ∃ a c, e = .returned (.agg #[.slice a xs.length c, .string s]) ∧ Ints w' (.slice a xs.length c) xs ∧ (∀ ad, a = some ad → w.heap.size ≤ ad.block) ∧ Chg [] w w' := by
  obtain ⟨a0, c0, rfl⟩ := h.shape
  have Hh := Lib.hid h
  clear h
  go_enter Try.func67, Try.ntmps67
  go_wp2_with fail
  go_region_held3 (fun w' => w'.cell? ⟨w.heap.size, 0, none⟩ = some (.slice a0 xs.length c0) ∧ w'.cell? ⟨w.heap.size, 1, none⟩ = some (.string s))
    (first | go_keep | (go_split_ands; refine ⟨?_, ?_⟩ <;> (rw [hc1.cell (by simp; try omega) (by simp)]; simp [go_sem, World.cell?_alloc_past])))
    ((go_at_call 88; refine (slicesClone _ _ xs (Hh.out.same (by exact (((Chg.refl [] w).alloc _).alloc _).drew)) hl).mono ?_; rintro e w1 ⟨a1, c1, rfl, hi1, hn1, hc1⟩; have q1 := hc1.block (w.heap.size + 1) (by simp) (by simp); have r0 : w1.cell? ⟨w.heap.size + 1, 0, none⟩ = some (.slice none 0 0) := (World.cell?_of_block q1).trans (by simp [go_sem]); have r1 : w1.cell? ⟨w.heap.size + 1, 1, none⟩ = some (.string ⟨#[]⟩) := (World.cell?_of_block q1).trans (by simp [go_sem]); have f0 : w1.frozen? ⟨w.heap.size + 1, 0, none⟩ = false := (World.frozen?_of_block q1).trans (by simp [go_sem]); have f1 : w1.frozen? ⟨w.heap.size + 1, 1, none⟩ = false := (World.frozen?_of_block q1).trans (by simp [go_sem])))
  go_wp2
  refine bodyPost_ret (v := .agg #[.slice a1 xs.length c1, .string s]) (by simp [results, Try.results67, go_sem, r0, r1]) rfl ⟨a1, c1, rfl, ?_, fun ad ha => by have := hn1 ad ha; simp at this; omega, ?_⟩
  · exact hi1.kept (((Chg.refl [w.heap.size + 1] _).setCell (Or.inl (by simp)) _).setCell (Or.inl (by simp)) _) (fun k hk => by
      obtain rfl : k = w.heap.size + 1 := by simpa using hk
      intro c fr
      rw [q1, show ∀ w0 : World, w0.drew.heap = w0.heap from fun _ => rfl, show w.heap.size + 1 = (w.alloc (.cells #[.slice a0 xs.length c0, .string s] 31)).heap.size from by simp, heap_alloc_new]
      simp)
  · exact (((((Chg.refl [] w).alloc _).alloc _).drew.new hc1).setCell (Or.inr (by simp)) _).setCell (Or.inr (by simp)) _
end Go.Proofs.Ytdeodcomlakpaaa.Inp
