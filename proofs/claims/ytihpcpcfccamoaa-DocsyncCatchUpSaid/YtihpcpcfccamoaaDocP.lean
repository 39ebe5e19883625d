/- syncExample. -/
import Derived.Test.YtihpcpcfccamoaaDocO
namespace Go.Proofs.Ytihpcpcfccamoaa
open Go.RowKit
set_option linter.unusedVariables false
set_option linter.unusedSimpArgs false
theorem exNext : docNext 4 (⟨#[97, 98]⟩ : ByteArray) [⟨1, 1, ⟨#[120]⟩⟩] = 0 := by decide
theorem exFits : Fits [⟨1, 1, ⟨#[120]⟩⟩] := fun x hx => by rw [List.mem_singleton.1 hx]; decide
set_option maxRecDepth 100000 in
set_option maxHeartbeats 4000000 in
theorem syncExample_any (w : World) : Calls Try.prog 5 #[] w fun e w' => e = .returned (.bool true) ∧ Chg [] w w' := by
  go_enter Try.func5, Try.ntmps5
  go_wp2_with fail
  refine (rm_new w _ ((Chg.refl [] w).alloc _) w.heap.size ⟨#[97, 98]⟩ 4 30 (heap_at _ _ _ rfl) (by decide) (by decide) (by decide)).mono ?_
  rintro e w1 ⟨rb, rfl, h1⟩
  have H1 := Lib.hid h1
  clear h1
  go_wp2_with fail
  refine (rm_join H1.out 1 (by decide) (by decide) (by decide) (by decide)).mono ?_
  rintro e w2 ⟨rfl, h2, -⟩
  have H2 := Lib.hid h2
  clear h2
  go_wp2_with fail
  refine (rm_join H2.out 2 (by decide) (by decide) (by decide) (by decide)).mono ?_
  rintro e w3 ⟨rfl, h3, -⟩
  have H3 := Lib.hid h3
  clear h3
  go_wp2_with fail
  refine (rm_open H3.out 1 (by decide) (by decide) (by decide) (by decide)).mono ?_
  rintro e w4 ⟨rfl, h4, -⟩
  have H4 := Lib.hid (h4.same ((Chg.refl [] w4).alloc (.cells #[.string ⟨#[100]⟩, .int .i64 4, .string ⟨#[97, 98]⟩] 30 (0, 0))))
  clear h4
  go_wp2_with fail
  refine (rm_open H4.out 2 (by decide) (by decide) (by decide) (by decide)).mono ?_
  rintro e w5 ⟨rfl, h5, -⟩
  have H5 := Lib.hid ((h5.same ((Chg.refl [] w5).alloc (.cells #[.string ⟨#[100]⟩, .int .i64 4, .string ⟨#[97, 98]⟩] 30 (0, 0)))).add (b := w5.heap.size + 1) (a' := (w5.alloc (.cells #[.string ⟨#[100]⟩, .int .i64 4, .string ⟨#[97, 98]⟩] 30 (0, 0))).alloc (.cells #[.int .i64 1, .int .i64 1, .string ⟨#[120]⟩] 56 (0, 0))) (by simp) ((Chg.refl [] _).alloc _))
  clear h5
  go_wp2_with fail
  have hEd : Eds (fun k => k = w5.heap.size + 1) ((w5.alloc (.cells #[.string ⟨#[100]⟩, .int .i64 4, .string ⟨#[97, 98]⟩] 30 (0, 0))).alloc (.cells #[.int .i64 1, .int .i64 1, .string ⟨#[120]⟩] 56 (0, 0))) (.slice (some ⟨w5.heap.size + 1, 0, none⟩) 1 1) [⟨1, 1, ⟨#[120]⟩⟩] := by
    obtain ⟨x0, x1, x2, _, _, _⟩ := three (heap_at (w5.alloc (.cells #[.string ⟨#[100]⟩, .int .i64 4, .string ⟨#[97, 98]⟩] 30 (0, 0))) (.cells #[.int .i64 1, .int .i64 1, .string ⟨#[120]⟩] 56 (0, 0)) (w5.heap.size + 1) (by simp))
    refine ⟨_, 1, rfl, by simp, by unfold maxLen; omega, fun _ => ⟨w5.heap.size + 1, 0, rfl, rfl, fun j hj => ?_⟩⟩
    obtain rfl : j = 0 := by simp at hj; omega
    exact ⟨x0, x1, x2⟩
  refine (rm_edit_ok H5.out (fun k => k = w5.heap.size + 1) (fun k hk => Or.inr (by simp [hk])) 1 _ _ (by decide) (by decide) hEd exFits (by decide) (by decide) exNext (by decide) (by decide)).mono ?_
  rintro e w6 ⟨uv, rfl, hu, h6, -, -⟩
  obtain ⟨au, cu, rfl, hu1, hu2, hu3⟩ := hu
  obtain ⟨g, off, rfl, -, hcc⟩ := hu3 (by decide)
  obtain ⟨r0, _, _, r3, _⟩ := hcc 0 (by decide)
  have e1 : (List.filter (fun t => decide (t ≠ (1 : Int))) ([] ++ [1] ++ [2])).length = 1 := by decide
  have e2 : (List.filter (fun t => decide (t ≠ (1 : Int))) ([] ++ [1] ++ [2]))[0]'(by decide) = 2 := by decide
  rw [e2] at r0
  rw [e1] at hu1 ⊢
  simp only [Nat.zero_mul, Nat.add_zero] at r0 r3
  have hcu : (1 : Int) ≤ cu := by omega
  have C6 := Lib.hid h6.chg
  clear hEd hu3 hcc h6 hu1 hu2 e1 e2
  go_wp2_with fail
  go_ret
  exact ⟨rfl, C6.out⟩
end Go.Proofs.Ytihpcpcfccamoaa
