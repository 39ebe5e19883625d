/- A token: New, Cancel, Canceled. -/
import Derived.Test.YtdeodcomlakpaaaGa
import Derived.Laws.LoneSync
namespace Go.Proofs.Ytdeodcomlakpaaa
open Go.RowKit
set_option linter.unusedVariables false
set_option linter.unusedSimpArgs false
/-- a token's block -/
def tokObj (v : Int) : Obj := .cells #[.int .u32 v] 120 (0, 0)
theorem tokNew (w : World) : Calls Try.prog 36 #[] w fun e w' => e = .returned (.pointer (some ⟨w.heap.size, 0, none⟩)) ∧ w' = w.alloc (tokObj 0) := by
  go_enter Try.func36, Try.ntmps36
  go_wp2
  go_ret
  exact ⟨rfl, rfl⟩
theorem tokLoad (w : World) (g : Nat) (v : Int) (h : w.cell? ⟨g, 0, none⟩ = some (.int .u32 v)) : Calls Try.prog 69 #[.pointer (some ⟨g, 0, none⟩)] w fun e w' => e = .returned (.bool (!decide (v = 0))) ∧ w' = w := by
  have hl := run_call_load (P := Try.prog) Try.func92 (by kernel_rfl) (by kernel_rfl) (by kernel_rfl) .u32 (by kernel_rfl) h
  go_enter Try.func69, Try.ntmps69
  go_wp2
  go_ret
  exact ⟨rfl, rfl⟩
theorem tokCanceled (w : World) (g : Nat) (v : Int) (h : w.cell? ⟨g, 0, none⟩ = some (.int .u32 v)) : Calls Try.prog 37 #[.pointer (some ⟨g, 0, none⟩)] w fun e w' => e = .returned (.bool (!decide (v = 0))) ∧ w' = w := by
  go_enter Try.func37, Try.ntmps37
  go_wp2_with fail
  refine (tokLoad _ _ _ h).mono ?_
  rintro e w' ⟨rfl, rfl⟩
  go_wp2
  go_ret
  exact ⟨rfl, rfl⟩
theorem nilCanceled (w : World) : Calls Try.prog 37 #[.pointer none] w fun e w' => e = .returned (.bool false) ∧ w' = w := by
  go_enter Try.func37, Try.ntmps37
  go_wp2
  go_ret
  exact ⟨rfl, rfl⟩
theorem b32_yes (w : World) : Calls Try.prog 94 #[.bool true] w fun e w' => e = .returned (.int .u32 1) ∧ w' = w := by
  go_enter Try.func94, Try.ntmps94
  go_wp2
  go_ret
  exact ⟨rfl, rfl⟩
theorem tokStore (w : World) (g : Nat) (v : Int) (h : w.heap[g]? = some (tokObj v)) : Calls Try.prog 70 #[.pointer (some ⟨g, 0, none⟩), .bool true] w fun e w' => e = .returned (.tuple #[]) ∧ w'.heap[g]? = some (tokObj 1) ∧ Chg [g] w w' := by
  have h0 : w.cell? ⟨g, 0, none⟩ = some (.int .u32 v) := cell_of_heap h rfl
  have hz : w.frozen? ⟨g, 0, none⟩ = false := frozen_of_heap h
  have hs := run_call_store (P := Try.prog) Try.func93 (by kernel_rfl) (by kernel_rfl) (by kernel_rfl) (by kernel_rfl) (y := 1) (k := .u32) (w := w.drew) (a := ⟨g, 0, none⟩) h0 hz
  go_enter Try.func70, Try.ntmps70
  go_wp2_with fail
  go_region_with ((go_at_call 94; refine (b32_yes _).mono ?_; rintro e w' ⟨rfl, rfl⟩))
  all_goals
    go_wp2_with fail
    go_end0
    exact ⟨rfl, heap_setCell_same h _, ((Chg.refl [g] w).setCell (Or.inl (by simp)) _).drew⟩
theorem tokCancel (w : World) (g : Nat) (v : Int) (h : w.heap[g]? = some (tokObj v)) : Calls Try.prog 38 #[.pointer (some ⟨g, 0, none⟩)] w fun e w' => e = .returned (.tuple #[]) ∧ w'.heap[g]? = some (tokObj 1) ∧ Chg [g] w w' := by
  go_enter Try.func38, Try.ntmps38
  go_wp2_with fail
  refine (tokStore _ _ _ h).mono ?_
  rintro e w' ⟨rfl, h1, h2⟩
  go_wp2
  go_end0
  exact ⟨rfl, h1, h2⟩
end Go.Proofs.Ytdeodcomlakpaaa
