/- slices.SortFunc at keys. -/
import Derived.Test.YtenjjiilcdgimaaDgJ
import Derived.Test.YtenjjiilcdgimaaDgShelf
namespace Go.Proofs.Ytenjjiilcdgimaa
open Go.RowKit Go.ChangeMaps Go.MapKept Go.Shelf Go.Lib Go.Sort
set_option linter.unusedVariables false
set_option linter.unusedSimpArgs false
theorem sortKeys_any {blk cap : Nat} {w : World} (a : Array I3) (hH : HoldsK encK 3 w blk 0 a) (hblk : blk < w.heap.size) (hsz : a.size < 4611686018427387904) :
    Calls Try.prog 28 #[.slice (some ⟨blk, 0, none⟩) a.size cap, .func (.func 29) #[] #[]] w fun e w' =>
      e = .returned (.tuple #[]) ∧ ∃ a' : Array I3, a'.size = a.size ∧ a'.toList.Perm a.toList ∧ (∀ i j, i < j → j < a.size → ¬ cmpK a'[j]! a'[i]! < 0) ∧ HoldsK encK 3 w' blk 0 a' ∧ Chg [blk] w w' := by
  have hcon := AnyQ.slices_SortFunc Try.laysSlF06_f28 3 (fun w => by kernel_rfl) (fun w => by kernel_rfl) encK (fun _ => rfl) (fun x v hv => by simp [encK] at hv; rcases hv with rfl | rfl | rfl <;> rfl) cmpK swoK 29 #[] blk 0 cap a w enterCmpK cmpLaysK hH hblk hsz
  refine hcon.mono ?_
  rintro e w' ⟨rfl, a', n, os, ⟨hs, _, hp⟩, hso, rfl⟩
  refine ⟨rfl, a', hs, ?_, fun i j hij hj => ?_, ?_, sortW_chg _ _ _ _ _ _ _ _⟩
  · have e1 : a'.extract 0 a.size = a' := by rw [← hs]; simp
    have e2 : a.extract 0 a.size = a := by simp
    rw [e1, e2] at hp
    exact hp
  · have := hso i j (Nat.zero_le _) hij hj
    unfold ltOf at this
    simpa using this
  · exact holdsK_grow _ _ _ _ _ _ _ (by simp [putRowK, putRow, mapBlock, ahead]; exact hblk) (holdsK_putRowK _ _ _ _ _ a a' (holdsK_ahead _ _ _ _ _ _ _ hH) hs)
end Go.Proofs.Ytenjjiilcdgimaa
