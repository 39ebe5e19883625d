/- Reading texts out of the row's arguments. -/
import Derived.Test.YticfigfipbcmhaaGreatDoorWiOpen
import Derived.Test.YticfigfipbcmhaaGreatDoorOpen
namespace Go.Proofs.YticfigfipbcmhaaGreatDoor
open Go.ChangeShapes Go.WideShapes Go.ChangeAt Go.RowKit Go.Deep
set_option linter.unusedVariables false
theorem Tryz.laidOut : laidOutB Tryz.prog = true := by kernel_rfl
theorem Tryz.cellsString : Tryz.prog.cellsOf 9 = 1 := by kernel_rfl
section
variable {H : Type} {enc : TypeId × Value → H} {W : World}
theorem open_strs {fuel : Nat} {cs : List Value} {x : DataW H × List MemPlace} (h : DataW.trod enc Tryz.prog W 0 (fun _ => true) true fuel 22 cs = some x) :
    ∃ v xs, cs = [v] ∧ StrsP (fun g => g < W.heap.size) W v xs ∧ ∀ e ∈ xs, e.size ≤ maxLen := by
  obtain ⟨a, cap, xs, rfl, h1, h2, h3⟩ := open_sl Tryz.underlying22 Tryz.cellsString (fun (z : ByteArray) ad => ad.spot = none ∧ rdStr W ad z ∧ z.size ≤ maxLen) ⟨#[]⟩ (fun z ad h => h.1)
    (fun n ad cs y hc hy => by
      obtain ⟨v, rfl, hv⟩ := cells_one hc
      obtain ⟨z1, h1, _, hsz⟩ := DataW.trod_string Tryz.underlying9 hy
      simp only [List.cons.injEq, and_true] at h1
      subst h1
      exact ⟨z1, spot_of_cell hv, hv, hsz⟩) h
  refine ⟨_, xs, rfl, ⟨a, cap, rfl, h1, h2, fun h0 => ?_⟩, fun z hz => ?_⟩
  · obtain ⟨g, off, rfl, hc⟩ := h3 h0
    exact ⟨g, off, rfl, lt_of_cell (hc 0 h0).2.1, fun j hj => by have := (hc j hj).2.1; simpa [hj] using this⟩
  · obtain ⟨i, hi, rfl⟩ := List.getElem_of_mem hz
    obtain ⟨g, off, rfl, hc⟩ := h3 (by omega)
    have := (hc i hi).2.2
    simpa [hi] using this
end
end Go.Proofs.YticfigfipbcmhaaGreatDoor
