/- Reading slices of ints out of the row's arguments. -/
import Derived.Test.YtlhngcpodkiafaaIntsC
import Derived.Test.YtlhngcpodkiafaaOpen
namespace Go.Proofs.Ytlhngcpodkiafaa
open Go.ChangeShapes Go.WideShapes Go.ChangeAt Go.RowKit Go.Deep
set_option linter.unusedVariables false
theorem Try.laidOut : laidOutB Try.prog = true := by kernel_rfl
theorem Try.own : ownKnob Try.prog.godebug = none := by kernel_rfl
theorem Try.cellsInt : Try.prog.cellsOf 3 = 1 := by kernel_rfl
theorem open_intsC {H : Type} {enc : TypeId × Value → H} {W : World} {fuel : Nat} {cs : List Value} {x : DataW H × List MemPlace} (h : DataW.trod enc Try.prog W 0 (fun _ => true) true fuel 22 cs = some x) :
    ∃ v xs, cs = [v] ∧ IntsC W v xs := by
  obtain ⟨a, cap, xs, rfl, h1, h2, h3⟩ := open_sl Try.underlying22 Try.cellsInt (fun (z : Int) ad => W.cell? ad = some (.int .i64 z)) 0 (fun z ad h => spot_of_cell h)
    (fun n ad cs y hc hy => by
      obtain ⟨v, rfl, hv⟩ := cells_one hc
      obtain ⟨z, hz, _⟩ := DataW.trod_int Try.underlying3 hy
      simp only [List.cons.injEq, and_true] at hz
      exact ⟨z, by rw [hv, hz]⟩) h
  refine ⟨_, xs, rfl, a, cap, rfl, h1, h2, fun i hi => ?_⟩
  obtain ⟨g, off, rfl, hc⟩ := h3 (by omega)
  exact ⟨g, off, rfl, by have := hc i hi; rwa [Nat.mul_one] at this⟩
end Go.Proofs.Ytlhngcpodkiafaa
