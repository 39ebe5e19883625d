/- Reading the Framing laws' arguments; the row's wrap with the world's shape handed on. -/
import Derived.Test.YtjcalbjblbbinaaDoorFrI
import Derived.Test.YtjcalbjblbbinaaDoorOpen
import Derived.Test.YtjcalbjblbbinaaDoorRows
import Derived.Handed
import Derived.Shelf.Strings.Shaped
namespace Go.Proofs.YtjcalbjblbbinaaDoor
open Go.ChangeShapes Go.WideShapes Go.ChangeAt Go.RowKit Go.Deep
set_option linter.unusedVariables false
theorem Tryd.laidOut : laidOutB Tryd.prog = true := by kernel_rfl
theorem Tryd.own : ownKnob Tryd.prog.godebug = none := by kernel_rfl
theorem Tryd.cellsInt : Tryd.prog.cellsOf 3 = 1 := by kernel_rfl
theorem Tryd.cellsString : Tryd.prog.cellsOf 9 = 1 := by kernel_rfl
section
variable {H : Type} {enc : TypeId × Value → H} {W : World}
theorem open_strs {fuel : Nat} {cs : List Value} {x : DataW H × List MemPlace} (h : DataW.trod enc Tryd.prog W 0 (fun _ => true) true fuel 22 cs = some x) :
    ∃ v xs, cs = [v] ∧ StrsP (fun g => g < W.heap.size) W v xs := by
  obtain ⟨a, cap, xs, rfl, h1, h2, h3⟩ := open_sl Tryd.underlying22 Tryd.cellsString (fun (z : ByteArray) ad => ad.spot = none ∧ rdStr W ad z) ⟨#[]⟩ (fun z ad h => h.1)
    (fun n ad cs y hc hy => by
      obtain ⟨v, rfl, hv⟩ := cells_one hc
      obtain ⟨z1, h1, _, hsz⟩ := DataW.trod_string Tryd.underlying9 hy
      simp only [List.cons.injEq, and_true] at h1
      subst h1
      exact ⟨z1, spot_of_cell hv, hv⟩) h
  refine ⟨_, xs, rfl, a, cap, rfl, h1, h2, fun h0 => ?_⟩
  obtain ⟨g, off, rfl, hc⟩ := h3 h0
  exact ⟨g, off, rfl, lt_of_cell (hc 0 h0).2, fun j hj => by have := (hc j hj).2; simpa [hj] using this⟩
theorem open_intsP {fuel : Nat} {cs : List Value} {x : DataW H × List MemPlace} (h : DataW.trod enc Tryd.prog W 0 (fun _ => true) true fuel 36 cs = some x) :
    ∃ v xs, cs = [v] ∧ IntsP (fun g => g < W.heap.size) W v xs := by
  obtain ⟨a, cap, xs, rfl, h1, h2, h3⟩ := open_sl Tryd.underlying36 Tryd.cellsInt (fun (z : Int) ad => W.cell? ad = some (.int .i64 z)) 0 (fun z ad h => spot_of_cell h)
    (fun n ad cs y hc hy => by
      obtain ⟨v, rfl, hv⟩ := cells_one hc
      obtain ⟨z, hz, _⟩ := DataW.trod_int Tryd.underlying3 hy
      simp only [List.cons.injEq, and_true] at hz
      exact ⟨z, by rw [hv, hz]⟩) h
  refine ⟨_, xs, rfl, a, cap, rfl, h1, h2, fun h0 => ?_⟩
  obtain ⟨g, off, rfl, hc⟩ := h3 h0
  exact ⟨g, off, rfl, lt_of_cell (hc 0 h0), fun j hj => by have := hc j hj; unfold rdInt; simpa [hj] using this⟩
end
theorem ml_shaped {W : World} (h : W.ShapedOpen Tryd.prog) : ML W :=
  Go.Proofs.cell_of_shapedOpen_int (zero := #[.int .i64 0]) (t := 3) h (of_decide_eq_true (by kernel_rfl)) (by kernel_rfl) rfl (by kernel_rfl) (by kernel_rfl) Tryd.underlying3
end Go.Proofs.YtjcalbjblbbinaaDoor
