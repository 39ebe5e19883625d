/- Reading the Filewatch laws' arguments: events, file names. -/
import Derived.Test.YtdekngkcojfhmaaFwN
import Derived.Test.YtdekngkcojfhmaaFwO
import Derived.Test.YtdekngkcojfhmaaOpen
namespace Go.Proofs.Ytdekngkcojfhmaa
open Go.ChangeShapes Go.WideShapes Go.ChangeAt Go.RowKit Go.Deep
set_option linter.unusedVariables false
theorem Try.laidOut : laidOutB Try.prog = true := by kernel_rfl
theorem Try.own : ownKnob Try.prog.godebug = none := by kernel_rfl
theorem Try.cellsInt : Try.prog.cellsOf 3 = 1 := by kernel_rfl
theorem Try.cellsString : Try.prog.cellsOf 9 = 1 := by kernel_rfl
theorem Try.cellsEv : Try.prog.cellsOf 33 = 3 := by kernel_rfl
section
variable {H : Type} {enc : TypeId × Value → H} {W : World}
theorem open_evs {fuel : Nat} {cs : List Value} {x : DataW H × List MemPlace} (h : DataW.trod enc Try.prog W 0 (fun _ => true) true fuel 22 cs = some x) :
    ∃ v xs, cs = [v] ∧ EvsP (fun g => g < W.heap.size) W v xs ∧ ∀ e ∈ xs, e.2.1.size ≤ maxLen := by
  obtain ⟨a, cap, xs, rfl, h1, h2, h3⟩ := open_sl Try.underlying22 Try.cellsEv (fun (z : FEv) ad => ad.spot = none ∧ rdEv W ad z ∧ z.2.1.size ≤ maxLen) ev0 (fun z ad h => h.1)
    (fun n ad cs y hc hy => by
      obtain ⟨hl, hat⟩ := cells_at hc
      obtain ⟨y0, y1, y2, n', hyx, hlen, t0, t1, t2⟩ := trod_struct3 Try.underlying33 hy
      simp only [Try.cellsInt, Try.cellsString] at t0 t1 t2
      match cs, hl with
      | [c0, c1, c2], _ =>
        obtain ⟨z0, h0, _⟩ := DataW.trod_int Try.underlying3 t0
        obtain ⟨z1, h1, _, hsz⟩ := DataW.trod_string Try.underlying9 t1
        obtain ⟨z2, h2, _⟩ := DataW.trod_int Try.underlying3 t2
        simp only [List.drop_zero, List.drop_succ_cons, List.take_succ_cons, List.take_zero, List.cons.injEq, and_true] at h0 h1 h2
        subst h0 h1 h2
        have e0 := hat 0 (by omega)
        have e1 := hat 1 (by omega)
        have e2 := hat 2 (by omega)
        have hs : ad.spot = none := spot_of_cell (W := W) (v := .int .i64 z0) (by simpa [Addr.add] using e0)
        obtain ⟨b, off, spot⟩ := ad
        simp only at hs
        subst hs
        rw [Addr.add_lit] at e0 e1 e2
        exact ⟨(z0, z1, z2), rfl, ⟨e0, e1, e2⟩, hsz⟩) h
  refine ⟨_, xs, rfl, ⟨a, cap, rfl, h1, h2, fun h0 => ?_⟩, fun z hz => ?_⟩
  · obtain ⟨g, off, rfl, hc⟩ := h3 h0
    exact ⟨g, off, rfl, lt_of_cell (hc 0 h0).2.1.1, fun j hj => by have := (hc j hj).2.1; simpa [hj] using this⟩
  · obtain ⟨i, hi, rfl⟩ := List.getElem_of_mem hz
    obtain ⟨g, off, rfl, hc⟩ := h3 (by omega)
    have := (hc i hi).2.2
    simpa [hi] using this
theorem open_strs {fuel : Nat} {cs : List Value} {x : DataW H × List MemPlace} (h : DataW.trod enc Try.prog W 0 (fun _ => true) true fuel 35 cs = some x) :
    ∃ v xs, cs = [v] ∧ StrsP (fun g => g < W.heap.size) W v xs ∧ ∀ e ∈ xs, e.size ≤ maxLen := by
  obtain ⟨a, cap, xs, rfl, h1, h2, h3⟩ := open_sl Try.underlying35 Try.cellsString (fun (z : ByteArray) ad => ad.spot = none ∧ rdStr W ad z ∧ z.size ≤ maxLen) ⟨#[]⟩ (fun z ad h => h.1)
    (fun n ad cs y hc hy => by
      obtain ⟨v, rfl, hv⟩ := cells_one hc
      obtain ⟨z1, h1, _, hsz⟩ := DataW.trod_string Try.underlying9 hy
      simp only [List.cons.injEq, and_true] at h1
      subst h1
      exact ⟨z1, spot_of_cell hv, hv, hsz⟩) h
  refine ⟨_, xs, rfl, ⟨a, cap, rfl, h1, h2, fun h0 => ?_⟩, fun z hz => ?_⟩
  · obtain ⟨g, off, rfl, hc⟩ := h3 h0
    exact ⟨g, off, rfl, lt_of_cell (hc 0 h0).2.1, fun j hj => by have := (hc j hj).2.1; simpa [hj] using this⟩
  · obtain ⟨i, hi, rfl⟩ := List.getElem_of_mem hz
    obtain ⟨g, off, rfl, hc⟩ := h3 (by omega)
    have := (hc i hi).2.2
    simpa [hi] using this
end
end Go.Proofs.Ytdekngkcojfhmaa
