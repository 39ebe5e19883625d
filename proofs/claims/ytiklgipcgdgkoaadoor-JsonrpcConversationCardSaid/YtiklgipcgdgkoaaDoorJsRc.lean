/- Reading the Jsonrpc laws' scripts. -/
import Derived.Test.YtiklgipcgdgkoaaDoorJvR
namespace Go.Proofs.YtiklgipcgdgkoaaDoor.Jv
open Go.ChangeShapes Go.WideShapes Go.ChangeAt Go.RowKit Go.Deep
set_option linter.unusedVariables false
set_option linter.unusedSimpArgs false
theorem wf64 {n : Int} (h : (Lit.int .i64 n).wf = true) : -9223372036854775808 ≤ n ∧ n ≤ 9223372036854775807 := by
  have h1 : IntKind.i64.min = -9223372036854775808 := by decide
  have h2 : IntKind.i64.max = 9223372036854775807 := by decide
  have h3 := h
  simp only [Lit.wf, Bool.and_eq_true, decide_eq_true_eq] at h3
  rw [h1, h2] at h3
  exact h3
theorem cellsStep : Tryd.prog.cellsOf 47 = 3 := by kernel_rfl
section
variable {H : Type} {enc : TypeId × Value → H} {W : World}
theorem open_steps {fuel : Nat} {cs : List Value} {x : DataW H × List MemPlace} (h : DataW.trod enc Tryd.prog W 0 (fun _ => true) true fuel 40 cs = some x) :
    ∃ v xs, cs = [v] ∧ I3s (fun g => g < W.heap.size) W v xs ∧ ∀ x ∈ xs, -9223372036854775808 ≤ x.2.1 ∧ x.2.1 ≤ 9223372036854775807 := by
  obtain ⟨a, cap, xs, rfl, h1, h2, h3⟩ := open_sl Tryd.underlying40 cellsStep (fun (z : I3) ad => ad.spot = none ∧ rdI3 W ad z ∧ (-9223372036854775808 ≤ z.2.1 ∧ z.2.1 ≤ 9223372036854775807)) (0, 0, 0) (fun z ad h => h.1)
    (fun n ad cs y hc hy => by
      obtain ⟨hl, hat⟩ := cells_at hc
      obtain ⟨y0, y1, y2, n', _, hlen, t0, t1, t2⟩ := trod_struct3 Tryd.underlying47 hy
      simp only [cellsInt] at t0 t1 t2
      match cs, hl with
      | [c0, c1, c2], _ =>
        obtain ⟨z0, h0, _⟩ := DataW.trod_int Tryd.underlying3 t0
        obtain ⟨z1, h1, _, hw1⟩ := DataW.trod_int Tryd.underlying3 t1
        obtain ⟨z2, h2, _⟩ := DataW.trod_int Tryd.underlying3 t2
        simp only [List.drop_zero, List.drop_succ_cons, List.take_succ_cons, List.take_zero, List.cons.injEq, and_true] at h0 h1 h2
        subst h0 h1 h2
        have e0 := hat 0 (by omega)
        have e1 := hat 1 (by omega)
        have e2 := hat 2 (by omega)
        have hs : ad.spot = none := spot_of_cell (W := W) (v := .int .i64 z0) (by simpa [Addr.add] using e0)
        obtain ⟨b, off, spot⟩ := ad
        simp only at hs
        subst hs
        rw [Addr.add_lit] at e0 e1 e2
        exact ⟨(z0, z1, z2), rfl, ⟨e0, e1, e2⟩, Jv.wf64 hw1⟩) h
  refine ⟨_, xs, rfl, ⟨a, cap, rfl, h1, h2, fun h0 => ?_⟩, ?_⟩
  · obtain ⟨g, off, rfl, hc⟩ := h3 h0
    exact ⟨g, off, rfl, lt_of_cell (hc 0 h0).2.1.1, fun j hj => by have := (hc j hj).2.1; simpa [hj] using this⟩
  intro x hx
  obtain ⟨j, hj, rfl⟩ := List.getElem_of_mem hx
  obtain ⟨g, off, _, hc⟩ := h3 (by omega)
  have := (hc j hj).2.2
  simpa [hj] using this
end
end Go.Proofs.YtiklgipcgdgkoaaDoor.Jv
