/- Reading the laws' arguments: programs and inputs. -/
import Derived.Test.YtggiddhhbilcjaaGh
import Derived.Test.YtggiddhhbilcjaaOpen
namespace Go.Proofs.Ytggiddhhbilcjaa
open Go.ChangeShapes Go.WideShapes Go.ChangeAt Go.RowKit Go.Deep
set_option linter.unusedVariables false
theorem Try.laidOut : laidOutB Try.prog = true := by kernel_rfl
theorem Try.own : ownKnob Try.prog.godebug = none := by kernel_rfl
theorem Try.cellsInt : Try.prog.cellsOf 3 = 1 := by kernel_rfl
theorem Try.cellsOp : Try.prog.cellsOf 119 = 3 := by kernel_rfl
theorem Try.cellsOps : Try.prog.cellsOf 116 = 1 := by kernel_rfl
theorem Try.cellsQs : Try.prog.cellsOf 22 = 1 := by kernel_rfl
theorem Try.cellsPrg : Try.prog.cellsOf 24 = 2 := by kernel_rfl
section
variable {H : Type} {enc : TypeId × Value → H} {W : World}
theorem open_intsP {fuel : Nat} {cs : List Value} {x : DataW H × List MemPlace} (h : DataW.trod enc Try.prog W 0 (fun _ => true) true fuel 37 cs = some x) :
    ∃ v xs, cs = [v] ∧ IntsP (fun g => g < W.heap.size) W v xs := by
  obtain ⟨a, cap, xs, rfl, h1, h2, h3⟩ := open_sl Try.underlying37 Try.cellsInt (fun (z : Int) ad => W.cell? ad = some (.int .i64 z)) 0 (fun z ad h => spot_of_cell h)
    (fun n ad cs y hc hy => by
      obtain ⟨v, rfl, hv⟩ := cells_one hc
      obtain ⟨z, hz, _⟩ := DataW.trod_int Try.underlying3 hy
      simp only [List.cons.injEq, and_true] at hz
      exact ⟨z, by rw [hv, hz]⟩) h
  refine ⟨_, xs, rfl, a, cap, rfl, h1, h2, fun h0 => ?_⟩
  obtain ⟨g, off, rfl, hc⟩ := h3 h0
  exact ⟨g, off, rfl, lt_of_cell (hc 0 h0), fun j hj => by have := hc j hj; unfold rdInt; simpa [hj] using this⟩
theorem open_i3s {fuel : Nat} {cs : List Value} {x : DataW H × List MemPlace} (h : DataW.trod enc Try.prog W 0 (fun _ => true) true fuel 116 cs = some x) :
    ∃ v xs, cs = [v] ∧ I3s (fun g => g < W.heap.size) W v xs := by
  obtain ⟨a, cap, xs, rfl, h1, h2, h3⟩ := open_sl Try.underlying116 Try.cellsOp (fun (z : I3) ad => ad.spot = none ∧ rdI3 W ad z) (0, 0, 0) (fun z ad h => h.1)
    (fun n ad cs y hc hy => by
      obtain ⟨hl, hat⟩ := cells_at hc
      obtain ⟨y0, y1, y2, n', _, hlen, t0, t1, t2⟩ := trod_struct3 Try.underlying119 hy
      simp only [Try.cellsInt] at t0 t1 t2
      match cs, hl with
      | [c0, c1, c2], _ =>
        obtain ⟨z0, h0, _⟩ := DataW.trod_int Try.underlying3 t0
        obtain ⟨z1, h1, _⟩ := DataW.trod_int Try.underlying3 t1
        obtain ⟨z2, h2, _⟩ := DataW.trod_int Try.underlying3 t2
        simp only [List.drop_zero, List.drop_succ_cons, List.take_succ_cons, List.take_zero, List.cons.injEq, and_true] at h0 h1 h2
        subst h0 h1 h2
        have e0 := hat 0 (by omega)
        have e1 := hat 1 (by omega)
        have e2 := hat 2 (by omega)
        have hs : ad.spot = none := spot_of_cell (W := W) (v := .int .i64 z0) (by simpa [Addr.add] using e0)
        obtain ⟨b, off, spot⟩ := ad
        simp only at hs
        subst hs
        rw [Addr.add_lit] at e0 e1 e2
        exact ⟨(z0, z1, z2), rfl, e0, e1, e2⟩) h
  refine ⟨_, xs, rfl, a, cap, rfl, h1, h2, fun h0 => ?_⟩
  obtain ⟨g, off, rfl, hc⟩ := h3 h0
  exact ⟨g, off, rfl, lt_of_cell (hc 0 h0).2.1, fun j hj => by have := (hc j hj).2; simpa [hj] using this⟩
theorem open_i3ss {fuel : Nat} {cs : List Value} {x : DataW H × List MemPlace} (h : DataW.trod enc Try.prog W 0 (fun _ => true) true fuel 22 cs = some x) :
    ∃ v xs, cs = [v] ∧ I3ss (fun g => g < W.heap.size) W v xs := by
  obtain ⟨a, cap, xs, rfl, h1, h2, h3⟩ := open_sl Try.underlying22 Try.cellsOps (fun (z : List I3) ad => ∃ u, W.cell? ad = some u ∧ I3s (fun g => g < W.heap.size) W u z) [] (fun z ad h => by obtain ⟨u, hu, _⟩ := h; exact spot_of_cell hu)
    (fun n ad cs y hc hy => by
      obtain ⟨v, rfl, hv⟩ := cells_one hc
      obtain ⟨v', l, hz, hl⟩ := open_i3s hy
      simp only [List.cons.injEq, and_true] at hz
      subst hz
      exact ⟨l, v, hv, hl⟩) h
  refine ⟨_, xs, rfl, a, cap, rfl, h1, h2, fun h0 => ?_⟩
  obtain ⟨g, off, rfl, hc⟩ := h3 h0
  obtain ⟨u, hu, _⟩ := hc 0 h0
  exact ⟨g, off, rfl, lt_of_cell hu, fun j hj => by have := hc j hj; simpa [hj] using this⟩
set_option maxRecDepth 100000 in
theorem open_prog {base : Nat} {v : Value} {d : DataW H} {ps : List MemPlace} (hval : Value.okWide Try.prog W .any base 24 v) (hd : DataW.Trod enc Try.prog W 0 (fun _ => true) true 24 v d ps) :
    ∃ x : Int × Value × List (List I3), v = .agg #[.int .i64 x.1, x.2.1] ∧ I3ss (fun g => g < W.heap.size) W x.2.1 x.2.2 := by
  obtain ⟨cs, rfl, hsz⟩ := okWide_struct Try.underlying24 hval
  rw [Try.cellsPrg] at hsz
  obtain ⟨fuel, hf⟩ := hd
  have hce : (Value.agg cs).cells = cs := rfl
  rw [hce] at hf
  have hlen : cs.toList.length = 2 := by simpa using hsz
  obtain ⟨y0, y1, n', _, _, t0, t1⟩ := trod_struct2 Try.underlying24 hf
  simp only [Try.cellsInt, Try.cellsQs] at t0 t1
  obtain ⟨l⟩ := cs
  match l, hlen with
  | [c0, c1], _ =>
    obtain ⟨z0, h0, _⟩ := DataW.trod_int Try.underlying3 t0
    obtain ⟨qv, qs, hv, hx⟩ := open_i3ss t1
    simp only [List.drop_zero, List.drop_succ_cons, List.take_succ_cons, List.take_zero, List.cons.injEq, and_true] at h0 hv
    subst h0 hv
    exact ⟨(z0, _, qs), rfl, hx⟩
end
end Go.Proofs.Ytggiddhhbilcjaa
