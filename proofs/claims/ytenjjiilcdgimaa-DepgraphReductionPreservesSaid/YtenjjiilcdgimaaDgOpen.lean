/- Reading the Depgraph laws' arguments: edges, keys. -/
import Derived.Test.YtenjjiilcdgimaaDgG
import Derived.Test.YtenjjiilcdgimaaOpen
namespace Go.Proofs.Ytenjjiilcdgimaa
open Go.ChangeShapes Go.WideShapes Go.ChangeAt Go.RowKit Go.Deep
set_option linter.unusedVariables false
theorem Try.own : ownKnob Try.prog.godebug = none := by kernel_rfl
theorem Try.cellsEd : Try.prog.cellsOf 37 = 6 := by kernel_rfl
theorem in64_of_wf {n : Int} (h : (Lit.int .i64 n).wf = true) : In64 n := by
  unfold In64
  simp [Lit.wf, IntKind.min, IntKind.max, IntKind.signed, IntKind.bits] at h
  omega
section
variable {H : Type} {enc : TypeId × Value → H} {W : World}
theorem trod_key {n : Nat} {cs : List Value} {y : DataW H × List MemPlace} (hy : DataW.trod enc Try.prog W 0 (fun _ => true) true n 24 cs = some y) :
    ∃ k : I3, cs = [.int .i64 k.1, .int .i64 k.2.1, .int .i64 k.2.2] ∧ QKok k := by
  obtain ⟨y0, y1, y2, n', hyx, hlen, t0, t1, t2⟩ := trod_struct3 Try.underlying24 hy
  rw [Try.cellsQK] at hlen
  simp only [Try.cellsInt] at t0 t1 t2
  match cs, hlen with
  | [c0, c1, c2], _ =>
    obtain ⟨z0, h0, _, f0⟩ := DataW.trod_int Try.underlying3 t0
    obtain ⟨z1, h1, _, f1⟩ := DataW.trod_int Try.underlying3 t1
    obtain ⟨z2, h2, _, f2⟩ := DataW.trod_int Try.underlying3 t2
    simp only [List.drop_zero, List.drop_succ_cons, List.take_succ_cons, List.take_zero, List.cons.injEq, and_true] at h0 h1 h2
    subst h0 h1 h2
    exact ⟨(z0, z1, z2), rfl, in64_of_wf f0, in64_of_wf f1, in64_of_wf f2⟩
theorem open_eds {fuel : Nat} {cs : List Value} {x : DataW H × List MemPlace} (h : DataW.trod enc Try.prog W 0 (fun _ => true) true fuel 22 cs = some x) :
    ∃ v xs, cs = [v] ∧ EdP (fun g => g < W.heap.size) W v xs ∧ EdOk xs := by
  obtain ⟨a, cap, xs, rfl, h1, h2, h3⟩ := open_sl Try.underlying22 Try.cellsEd (fun (z : Ed) ad => ad.spot = none ∧ rdEd W ad z ∧ QKok z.1 ∧ QKok z.2) e0 (fun z ad h => h.1)
    (fun n ad cs y hc hy => by
      obtain ⟨hl, hat⟩ := cells_at hc
      obtain ⟨y0, y1, n', _, hlen, t0, t1⟩ := trod_struct2 Try.underlying37 hy
      simp only [Try.cellsQK] at t0 t1
      match cs, hl with
      | [c0, c1, c2, c3, c4, c5], _ =>
        obtain ⟨k0, h0, f0⟩ := trod_key t0
        obtain ⟨k1, h1, f1⟩ := trod_key t1
        simp only [List.drop_zero, List.drop_succ_cons, List.take_succ_cons, List.take_zero, List.cons.injEq, and_true] at h0 h1
        obtain ⟨rfl, rfl, rfl⟩ := h0
        obtain ⟨rfl, rfl, rfl⟩ := h1
        have e0 := hat 0 (by omega)
        have e1 := hat 1 (by omega)
        have e2 := hat 2 (by omega)
        have e3 := hat 3 (by omega)
        have e4 := hat 4 (by omega)
        have e5 := hat 5 (by omega)
        have hs : ad.spot = none := spot_of_cell (W := W) (v := .int .i64 k0.1) (by simpa [Addr.add] using e0)
        obtain ⟨b, off, spot⟩ := ad
        simp only at hs
        subst hs
        rw [Addr.add_lit] at e0 e1 e2 e3 e4 e5
        exact ⟨(k0, k1), rfl, ⟨⟨e0, e1, e2⟩, e3, e4, e5⟩, f0, f1⟩) h
  refine ⟨_, xs, rfl, ⟨a, cap, rfl, h1, h2, fun h0 => ?_⟩, fun z hz => ?_⟩
  · obtain ⟨g, off, rfl, hc⟩ := h3 h0
    exact ⟨g, off, rfl, lt_of_cell (hc 0 h0).2.1.1.1, fun j hj => by have := (hc j hj).2.1; simpa [hj] using this⟩
  · obtain ⟨i, hi, rfl⟩ := List.getElem_of_mem hz
    obtain ⟨g, off, rfl, hc⟩ := h3 (by omega)
    have := (hc i hi).2.2
    simpa [hi] using this
theorem open_key {base : Nat} {v : Value} {d : DataW H} {ps : List MemPlace}
    (hval : Value.okWide Try.prog W .any base 24 v) (hd : DataW.Trod enc Try.prog W 0 (fun _ => true) true 24 v d ps) : ∃ k : I3, v = i3v k ∧ QKok k := by
  obtain ⟨cs, rfl, hsz⟩ := okWide_struct Try.underlying24 hval
  obtain ⟨fuel, hf⟩ := hd
  have hce : (Value.agg cs).cells = cs := rfl
  rw [hce] at hf
  obtain ⟨k, hk, hok⟩ := trod_key hf
  obtain ⟨l⟩ := cs
  simp only at hk
  subst hk
  exact ⟨k, rfl, hok⟩
end
end Go.Proofs.Ytenjjiilcdgimaa
