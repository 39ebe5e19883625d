/- Reading a slice of booleans. -/
import Derived.Test.YtpnaegfldkjikaaDoorJwH
namespace Go.Proofs.YtpnaegfldkjikaaDoor.Jv
open Go.ChangeShapes Go.WideShapes Go.ChangeAt Go.RowKit Go.Deep
set_option linter.unusedVariables false
set_option linter.unusedSimpArgs false
theorem cellsBool : Tryd.prog.cellsOf 4 = 1 := by kernel_rfl
section
variable {H : Type} {enc : TypeId × Value → H} {W : World}
theorem open_boolsF {fuel : Nat} {cs : List Value} {x : DataW H × List MemPlace} (h : DataW.trod enc Tryd.prog W 0 (fun _ => true) true fuel 40 cs = some x) :
    ∃ v bs, cs = [v] ∧ SlR (fun g => g < W.heap.size) 1 rdB W v bs := by
  obtain ⟨a, cap, xs, rfl, h1, h2, h3⟩ := open_sl Tryd.underlying40 cellsBool (fun (z : Bool) ad => rdB W ad z) false (fun z ad h => spot_of_cell h)
    (fun n ad cs y hc hy => by
      obtain ⟨v, rfl, hv⟩ := cells_one hc
      obtain ⟨z, hz, _⟩ := DataW.trod_bool Tryd.underlying4 hy
      simp only [List.cons.injEq, and_true] at hz
      exact ⟨z, by unfold rdB; rw [hv, hz]⟩) h
  refine ⟨_, xs, rfl, a, cap, rfl, h1, h2, fun h0 => ?_⟩
  obtain ⟨g, off, rfl, hc⟩ := h3 h0
  exact ⟨g, off, rfl, lt_of_cell (hc 0 h0), fun j hj => by have := hc j hj; simpa [hj] using this⟩
set_option maxRecDepth 100000 in
theorem open_bools {base : Nat} {v : Value} {d : DataW H} {ps : List MemPlace} (hval : Value.okWide Tryd.prog W .any base 40 v) (hd : DataW.Trod enc Tryd.prog W 0 (fun _ => true) true 40 v d ps) :
    ∃ bs, SlR (fun g => g < W.heap.size) 1 rdB W v bs := by
  obtain ⟨a0, len0, cap0, rfl⟩ := okWide_slice Tryd.underlying40 hval
  obtain ⟨fuel, hf⟩ := hd
  obtain ⟨u, bs, e, hb⟩ := open_boolsF hf
  have e' : [Value.slice a0 len0 cap0] = [u] := e
  simp only [List.cons.injEq, and_true] at e'
  subst e'
  exact ⟨bs, hb⟩
end
end Go.Proofs.YtpnaegfldkjikaaDoor.Jv
