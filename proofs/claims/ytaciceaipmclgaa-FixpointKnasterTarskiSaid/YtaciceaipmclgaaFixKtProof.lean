/- FixpointKnasterTarski returns true for every system of rules and every candidate: it holds without any condition. The result of Least is a solution, and every solution contains it. -/
import Derived.Test.YtaciceaipmclgaaFixJ
import Derived.Test.YtaciceaipmclgaaOpen
namespace Go.Proofs.Ytaciceaipmclgaa
open Go.ChangeShapes Go.WideShapes Go.ChangeAt Go.RowKit Go.Deep
set_option linter.unusedVariables false
theorem Try.laidOut : laidOutB Try.prog = true := by kernel_rfl
theorem Try.own : ownKnob Try.prog.godebug = none := by kernel_rfl
theorem Try.cellsInt : Try.prog.cellsOf 3 = 1 := by kernel_rfl
theorem Try.cellsInts : Try.prog.cellsOf 23 = 1 := by kernel_rfl
theorem Try.cellsRule : Try.prog.cellsOf 31 = 2 := by kernel_rfl
theorem Try.cellsRuleL : Try.prog.cellsOf 39 = 1 := by kernel_rfl
section
variable {H : Type} {enc : TypeId × Value → H} {W : World}
theorem open_intsF {fuel : Nat} {cs : List Value} {x : DataW H × List MemPlace} (h : DataW.trod enc Try.prog W 0 (fun _ => true) true fuel 23 cs = some x) :
    ∃ v xs, cs = [v] ∧ Ints (fun g => g < W.heap.size) W v xs := by
  obtain ⟨a, cap, xs, rfl, h1, h2, h3⟩ := open_sl Try.underlying23 Try.cellsInt (fun (z : Int) ad => W.cell? ad = some (.int .i64 z)) 0 (fun z ad h => spot_of_cell h)
    (fun n ad cs y hc hy => by
      obtain ⟨v, rfl, hv⟩ := cells_one hc
      obtain ⟨z, hz, _⟩ := DataW.trod_int Try.underlying3 hy
      simp only [List.cons.injEq, and_true] at hz
      exact ⟨z, by rw [hv, hz]⟩) h
  refine ⟨_, xs, rfl, a, cap, rfl, h1, by omega, fun h0 => ?_⟩
  obtain ⟨g, off, rfl, hc⟩ := h3 h0
  exact ⟨g, off, rfl, lt_of_cell (hc 0 h0), fun j hj => by have := hc j hj; rwa [Nat.mul_one] at this⟩
theorem open_ruleL {fuel : Nat} {cs : List Value} {x : DataW H × List MemPlace} (h : DataW.trod enc Try.prog W 0 (fun _ => true) true fuel 39 cs = some x) :
    ∃ v l, cs = [v] ∧ RuleL (fun g => g < W.heap.size) W v l := by
  obtain ⟨a, cap, xs, rfl, h1, h2, h3⟩ := open_sl Try.underlying39 Try.cellsRule (fun (r : Rule) ad => W.cell? ad = some (.int .i64 r.1) ∧ ∃ u, W.cell? (ad.add 1) = some u ∧ Ints (fun g => g < W.heap.size) W u r.2) (0, []) (fun z ad h => spot_of_cell h.1)
    (fun n ad cs y hc hy => by
      obtain ⟨hl, hat⟩ := cells_at hc
      obtain ⟨y0, y1, n', _, hlen, t0, t1⟩ := trod_struct2 Try.underlying31 hy
      simp only [Try.cellsInt, Try.cellsInts] at t0 t1
      match cs, hl with
      | [c0, c1], _ =>
        obtain ⟨z0, h0, _⟩ := DataW.trod_int Try.underlying3 t0
        obtain ⟨v, xs, hv, hx⟩ := open_intsF t1
        simp only [List.drop_zero, List.drop_succ_cons, List.take_succ_cons, List.take_zero, List.cons.injEq, and_true] at h0 hv
        subst h0 hv
        exact ⟨(z0, xs), by simpa [Addr.add] using hat 0 (by omega), _, by simpa using hat 1 (by omega), hx⟩) h
  refine ⟨_, xs, rfl, a, cap, rfl, h1, by omega, fun h0 => ?_⟩
  obtain ⟨g, off, rfl, hc⟩ := h3 h0
  exact ⟨g, off, rfl, lt_of_cell (hc 0 h0).1, fun j hj => by
    obtain ⟨e1, u, e2, e3⟩ := hc j hj
    rw [Addr.add_lit] at e2
    exact ⟨e1, u, e2, e3⟩⟩
theorem open_rules {fuel : Nat} {cs : List Value} {x : DataW H × List MemPlace} (h : DataW.trod enc Try.prog W 0 (fun _ => true) true fuel 22 cs = some x) :
    ∃ v R, cs = [v] ∧ RulesAt (fun g => g < W.heap.size) W v R := by
  obtain ⟨a, cap, xs, rfl, h1, h2, h3⟩ := open_sl Try.underlying22 Try.cellsRuleL (fun (l : List Rule) ad => ∃ u, W.cell? ad = some u ∧ RuleL (fun g => g < W.heap.size) W u l) [] (fun z ad h => by obtain ⟨u, hu, _⟩ := h; exact spot_of_cell hu)
    (fun n ad cs y hc hy => by
      obtain ⟨v, rfl, hv⟩ := cells_one hc
      obtain ⟨v', l, hz, hl⟩ := open_ruleL hy
      simp only [List.cons.injEq, and_true] at hz
      subst hz
      exact ⟨l, v, hv, hl⟩) h
  refine ⟨_, xs, rfl, a, cap, rfl, h1, by omega, fun h0 => ?_⟩
  obtain ⟨g, off, rfl, hc⟩ := h3 h0
  have hc0 := hc 0 h0
  obtain ⟨u, hu, _⟩ := hc0
  exact ⟨g, off, rfl, lt_of_cell hu, fun j hj => by have := hc j hj; rwa [Nat.mul_one] at this⟩
end
set_option maxRecDepth 100000 in
theorem knaster_lifted (os : Os) (started : os.Started) (H : Type) (enc : TypeId × Value → H) :
    ReturnsInHanded {} Try.checked os 3 .any (Rows.fixpointKnasterTarskiSpec.pre6 enc Try.prog Try.f3 Rows.fixpointKnasterTarskiRow.domain false) (Rows.fixpointKnasterTarskiSpec.post enc Try.prog Try.f3 false true false false) := by
  refine returnsInHanded_of_change (C := Try.checked) Try.own started (by kernel_rfl) Try.func3
    (ChangeSpec.witness6 (enc := enc) (C := Try.checked) false ⟨#[], #[.slice none 0 0, .slice none 0 0], []⟩ 8 (by kernel_rfl) (by kernel_rfl) (by kernel_rfl) (by kernel_rfl)) ?_
  intro W base args ds gs before hval0 hW hcnd _
  have hval : ∀ (j : Nat) t v, Try.f3.params[j]? = some t → args[j]? = some v → Value.okWide Try.prog W .any base t v := hval0
  have hW' := hW
  obtain ⟨p, q, hA0, hV, rfl, hfz, hnd⟩ := hW
  have hA : DataW.TrodAll enc Try.prog W 0 (fun _ => true) true Try.f3.params.toList args.toList ds p := hA0
  rw [Try.params3] at hA hval
  obtain ⟨v0, vs0, d0, ds0, p0, q0, hargs, rfl, rfl, h0, r0⟩ := trodAll_cons hA
  obtain ⟨v1, vs1, d1, ds1, p1, q1, rfl, rfl, rfl, h1, r1⟩ := trodAll_cons r0
  obtain ⟨rfl, rfl, rfl⟩ := trodAll_nil r1
  obtain rfl : args = #[v0, v1] := by cases args; simp_all
  obtain ⟨rfl, rfl⟩ := trodVars_none hV
  obtain ⟨a0, len0, cap0, rfl⟩ := okWide_slice Try.underlying22 (hval 0 22 v0 rfl rfl)
  have k0 := h0
  have lt0 : ∀ x ∈ p0, x.block < W.heap.size := by obtain ⟨m, hm⟩ := k0; exact DataW.trod_lt m _ _ _ hm
  obtain ⟨fuel0, hf0⟩ := h0
  obtain ⟨u0, R, e0, hR⟩ := open_rules hf0
  have e0' : [Value.slice a0 len0 cap0] = [u0] := e0
  simp only [List.cons.injEq, and_true] at e0'
  subst e0'
  obtain ⟨a1, len1, cap1, rfl⟩ := okWide_slice Try.underlying23 (hval 1 23 v1 rfl rfl)
  have k1 := h1
  have lt1 : ∀ x ∈ p1, x.block < W.heap.size := by obtain ⟨m, hm⟩ := k1; exact DataW.trod_lt m _ _ _ hm
  obtain ⟨fuel1, hf1⟩ := h1
  obtain ⟨u1, os1, e1, hos1⟩ := open_intsF hf1
  have e1' : [Value.slice a1 len1 cap1] = [u1] := e1
  simp only [List.cons.injEq, and_true] at e1'
  subst e1'
  clear hA0 hval0
  refine (knaster_any _ W R _ _ os1 hR hos1 (fun _ h => h)).mono fun e W' ⟨he, hch⟩ => ?_
  have bel : Below W.heap.size W W' := hch.below (Nat.le_refl _) (by simp)
  subst he
  exact ⟨_, rfl, _, _, _, [], _, [], hW', trodAll_mk1 (shut_bool Try.underlying4 _), (trodAll_cons_mk (Below.trod Try.laidOut (by kernel_rfl) (of_decide_eq_true (by kernel_rfl)) k0 bel lt0) (trodAll_cons_mk (Below.trod Try.laidOut (by kernel_rfl) (of_decide_eq_true (by kernel_rfl)) k1 bel lt1) trodAll_mk0)), rfl, bel.frame _, fun h => by cases h⟩

theorem knaster_holds : Rows.FixpointKnasterTarskiSaid :=
  OpenClaim.holds_of_wide 3 Try.f3 rfl rfl rfl rfl rfl rfl rfl ⟨rfl, rfl, rfl, rfl, rfl⟩ rfl rfl rfl rfl rfl (by kernel_rfl) Try.func3 (by kernel_rfl)
    (of_decide_eq_true (by kernel_rfl)) (by unfold Func.isWrapper; first | (rw [if_pos (by decide +kernel)]; kernel_rfl) | (rw [if_neg (by decide +kernel)]; exact ⟨rfl, rfl⟩))
    (fun os started H enc _ => knaster_lifted os started H enc)
#print axioms knaster_holds
end Go.Proofs.Ytaciceaipmclgaa
