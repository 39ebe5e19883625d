/- Reading the laws' arguments: systems of rules. -/
import Derived.Test.YtaciceaipmclgaaFixM
import Derived.Test.YtaciceaipmclgaaOpen
import Derived.SizedLaws
namespace Go.Proofs.Ytaciceaipmclgaa
open Go.ChangeShapes Go.WideShapes Go.ChangeAt Go.RowKit Go.Deep
set_option linter.unusedVariables false
theorem Try.laidOut : laidOutB Try.prog = true := by kernel_rfl
theorem Try.own : ownKnob Try.prog.godebug = none := by kernel_rfl
theorem Try.cellsInt : Try.prog.cellsOf 3 = 1 := by kernel_rfl
theorem Try.cellsInts : Try.prog.cellsOf 23 = 1 := by kernel_rfl
theorem Try.cellsRule : Try.prog.cellsOf 31 = 2 := by kernel_rfl
theorem Try.cellsRuleL : Try.prog.cellsOf 39 = 1 := by kernel_rfl
section
variable {H : Type} {enc : TypeId × Value → H} {W : World}
theorem open_intsF {fuel : Nat} {cs : List Value} {x : DataW H × List MemPlace} (h : DataW.trod enc Try.prog W 0 (fun _ => true) true fuel 23 cs = some x) :
    ∃ v xs, cs = [v] ∧ Ints (fun g => g < W.heap.size) W v xs := by
  obtain ⟨a, cap, xs, rfl, h1, h2, h3⟩ := open_sl Try.underlying23 Try.cellsInt (fun (z : Int) ad => W.cell? ad = some (.int .i64 z)) 0 (fun z ad h => spot_of_cell h)
    (fun n ad cs y hc hy => by
      obtain ⟨v, rfl, hv⟩ := cells_one hc
      obtain ⟨z, hz, _⟩ := DataW.trod_int Try.underlying3 hy
      simp only [List.cons.injEq, and_true] at hz
      exact ⟨z, by rw [hv, hz]⟩) h
  refine ⟨_, xs, rfl, a, cap, rfl, h1, by omega, fun h0 => ?_⟩
  obtain ⟨g, off, rfl, hc⟩ := h3 h0
  exact ⟨g, off, rfl, lt_of_cell (hc 0 h0), fun j hj => by have := hc j hj; rwa [Nat.mul_one] at this⟩
theorem open_ruleL {fuel : Nat} {cs : List Value} {x : DataW H × List MemPlace} (h : DataW.trod enc Try.prog W 0 (fun _ => true) true fuel 39 cs = some x) :
    ∃ v l, cs = [v] ∧ RuleL (fun g => g < W.heap.size) W v l := by
  obtain ⟨a, cap, xs, rfl, h1, h2, h3⟩ := open_sl Try.underlying39 Try.cellsRule (fun (r : Rule) ad => W.cell? ad = some (.int .i64 r.1) ∧ ∃ u, W.cell? (ad.add 1) = some u ∧ Ints (fun g => g < W.heap.size) W u r.2) (0, []) (fun z ad h => spot_of_cell h.1)
    (fun n ad cs y hc hy => by
      obtain ⟨hl, hat⟩ := cells_at hc
      obtain ⟨y0, y1, n', _, hlen, t0, t1⟩ := trod_struct2 Try.underlying31 hy
      simp only [Try.cellsInt, Try.cellsInts] at t0 t1
      match cs, hl with
      | [c0, c1], _ =>
        obtain ⟨z0, h0, _⟩ := DataW.trod_int Try.underlying3 t0
        obtain ⟨v, xs, hv, hx⟩ := open_intsF t1
        simp only [List.drop_zero, List.drop_succ_cons, List.take_succ_cons, List.take_zero, List.cons.injEq, and_true] at h0 hv
        subst h0 hv
        exact ⟨(z0, xs), by simpa [Addr.add] using hat 0 (by omega), _, by simpa using hat 1 (by omega), hx⟩) h
  refine ⟨_, xs, rfl, a, cap, rfl, h1, by omega, fun h0 => ?_⟩
  obtain ⟨g, off, rfl, hc⟩ := h3 h0
  exact ⟨g, off, rfl, lt_of_cell (hc 0 h0).1, fun j hj => by
    obtain ⟨e1, u, e2, e3⟩ := hc j hj
    rw [Addr.add_lit] at e2
    exact ⟨e1, u, e2, e3⟩⟩
theorem open_rules {fuel : Nat} {cs : List Value} {x : DataW H × List MemPlace} (h : DataW.trod enc Try.prog W 0 (fun _ => true) true fuel 22 cs = some x) :
    ∃ v R, cs = [v] ∧ RulesAt (fun g => g < W.heap.size) W v R := by
  obtain ⟨a, cap, xs, rfl, h1, h2, h3⟩ := open_sl Try.underlying22 Try.cellsRuleL (fun (l : List Rule) ad => ∃ u, W.cell? ad = some u ∧ RuleL (fun g => g < W.heap.size) W u l) [] (fun z ad h => by obtain ⟨u, hu, _⟩ := h; exact spot_of_cell hu)
    (fun n ad cs y hc hy => by
      obtain ⟨v, rfl, hv⟩ := cells_one hc
      obtain ⟨v', l, hz, hl⟩ := open_ruleL hy
      simp only [List.cons.injEq, and_true] at hz
      subst hz
      exact ⟨l, v, hv, hl⟩) h
  refine ⟨_, xs, rfl, a, cap, rfl, h1, by omega, fun h0 => ?_⟩
  obtain ⟨g, off, rfl, hc⟩ := h3 h0
  have hc0 := hc 0 h0
  obtain ⟨u, hu, _⟩ := hc0
  exact ⟨g, off, rfl, lt_of_cell hu, fun j hj => by have := hc j hj; rwa [Nat.mul_one] at this⟩
theorem Try.bytesInt : Try.prog.bytesOf 3 = 8 := by kernel_rfl
theorem ints_sized {fuel : Nat} {cs : List Value} {x : DataW H × List MemPlace} (h : DataW.trod enc Try.prog W 0 (fun _ => true) true fuel 23 cs = some x) (hw : ∀ n ∈ x.1.weights Try.prog 23, n ≤ reachBytes) {a : Option Addr} {len cap : Nat} (hcs : cs = [.slice a len cap]) : len * 8 ≤ reachBytes := by
  rcases open_slice Try.underlying23 h with ⟨h1, _⟩ | ⟨a', len', cap', m, n, D, Pl, h1, hb, hl, hm, hmm, hx, _⟩
  · rw [hcs] at h1
    simp only [List.cons.injEq, Value.slice.injEq, and_true] at h1
    rw [h1.2.1]
    exact Nat.zero_le _
  · rw [hcs] at h1
    simp only [List.cons.injEq, Value.slice.injEq, and_true] at h1
    rw [h1.2.1]
    have := hw ((len' + (m - len')) * 8) (by rw [hx]; simp [DataW.weights, Try.underlying23, Try.bytesInt])
    exact Nat.le_trans (Nat.mul_le_mul_right 8 (by omega)) this
theorem open_rule {base : Nat} {v : Value} {d : DataW H} {ps : List MemPlace} (hval : Value.okWide Try.prog W .any base 31 v) (hd : DataW.Trod enc Try.prog W 0 (fun _ => true) true 31 v d ps) (hw : ∀ n ∈ d.weights Try.prog 31, n ≤ reachBytes) :
    ∃ x : Rule × Value, v = .agg #[.int .i64 x.1.1, x.2] ∧ Ints (fun g => g < W.heap.size) W x.2 x.1.2 ∧ x.1.2.length * 8 ≤ reachBytes := by
  obtain ⟨cs, rfl, hsz⟩ := okWide_struct Try.underlying31 hval
  rw [Try.cellsRule] at hsz
  obtain ⟨fuel, hf⟩ := hd
  have hce : (Value.agg cs).cells = cs := rfl
  rw [hce] at hf
  have hlen : cs.toList.length = 2 := by simpa using hsz
  obtain ⟨y0, y1, n', hxx, _, t0, t1⟩ := trod_struct2 Try.underlying31 hf
  simp only [Try.cellsInt, Try.cellsInts] at t0 t1
  simp only [Prod.mk.injEq] at hxx
  obtain ⟨rfl, _⟩ := hxx
  obtain ⟨l⟩ := cs
  match l, hlen with
  | [c0, c1], _ =>
    obtain ⟨z0, h0, _⟩ := DataW.trod_int Try.underlying3 t0
    have hws : ∀ n ∈ y1.1.weights Try.prog 23, n ≤ reachBytes := fun n hn => hw n (by simp [DataW.weights, Try.underlying31, DataW.weightsEach, hn])
    obtain ⟨qv, qs, hv, hx⟩ := open_intsF t1
    have hqz := fun a len cap => ints_sized (a := a) (len := len) (cap := cap) t1 hws
    rw [hv] at hqz
    obtain ⟨a, cap, rfl⟩ := SlF.shape hx
    simp only [List.drop_zero, List.drop_succ_cons, List.take_succ_cons, List.take_zero, List.cons.injEq, and_true] at h0 hv
    subst h0 hv
    exact ⟨((z0, qs), _), rfl, hx, hqz _ _ _ rfl⟩
end
end Go.Proofs.Ytaciceaipmclgaa
