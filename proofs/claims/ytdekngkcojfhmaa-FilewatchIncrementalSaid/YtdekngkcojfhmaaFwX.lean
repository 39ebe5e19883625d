/- watchExample. -/
import Derived.Test.YtdekngkcojfhmaaFwT
import Derived.Test.YtdekngkcojfhmaaFwU
namespace Go.Proofs.Ytdekngkcojfhmaa
open Go.RowKit Go.ChangeMaps Go.MapKept Go.Shelf
set_option linter.unusedVariables false
set_option linter.unusedSimpArgs false
theorem evs_block {w : World} {g : Nat} {c : Array Value} {fr : Nat × Nat} {E : List FEv} (h : w.heap[g]? = some (.cells c 33 fr)) (hc : c.toList = evCells E) (hl : E.length ≤ 1000) (n : Nat) (hn : n = E.length) :
    EvsP (fun k => k = g) w (.slice (some ⟨g, 0, none⟩) n n) E := by
  subst hn
  refine ⟨_, _, rfl, Nat.le_refl _, by unfold maxLen; omega, fun _ => ⟨g, 0, rfl, rfl, fun j hj => ?_⟩⟩
  obtain ⟨e0, e1, e2⟩ := evCells_get E j hj
  rw [← hc] at e0 e1 e2
  unfold rdEv
  rw [Nat.zero_add]
  exact ⟨cell_of_heap h (by simpa using e0), cell_of_heap h (by simpa using e1), cell_of_heap h (by simpa using e2)⟩
def exA : ByteArray := ⟨#[97]⟩
def exE : List FEv := [(0, ⟨#[97]⟩, 1), (50, ⟨#[97]⟩, 2)]
theorem exE_ok : EvOk exE := by
  refine ⟨by decide, ?_, ?_, ?_, ?_⟩
  · intro e he
    simp only [exE, List.mem_cons, List.not_mem_nil, or_false] at he
    rcases he with rfl | rfl <;> rfl
  · intro e he
    simp only [exE, List.mem_cons, List.not_mem_nil, or_false] at he
    rcases he with rfl | rfl <;> simp
  · simp [exE]
  · intro e he
    simp only [exE, List.mem_cons, List.not_mem_nil, or_false] at he
    rcases he with rfl | rfl <;> decide
theorem srt_one (x : ByteArray) : srt [x] = [x] := List.perm_singleton.1 (srt_perm [x])
theorem exE_mgd : mgd exE = [(⟨#[97]⟩, (50, ⟨#[97]⟩, 1))] := by decide
theorem exE_nb : nbE exE = [(50, ⟨#[97]⟩, 1)] := by
  rw [nbE_eq, exE_mgd]
  show (srt [(⟨#[97]⟩ : ByteArray)]).filterMap _ = _
  rw [srt_one]
  decide
theorem exE_bat : bat 100 [] exE = [(150, [(50, ⟨#[97]⟩, 1)])] := by
  have h1 : bat 100 [] exE = bat 100 [(0, ⟨#[97]⟩, 1)] [(50, ⟨#[97]⟩, 2)] := by
    unfold exE
    rw [bat, if_pos (by decide)]
    rfl
  rw [h1, bat, if_neg (by decide), bat]
  have h2 : ([(0, ⟨#[97]⟩, 1)] : List FEv) ++ [(50, ⟨#[97]⟩, 2)] = exE := rfl
  rw [h2, exE_nb]
  rfl
set_option maxRecDepth 100000 in
set_option maxHeartbeats 8000000 in
theorem watchExample_any (w : World) : Calls Try.prog 6 #[] w fun e w' => e = .returned (.bool true) ∧ Chg [] w w' := by
  obtain ⟨w1, hw1⟩ : ∃ x, x = w.alloc (.cells #[.int .i64 0, .string ⟨#[97]⟩, .int .i64 1, .int .i64 50, .string ⟨#[97]⟩, .int .i64 2] 33) := ⟨_, rfl⟩
  have hc1 : Chg [] w w1 := by rw [hw1]; exact (Chg.refl [] w).alloc _
  have hb1 : w1.heap[w.heap.size]? = some (.cells #[.int .i64 0, .string ⟨#[97]⟩, .int .i64 1, .int .i64 50, .string ⟨#[97]⟩, .int .i64 2] 33 (0, 0)) := by rw [hw1]; exact heap_at _ _ _ rfl
  have HB := Lib.hid (batches_any _ w1 _ exE 100 (evs_block hb1 rfl (by decide) 2 rfl) exE_ok (by omega) (by omega))
  have Hc1 := Lib.hid hc1
  clear hc1 hb1
  go_enter Try.func6, Try.ntmps6
  go_wp2_with fail
  rw [← hw1]
  refine HB.out.mono ?_
  rintro e w2 ⟨v, rfl, hv, hc2⟩
  rw [exE_bat] at hv
  obtain ⟨va, vc, rfl, hvl⟩ := hv.shape
  obtain ⟨g, u, rfl, _, hg, c0, c1, hu⟩ := hv.at 0 (by simp) (0, [])
  simp only [List.getD_cons_zero, List.length_cons, List.length_nil, Nat.zero_mul, Nat.zero_add] at c0 c1 hu
  have lc := lt_of_cell c0
  obtain ⟨w3, hw3⟩ : ∃ x, x = w2.alloc (.cells #[.int .i64 50, .string ⟨#[97]⟩, .int .i64 1] 33) := ⟨_, rfl⟩
  have hc3 : Chg [] w2 w3 := by rw [hw3]; exact (Chg.refl [] w2).alloc _
  have hb3 : w3.heap[w2.heap.size]? = some (.cells #[.int .i64 50, .string ⟨#[97]⟩, .int .i64 1] 33 (0, 0)) := by rw [hw3]; exact heap_at _ _ _ rfl
  have Heq := Lib.hid (eqEvs_any _ _ w3 u _ [(50, ⟨#[97]⟩, 1)] (hu.evs.same hc3) (evs_block hb3 rfl (by decide) 1 rfl))
  have HC := Lib.hid (Hc1.out.trans (hc2.trans hc3))
  clear hv hvl hu hc2 hc3 hb3 hw1
  simp only [List.length_cons, List.length_nil, Nat.zero_add]
  go_wp2_with fail
  rw [← hw3]
  refine Heq.out.mono ?_
  rintro e w4 ⟨rfl, hc4⟩
  have HC4 := Lib.hid (HC.out.trans hc4)
  clear hc4
  go_wp2_with fail
  go_ret
  exact ⟨rfl, HC4.out⟩
end Go.Proofs.Ytdekngkcojfhmaa
