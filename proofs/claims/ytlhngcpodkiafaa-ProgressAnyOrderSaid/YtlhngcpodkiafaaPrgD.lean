/- The fixed example of the progress laws. -/
import Derived.Test.YtlhngcpodkiafaaPrgC
import Derived.Test.YtlhngcpodkiafaaRefEq
namespace Go.Proofs.Ytlhngcpodkiafaa
open Go.RowKit
set_option linter.unusedVariables false
def z5 : List Int := [1, 2, 3, 4, 5]
theorem ints_z5 (w : World) : Ints (w.alloc (.cells #[.int .i64 1, .int .i64 2, .int .i64 3, .int .i64 4, .int .i64 5] 3)) (.slice (some ⟨w.heap.size, 0, none⟩) 5 5) z5 :=
  Or.inr ⟨w.heap.size, 0, 5, _, _, rfl, by decide, by unfold maxLen; decide, heap_at _ _ _ rfl, fun i hi => by
    have : i < 5 := hi
    rcases i with _ | _ | _ | _ | _ | i
    all_goals first | rfl | omega⟩
theorem ints_one (w : World) (x : Int) : Ints (w.alloc (.cells #[.int .i64 x] 3)) (.slice (some ⟨w.heap.size, 0, none⟩) 1 1) [x] :=
  Or.inr ⟨w.heap.size, 0, 1, _, _, rfl, Nat.le_refl _, by unfold maxLen; decide, heap_at _ _ _ rfl, fun i hi => by
    have : i < 1 := hi
    rcases i with _ | i
    all_goals first | rfl | omega⟩
set_option maxRecDepth 100000 in
set_option maxHeartbeats 1000000 in
theorem chunkExample_any (w : World) : Calls Try.prog 5 #[] w fun e w' => e = .returned (.bool true) ∧ Chg [] w w' := by
  go_enter Try.func5, Try.ntmps5
  go_wp2_with fail
  refine (callsIn_wide.1 (split_some 7 2 w.heap.size 0 5 5 z5 _ (by decide) (by decide) (by decide) (by decide) (by decide) (Lib.hid rfl) (by decide) (by decide) (Lib.hid (ints_z5 w).c))).mono ?_
  rintro e w1 ⟨k, gr, cap, us, rfl, hul, hk1, hk2, hk3, hown, hus, hc1⟩
  have hz : z5.length = 5 := rfl
  rw [hz] at hk2 hk3
  obtain rfl : k = 3 := by omega
  obtain ⟨g0, g1, g2, g3⟩ := flatL_get 7 us 2 (by omega) (.bool false)
  have q2 := hown.cells (g := gr) rfl _ _ g2
  have q3 := hown.cells (g := gr) rfl _ _ g3
  rw [Addr.add_lit] at q2 q3
  have hi := hus 2 (by omega)
  have hcv : chV z5 (ckAt z5.length 2 2) = [5] := by decide
  rw [hcv] at hi
  obtain ⟨a5, c5, hv⟩ := hi.shape
  rw [hv] at q3 hi
  have hdec : decide (2 + 1 = us.length) = true := by rw [hul]; rfl
  rw [hdec] at q2
  have Hi := Lib.hid hi
  have Hc := Lib.hid (((Chg.refl [] w).alloc (.cells #[.int .i64 1, .int .i64 2, .int .i64 3, .int .i64 4, .int .i64 5] 3)).new hc1)
  clear g0 g1 g2 g3 hv hdec hcv hz hus hi hul hown hk1 hk2 hk3 hc1
  simp only [Nat.reduceMul, Nat.reduceAdd, List.length_cons, List.length_nil] at q2 q3
  go_wp2_with fail
  refine (refEqual_any _ _ _ [5] [5] (Hi.out.same ((Chg.refl [] w1).alloc _)).c (ints_one w1 5).c).mono ?_
  rintro e w2 ⟨rfl, rfl⟩
  go_wp2
  go_ret
  exact ⟨rfl, Hc.out.alloc _⟩
end Go.Proofs.Ytlhngcpodkiafaa
