/- validStep; Verify. -/
import Derived.Test.YtaciceaipmclgaaFxE
import Derived.Deep.DeepCutAuto
namespace Go.Proofs.Ytaciceaipmclgaa
open Go.RowKit
set_option linter.unusedVariables false
theorem VAt.start (w : World) (g off : Nat) (Q : PS) (capq i s k e : Nat) (q : Nat → Prop) (h : StepL q w (.slice (some ⟨g, off, none⟩) Q.length capq) e Q) :
    let W := ((w.alloc (.cells #[.slice (some ⟨g, off, none⟩) Q.length capq] 41)).alloc (.cells #[.int .i64 (i : Int)] 3)).alloc (.cells #[.int .i64 (s : Int), .int .i64 (k : Int), .int .i64 (e : Int)] 59)
    Chg [] w W ∧ VAt q W w.heap.size (w.heap.size + 1) (w.heap.size + 1 + 1) i e Q := by
  intro W
  have hc : Chg [] w W := (((Chg.refl [] w).alloc _).alloc _).alloc _
  have h0 : (w.alloc (.cells #[.slice (some ⟨g, off, none⟩) Q.length capq] 41)).cell? ⟨w.heap.size, 0, none⟩ = some (.slice (some ⟨g, off, none⟩) Q.length capq) := cell_of_heap (heap_at _ _ _ rfl) rfl
  have h1 : ((w.alloc (.cells #[.slice (some ⟨g, off, none⟩) Q.length capq] 41)).alloc (.cells #[.int .i64 (i : Int)] 3)).cell? ⟨w.heap.size + 1, 0, none⟩ = some (nv i) := cell_of_heap (heap_at _ _ _ (by simp)) rfl
  refine ⟨hc, ⟨_, _, ?_, h.kept hc (by simp)⟩, ?_, ?_⟩
  · exact ((((Chg.refl [] (w.alloc (.cells #[.slice (some ⟨g, off, none⟩) Q.length capq] 41))).alloc _).alloc _).cell (p := ⟨w.heap.size, 0, none⟩) (lt_of_cell h0) (by simp)).trans h0
  · exact (((Chg.refl [] ((w.alloc (.cells #[.slice (some ⟨g, off, none⟩) Q.length capq] 41)).alloc (.cells #[.int .i64 (i : Int)] 3))).alloc _).cell (p := ⟨w.heap.size + 1, 0, none⟩) (lt_of_cell h1) (by simp)).trans h1
  · exact cell_of_heap (heap_at _ _ _ (by simp)) rfl
set_option maxRecDepth 100000 in
set_option maxHeartbeats 2000000 in
theorem validStep_any (p q : Nat → Prop) (w : World) (R : Rules) (v vp : Value) (e i : Nat) (Q : PS) (hR : RulesAt p w v R) (hok : Okr R) (he : e < 20) (hQ : StepL q w vp e Q) (hV : ValidP R e Q) (hi : i < Q.length) :
    Calls Try.prog 30 #[v, vp, .int .i64 (i : Int)] w fun o w' => o = .returned (.bool true) ∧ Chg [] w w' := by
  obtain ⟨av, capv, rfl⟩ : ∃ a cap, v = .slice a R.length cap := by obtain ⟨a, cap, h, _⟩ := hR; exact ⟨a, cap, h⟩
  obtain ⟨aq, capq, rfl, hq1, hq2, hq3, _⟩ := id hQ
  obtain ⟨h1, h2, h3⟩ := hV i hi
  have hn60 := hok.size
  obtain ⟨sk, hsk⟩ : ∃ s, Q.getD i dPS = s := ⟨_, rfl⟩
  obtain ⟨g, off, rfl, q0, q1, q2⟩ := hQ.at i hi
  rw [hsk] at h1 h2 h3 q0 q1
  obtain ⟨s, k⟩ := sk
  simp only at h1 h2 q0 q1
  obtain ⟨gr, offr, u, rfl, r0, hl⟩ := hR.at s h1
  obtain ⟨au, capu, rfl, hml⟩ := hl.shape
  have hmem := getD_memb h1
  have hl20 := hok.rules _ hmem
  have hmask := hok.mask _ hmem
  have hidx := hok.idx _ hmem
  change ap e _ ((R.getD s []).getD k (0, [])) = true at h3
  obtain ⟨l, hle⟩ : ∃ l, R.getD s [] = l := ⟨_, rfl⟩
  rw [hle] at h2 h3 r0 hml hl hl20 hmask hidx
  obtain ⟨gl, offl, ur, rfl, s0, s1, hints⟩ := hl.at k h2
  obtain ⟨r, hre⟩ : ∃ r, l.getD k (0, []) = r := ⟨_, rfl⟩
  have hrm : r ∈ l := by rw [← hre]; exact getD_mem h2 (0, [])
  have hm := hmask r hrm
  have hx := hidx r hrm
  rw [hre] at h3 s0 hints
  obtain ⟨hbit, hdeps⟩ := (ap_iff _ _ _).1 h3
  obtain ⟨m, hmm⟩ : ∃ m : Nat, r.1 = (m : Int) := ⟨r.1.toNat, by omega⟩
  rw [hmm] at s0 hbit hm
  rw [Int.toNat_natCast] at hbit
  have hB := bit_eq m e (by unfold univ; omega)
  rw [if_pos hbit] at hB
  obtain ⟨ar, cr, rfl⟩ := SlF.shape hints
  have HQ := Lib.hid hQ
  have Hints := Lib.hid hints
  have Hx : Hid (∀ j ∈ r.2, 0 ≤ j ∧ j < 100) := Lib.hid (fun j hj => by have := hx j hj; omega)
  have Hd := Lib.hid hdeps
  have lq : g < w.heap.size := lt_of_cell q0
  have lr : gr < w.heap.size := lt_of_cell r0
  have ll : gl < w.heap.size := lt_of_cell s0
  have lr1 : gr < w.heap.size + 1 := by omega
  have lr2 : gr < w.heap.size + 1 + 1 := by omega
  have lr3 : gr < w.heap.size + 1 + 1 + 1 := by omega
  have ll1 : gl < w.heap.size + 1 := by omega
  have ll2 : gl < w.heap.size + 1 + 1 := by omega
  have ll3 : gl < w.heap.size + 1 + 1 + 1 := by omega
  have d1' : decide (R.length ≤ s) = false := by simp; omega
  have d3' : decide (l.length ≤ k) = false := by simp; omega
  have d5' : decide (20 ≤ e) = false := by simp; omega
  unfold maxLen at hml hq3
  clear hR hok hQ hV hsk h3 hl hle hl20 hmask hidx hre hrm hx hbit hdeps hmm hm hmem hints
  have a0 : (0 : Int) ≤ (s : Int) := by omega
  have a1 : (0 : Int) ≤ (k : Int) := by omega
  have a2 : (0 : Int) ≤ (e : Int) := by omega
  have a3 : (s : Int) < (R.length : Int) := by omega
  have a4 : (k : Int) < (l.length : Int) := by omega
  have a5 : (e : Int) < 20 := by omega
  have a6 : (0 : Int) ≤ (i : Int) := by omega
  have a7 : (i : Int) < (Q.length : Int) := by omega
  have d0 : decide ((s : Int) < 0) = false := by simp
  have d1 : decide ((R.length : Int) ≤ (s : Int)) = false := by simp; omega
  have d2 : decide ((k : Int) < 0) = false := by simp
  have d3 : decide ((l.length : Int) ≤ (k : Int)) = false := by simp; omega
  have d4 : decide ((e : Int) < 0) = false := by simp
  have d5 : decide ((20 : Int) ≤ (e : Int)) = false := by simp; omega
  go_enter Try.func30, Try.ntmps30
  go_upto_region 2 with (fail)
  go_quiet (fail)
  go_wp2
  go_region
  have hv := VAt.start w g off Q capq i s k e q HQ.out
  have hcd : Chg [] (((w.alloc (.cells #[.slice (some ⟨g, off, none⟩) Q.length capq] 41)).alloc (.cells #[.int .i64 (i : Int)] 3)).alloc (.cells #[.int .i64 (s : Int), .int .i64 (k : Int), .int .i64 (e : Int)] 59))
      (((((w.alloc (.cells #[.slice (some ⟨g, off, none⟩) Q.length capq] 41)).alloc (.cells #[.int .i64 (i : Int)] 3)).alloc (.cells #[.int .i64 (s : Int), .int .i64 (k : Int), .int .i64 (e : Int)] 59)).drewN (nq + 1)).alloc (.cells #[.int .i64 (m : Int), .slice ar r.2.length cr] 31)) := ((Chg.refl [] _).drewN _).alloc _
  have hcw := hv.1.trans hcd
  have Hc := Lib.hid (cfM_any q p _ _ _ _ i e Q _ r.2 (hv.2.kept hcd) (by omega) (Hints.out.kept hcw (by simp)) Hx.out Hd.out)
  have Hcw := Lib.hid hcw
  clear hv hcd hcw
  go_wp2_with fail
  refine Hc.out.mono ?_
  rintro o w1 ⟨rfl, c1⟩
  go_wp2
  go_ret
  exact ⟨rfl, Hcw.out.trans c1⟩
end Go.Proofs.Ytaciceaipmclgaa
