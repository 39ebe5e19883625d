/- Slices of ints, read cell by cell (whatever block they lie in). -/
import Derived.Test.YtlhngcpodkiafaaInts
import Derived.Test.YtlhngcpodkiafaaMem
namespace Go.Proofs.Ytlhngcpodkiafaa
open Go.RowKit
set_option linter.unusedVariables false
def IntsC (w : World) (v : Value) (xs : List Int) : Prop :=
  ∃ a cap, v = .slice a xs.length cap ∧ xs.length ≤ cap ∧ cap ≤ maxLen ∧ ∀ i, i < xs.length → ∃ g off, a = some ⟨g, off, none⟩ ∧ w.cell? ⟨g, off + i, none⟩ = some (.int .i64 (xs.getD i 0))
theorem Ints.c {w : World} {v : Value} {xs : List Int} (h : Ints w v xs) : IntsC w v xs := by
  have hc := h.cells
  rcases h with ⟨rfl, h0⟩ | ⟨g, off, cap, c, fr, rfl, h2, h3, h4, h5⟩
  · have : xs = [] := by simpa using h0
    subst this
    exact ⟨none, 0, rfl, Nat.le_refl _, by unfold maxLen; decide, fun i hi => by simp at hi⟩
  · rw [List.length_map] at h2 hc ⊢
    refine ⟨_, cap, rfl, h2, h3, fun i hi => ?_⟩
    rcases hc with ⟨h, _⟩ | ⟨g', off', cap', h, _, hc⟩
    · cases h
    · cases h
      exact ⟨g, off, rfl, hc i hi⟩
theorem IntsP.c {p : Nat → Prop} {w : World} {v : Value} {xs : List Int} (h : IntsP p w v xs) : IntsC w v xs := by
  obtain ⟨a, cap, rfl, h1, h2, h3⟩ := h
  refine ⟨a, cap, rfl, h1, h2, fun i hi => ?_⟩
  obtain ⟨g, off, rfl, _, hc⟩ := h3 (by omega)
  have := hc i hi
  rw [Nat.mul_one] at this
  refine ⟨g, off, rfl, ?_⟩
  rw [List.getD_eq_getElem?_getD, List.getElem?_eq_getElem hi]
  exact this
theorem IntsC.same {w w' : World} {v : Value} {xs : List Int} (h : IntsC w v xs) (hc : Chg [] w w') : IntsC w' v xs := by
  obtain ⟨a, cap, rfl, h1, h2, h3⟩ := h
  refine ⟨a, cap, rfl, h1, h2, fun i hi => ?_⟩
  obtain ⟨g, off, rfl, q⟩ := h3 i hi
  exact ⟨g, off, rfl, (hc.cell (p := ⟨g, off + i, none⟩) (lt_of_cell q) (by simp)).trans q⟩
theorem IntsC.shape {w : World} {v : Value} {xs : List Int} (h : IntsC w v xs) : ∃ a cap, v = .slice a xs.length cap ∧ xs.length ≤ cap ∧ cap ≤ maxLen := by
  obtain ⟨a, cap, h0, h1, h2, _⟩ := h
  exact ⟨a, cap, h0, h1, h2⟩
theorem IntsC.at {w : World} {a : Option Addr} {n cap : Nat} {xs : List Int} (h : IntsC w (.slice a n cap) xs) (i : Nat) (hi : i < xs.length) : ∃ g off, a = some ⟨g, off, none⟩ ∧ w.cell? ⟨g, off + i, none⟩ = some (.int .i64 (xs.getD i 0)) := by
  obtain ⟨a', cap', h0, _, _, h3⟩ := h
  cases h0
  exact h3 i hi
theorem IntsC.sub {w : World} {g off n cap : Nat} {zs : List Int} (h : IntsC w (.slice (some ⟨g, off, none⟩) n cap) zs) (hn : zs.length = n) (x y : Nat) (hxy : x + y ≤ n) (c : Nat) (hc1 : y ≤ c) (hc2 : c ≤ maxLen) : IntsC w (.slice (some ⟨g, off + x, none⟩) y c) ((List.range y).map fun j => zs.getD (x + j) 0) := by
  subst hn
  refine ⟨some ⟨g, off + x, none⟩, c, by simp, by simpa using hc1, hc2, fun i hi => ?_⟩
  rw [List.length_map, List.length_range] at hi
  obtain ⟨g', off', e, q⟩ := h.at (x + i) (by omega)
  cases e
  refine ⟨g, off + x, rfl, ?_⟩
  rw [Nat.add_assoc, q]
  simp [hi]
theorem IntsC.take {w : World} {a : Option Addr} {cap : Nat} {zs : List Int} (h : IntsC w (.slice a zs.length cap) zs) (m : Nat) (hm : m ≤ zs.length) : IntsC w (.slice a m cap) (zs.take m) := by
  have hl : (zs.take m).length = m := by rw [List.length_take]; omega
  obtain ⟨a', cap', h0, h1, h2, h3⟩ := h
  cases h0
  refine ⟨a, cap, by rw [hl], by rw [hl]; omega, h2, fun i hi => ?_⟩
  rw [hl] at hi
  obtain ⟨g, off, rfl, q⟩ := h3 i (by omega)
  refine ⟨g, off, rfl, ?_⟩
  rw [q]
  simp [hi]
/-- slices.Clone -/
theorem slicesCloneC (w : World) (g off n cap : Nat) (xs : List Int) (h : IntsC w (.slice (some ⟨g, off, none⟩) n cap) xs) (hl : xs.length * 8 ≤ 140737488355328) :
    Calls Try.prog 16 #[.slice (some ⟨g, off, none⟩) n cap] w fun e w' => ∃ a c, e = .returned (.slice a n c) ∧ Ints w' (.slice a n c) xs ∧ Chg [] w w' := by
  obtain ⟨a', cap', h0, h1, h2, h3⟩ := h
  cases h0
  refine (clone_some w g off cap xs hl (fun i hi => by obtain ⟨g', off', e, q⟩ := h3 i hi; cases e; exact q)).mono fun e w' ⟨v, he, hv, hw⟩ => ?_
  obtain ⟨a, c, rfl⟩ := hv.shape
  exact ⟨a, c, he, hv, hw⟩
/-- slices.Equal -/
theorem slicesEqualC (w : World) (v1 v2 : Value) (xs ys : List Int) (h1 : IntsC w v1 xs) (h2 : IntsC w v2 ys) :
    Calls Try.prog 18 #[v1, v2] w fun e w' => ∃ n, e = .returned (.bool (decide (xs = ys))) ∧ w' = w.drewN n := by
  obtain ⟨a1, c1, rfl, hm1, hm2, k1⟩ := h1
  obtain ⟨a2, c2, rfl, _, _, k2⟩ := h2
  by_cases hl : ys.length = xs.length
  · by_cases h0 : xs = []
    · subst h0
      have hy : ys = [] := List.eq_nil_of_length_eq_zero (by simpa using hl)
      subst hy
      exact (equal_zero w _ _ _ _).mono fun e w' ⟨he, hw⟩ => ⟨0, by rw [he]; rfl, hw⟩
    · have hp := List.length_pos_iff.2 h0
      obtain ⟨g1, o1, rfl, _⟩ := k1 0 hp
      obtain ⟨g2, o2, rfl, _⟩ := k2 0 (by omega)
      rw [hl]
      refine equal_same w g1 o1 c1 g2 o2 _ c2 xs ys (by omega) rfl hl (fun i hi => ?_) (fun i hi => ?_)
      · obtain ⟨g, o, e, q⟩ := k1 i hi
        cases e; exact q
      · obtain ⟨g, o, e, q⟩ := k2 i (by omega)
        cases e; exact q
  · exact (equal_lens w _ _ _ _ _ _ (by omega)).mono fun e w' ⟨he, hw⟩ => ⟨0, by rw [he]; exact ret_bool (decide_eq_false (fun e => hl (by rw [e]))).symm, hw⟩
end Go.Proofs.Ytlhngcpodkiafaa
