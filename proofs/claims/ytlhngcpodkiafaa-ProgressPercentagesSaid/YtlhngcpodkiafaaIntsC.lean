/- Slices of ints, read cell by cell (whatever block they lie in). -/
import Derived.Test.YtlhngcpodkiafaaInts
import Derived.Test.YtlhngcpodkiafaaMem
namespace Go.Proofs.Ytlhngcpodkiafaa
open Go.RowKit
set_option linter.unusedVariables false
def IntsC (w : World) (v : Value) (xs : List Int) : Prop :=
  ∃ a cap, v = .slice a xs.length cap ∧ xs.length ≤ cap ∧ cap ≤ maxLen ∧ ∀ i, i < xs.length → ∃ g off, a = some ⟨g, off, none⟩ ∧ w.cell? ⟨g, off + i, none⟩ = some (.int .i64 (xs.getD i 0))
theorem Ints.c {w : World} {v : Value} {xs : List Int} (h : Ints w v xs) : IntsC w v xs := by
  have hc := h.cells
  rcases h with ⟨rfl, h0⟩ | ⟨g, off, cap, c, fr, rfl, h2, h3, h4, h5⟩
  · have : xs = [] := by simpa using h0
    subst this
    exact ⟨none, 0, rfl, Nat.le_refl _, by unfold maxLen; decide, fun i hi => by simp at hi⟩
  · rw [List.length_map] at h2 hc ⊢
    refine ⟨_, cap, rfl, h2, h3, fun i hi => ?_⟩
    rcases hc with ⟨h, _⟩ | ⟨g', off', cap', h, _, hc⟩
    · cases h
    · cases h
      exact ⟨g, off, rfl, hc i hi⟩
theorem IntsP.c {p : Nat → Prop} {w : World} {v : Value} {xs : List Int} (h : IntsP p w v xs) : IntsC w v xs := by
  obtain ⟨a, cap, rfl, h1, h2, h3⟩ := h
  refine ⟨a, cap, rfl, h1, h2, fun i hi => ?_⟩
  obtain ⟨g, off, rfl, _, hc⟩ := h3 (by omega)
  have := hc i hi
  rw [Nat.mul_one] at this
  refine ⟨g, off, rfl, ?_⟩
  rw [List.getD_eq_getElem?_getD, List.getElem?_eq_getElem hi]
  exact this
theorem IntsC.same {w w' : World} {v : Value} {xs : List Int} (h : IntsC w v xs) (hc : Chg [] w w') : IntsC w' v xs := by
  obtain ⟨a, cap, rfl, h1, h2, h3⟩ := h
  refine ⟨a, cap, rfl, h1, h2, fun i hi => ?_⟩
  obtain ⟨g, off, rfl, q⟩ := h3 i hi
  exact ⟨g, off, rfl, (hc.cell (p := ⟨g, off + i, none⟩) (lt_of_cell q) (by simp)).trans q⟩
theorem IntsC.shape {w : World} {v : Value} {xs : List Int} (h : IntsC w v xs) : ∃ a cap, v = .slice a xs.length cap ∧ xs.length ≤ cap ∧ cap ≤ maxLen := by
  obtain ⟨a, cap, h0, h1, h2, _⟩ := h
  exact ⟨a, cap, h0, h1, h2⟩
theorem IntsC.at {w : World} {a : Option Addr} {n cap : Nat} {xs : List Int} (h : IntsC w (.slice a n cap) xs) (i : Nat) (hi : i < xs.length) : ∃ g off, a = some ⟨g, off, none⟩ ∧ w.cell? ⟨g, off + i, none⟩ = some (.int .i64 (xs.getD i 0)) := by
  obtain ⟨a', cap', h0, _, _, h3⟩ := h
  cases h0
  exact h3 i hi
theorem IntsC.sub {w : World} {g off n cap : Nat} {zs : List Int} (h : IntsC w (.slice (some ⟨g, off, none⟩) n cap) zs) (hn : zs.length = n) (x y : Nat) (hxy : x + y ≤ n) (c : Nat) (hc1 : y ≤ c) (hc2 : c ≤ maxLen) : IntsC w (.slice (some ⟨g, off + x, none⟩) y c) ((List.range y).map fun j => zs.getD (x + j) 0) := by
  subst hn
  refine ⟨some ⟨g, off + x, none⟩, c, by simp, by simpa using hc1, hc2, fun i hi => ?_⟩
  rw [List.length_map, List.length_range] at hi
  obtain ⟨g', off', e, q⟩ := h.at (x + i) (by omega)
  cases e
  refine ⟨g, off + x, rfl, ?_⟩
  rw [Nat.add_assoc, q]
  simp [hi]
theorem IntsC.take {w : World} {a : Option Addr} {cap : Nat} {zs : List Int} (h : IntsC w (.slice a zs.length cap) zs) (m : Nat) (hm : m ≤ zs.length) : IntsC w (.slice a m cap) (zs.take m) := by
  have hl : (zs.take m).length = m := by rw [List.length_take]; omega
  obtain ⟨a', cap', h0, h1, h2, h3⟩ := h
  cases h0
  refine ⟨a, cap, by rw [hl], by rw [hl]; omega, h2, fun i hi => ?_⟩
  rw [hl] at hi
  obtain ⟨g, off, rfl, q⟩ := h3 i (by omega)
  refine ⟨g, off, rfl, ?_⟩
  rw [q]
  simp [hi]
/-- slices.Clone -/
theorem slicesCloneC (w : World) (g off n cap : Nat) (xs : List Int) (h : IntsC w (.slice (some ⟨g, off, none⟩) n cap) xs) (hl : xs.length * 8 ≤ 140737488355328) :
    Calls Try.prog 16 #[.slice (some ⟨g, off, none⟩) n cap] w fun e w' => ∃ a c, e = .returned (.slice a n c) ∧ Ints w' (.slice a n c) xs ∧ Chg [] w w' := by
  obtain ⟨a', cap', h0, h1, h2, h3⟩ := h
  cases h0
  refine (clone_some w g off cap xs hl (fun i hi => by obtain ⟨g', off', e, q⟩ := h3 i hi; cases e; exact q)).mono fun e w' ⟨v, he, hv, hw⟩ => ?_
  obtain ⟨a, c, rfl⟩ := hv.shape
  exact ⟨a, c, he, hv, hw⟩
end Go.Proofs.Ytlhngcpodkiafaa
