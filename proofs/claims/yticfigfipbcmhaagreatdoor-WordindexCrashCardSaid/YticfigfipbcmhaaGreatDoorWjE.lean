/- The helpers of the journal's laws: R.Equal at records, written, journalExample, Mod. -/
import Derived.Test.YticfigfipbcmhaaGreatDoorWjD
namespace Go.Proofs.YticfigfipbcmhaaGreatDoor.J
open Go.RowKit
/-- a slice of records, read -/
def Recs (w : World) (v : Value) (rs : List Rec) : Prop :=
  (∃ a cap, v = .slice a 0 cap ∧ rs = []) ∨ ∃ g off cap, v = .slice (some ⟨g, off, none⟩) rs.length cap ∧ rs.length ≤ cap ∧ rs.length ≤ maxLen ∧
    ∀ i, i < rs.length → w.cell? ⟨g, off + i * 3, none⟩ = some (.string (rs.getD i Rec.zero).key) ∧ w.cell? ⟨g, off + i * 3 + 1, none⟩ = some (.string (rs.getD i Rec.zero).val) ∧ w.cell? ⟨g, off + i * 3 + 2, none⟩ = some (.bool (rs.getD i Rec.zero).del)
theorem recVals_get (rs : List Rec) : ∀ i, i < rs.length → (recVals rs)[i * 3]? = some (.string (rs.getD i Rec.zero).key) ∧ (recVals rs)[i * 3 + 1]? = some (.string (rs.getD i Rec.zero).val) ∧ (recVals rs)[i * 3 + 2]? = some (.bool (rs.getD i Rec.zero).del) := by
  induction rs with
  | nil => intro i hi; simp at hi
  | cons r rs ih =>
    intro i hi
    cases i with
    | zero => exact ⟨rfl, rfl, rfl⟩
    | succ i =>
      have := ih i (by simpa using hi)
      have e : (i + 1) * 3 = i * 3 + 3 := by omega
      simp only [recVals, List.flatMap_cons, e, List.getD_cons_succ] at this ⊢
      exact this
theorem OwnRecs.recs {w : World} {base : Nat} {v : Value} {rs : List Rec} (h : OwnRecs w base v rs) : Recs w v rs := by
  rcases h.2 with ⟨rfl, h0⟩ | ⟨g, cap, cur, rfl, _, hh, hnc, hcm, _, _⟩
  · exact Or.inl ⟨none, 0, rfl, List.eq_nil_of_length_eq_zero h0⟩
  · refine Or.inr ⟨g, 0, cap, rfl, hnc, by omega, fun i hi => ?_⟩
    have hc := fun {g : Nat} hg => World.ownsRow.cells h (g := g) hg
    obtain ⟨e0, e1, e2⟩ := recVals_get rs i hi
    have k0 := hc (g := g) rfl _ _ e0
    have k1 := hc (g := g) rfl _ _ e1
    have k2 := hc (g := g) rfl _ _ e2
    rw [Addr.add_lit] at k0 k1 k2
    simp only [Nat.zero_add, ← Nat.add_assoc] at k0 k1 k2 ⊢
    exact ⟨k0, k1, k2⟩
theorem Recs.same {w w' : World} {v : Value} {rs : List Rec} (h : Recs w v rs) (hc : Chg [] w w') : Recs w' v rs := by
  rcases h with h | ⟨g, off, cap, h1, h2, h3, h4⟩
  · exact Or.inl h
  · refine Or.inr ⟨g, off, cap, h1, h2, h3, fun i hi => ?_⟩
    obtain ⟨q0, q1, q2⟩ := h4 i hi
    have lg := lt_of_cell q0
    exact ⟨(hc.cell lg (by simp)).trans q0, (hc.cell (p := ⟨g, off + i * 3 + 1, none⟩) lg (by simp)).trans q1, (hc.cell (p := ⟨g, off + i * 3 + 2, none⟩) lg (by simp)).trans q2⟩
theorem Recs.take {w : World} {g off cap n : Nat} {rs : List Rec} (h : Recs w (.slice (some ⟨g, off, none⟩) rs.length cap) rs) (hn : n ≤ rs.length) (hn0 : 0 < n) : Recs w (.slice (some ⟨g, off, none⟩) n cap) (rs.take n) := by
  rcases h with ⟨a, cap', h1, h2⟩ | ⟨g', off', cap', h1, h2, h3, h4⟩
  · subst h2
    simp at hn
    omega
  · simp only [Value.slice.injEq, Option.some.injEq, Addr.mk.injEq, and_true, true_and] at h1
    obtain ⟨⟨rfl, rfl⟩, rfl⟩ := h1
    have hl : (rs.take n).length = n := by simp; omega
    refine Or.inr ⟨g, off, cap, by rw [hl], by omega, by omega, fun i hi => ?_⟩
    rw [hl] at hi
    have e : (rs.take n).getD i Rec.zero = rs.getD i Rec.zero := by simp [List.getD_eq_getElem?_getD, hi]
    rw [e]
    exact h4 i (by omega)
end Go.Proofs.YticfigfipbcmhaaGreatDoor.J
