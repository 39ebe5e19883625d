/- Plain: the place of the first element of which a test holds. -/
import Derived.Test.YticfigfipbcmhaaGreatDoorMem
namespace Go.Proofs.YticfigfipbcmhaaGreatDoor
set_option linter.unusedVariables false
/-- the place of the first element of which q holds, or -1 -/
def fidx {α : Type} (q : α → Bool) (l : List α) : Int := match l.findIdx? q with
  | some k => (k : Int)
  | none => -1
theorem fidx_some {α : Type} (q : α → Bool) (l : List α) (k : Nat) (hk : k < l.length) (d : α) (h : ∀ x ∈ l.take k, q x = false) (hq : q (l.getD k d) = true) : fidx q l = (k : Int) := by
  have : l.findIdx? q = some k := by
    rw [List.findIdx?_eq_some_iff_getElem]
    refine ⟨hk, by simpa [hk] using hq, fun j hj => ?_⟩
    have := h (l[j]'(by omega)) (by rw [List.mem_take_iff_getElem]; exact ⟨j, by omega, rfl⟩)
    simp [this]
  simp [fidx, this]
theorem fidx_none {α : Type} (q : α → Bool) (l : List α) (h : ∀ x ∈ l, q x = false) : fidx q l = -1 := by
  have : l.findIdx? q = none := by
    rw [List.findIdx?_eq_none_iff]
    exact h
  simp [fidx, this]
theorem fidx_any {α : Type} (q : α → Bool) (l : List α) : decide (0 ≤ fidx q l) = l.any q := by
  unfold fidx
  cases h : l.findIdx? q with
  | none =>
    rw [List.findIdx?_eq_none_iff] at h
    have : l.any q = false := List.any_eq_false.2 fun x hx => by simp [h x hx]
    rw [this]
    rfl
  | some k =>
    rw [List.findIdx?_eq_some_iff_getElem] at h
    obtain ⟨hk, hq, _⟩ := h
    have : l.any q = true := List.any_eq_true.2 ⟨_, List.getElem_mem hk, hq⟩
    rw [this]
    simp
theorem fidx_ge {α : Type} (q : α → Bool) (l : List α) : -1 ≤ fidx q l := by
  unfold fidx
  split <;> omega
theorem fidx_le {α : Type} (q : α → Bool) (l : List α) : fidx q l ≤ (l.length : Int) := by
  unfold fidx
  split
  · rename_i k h
    rw [List.findIdx?_eq_some_iff_getElem] at h
    obtain ⟨hk, _⟩ := h
    omega
  · omega
end Go.Proofs.YticfigfipbcmhaaGreatDoor
