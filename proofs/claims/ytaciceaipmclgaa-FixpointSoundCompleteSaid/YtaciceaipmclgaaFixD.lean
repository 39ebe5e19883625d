/- propagate. -/
import Derived.Test.YtaciceaipmclgaaFixC
namespace Go.Proofs.Ytaciceaipmclgaa
open Go.RowKit
set_option linter.unusedVariables false
theorem take_snoc {α : Type} (l : List α) (k : Nat) (hk : k < l.length) (d : α) : l.take (k + 1) = l.take k ++ [l.getD k d] := by
  rw [List.take_succ_eq_append_getElem hk]
  simp [hk]
/-- the readers that are known when the sets below i, of set i the rules below k, of rule k the indices below m have been gone through -/
structure RdOk (R : Rules) (rd : Nat → List Nat) (i k m : Nat) : Prop where
  f1 : ∀ a, a < i → ∀ r ∈ R.getD a [], ∀ j ∈ r.2, a ∈ rd j.toNat
  f2 : ∀ r ∈ (R.getD i []).take k, ∀ j ∈ r.2, i ∈ rd j.toNat
  f3 : ∀ j ∈ (((R.getD i []).getD k (0, [])).2).take m, i ∈ rd j.toNat
  lt : ∀ j, ∀ x ∈ rd j, x < R.length
  nodup : ∀ j, (rd j).Nodup
theorem RdOk.start (R : Rules) : RdOk R (fun _ => []) 0 0 0 := ⟨fun a h => absurd h (by omega), by simp, by simp, by simp, by simp⟩
theorem RdOk.seen {R : Rules} {rd : Nat → List Nat} {i k m : Nat} (h : RdOk R rd i k m) (hm : m < ((R.getD i []).getD k (0, [])).2.length) (hi : i ∈ rd (((R.getD i []).getD k (0, [])).2.getD m 0).toNat) : RdOk R rd i k (m + 1) :=
  ⟨h.f1, h.f2, fun j hj => by
    rw [take_snoc _ m hm 0, List.mem_append] at hj
    rcases hj with hj | hj
    · exact h.f3 j hj
    · rw [List.mem_singleton] at hj
      subst hj
      exact hi, h.lt, h.nodup⟩
theorem RdOk.add {R : Rules} {rd : Nat → List Nat} {i k m : Nat} (h : RdOk R rd i k m) (hiR : i < R.length) (hm : m < ((R.getD i []).getD k (0, [])).2.length) (c : Nat) (hc : (((R.getD i []).getD k (0, [])).2.getD m 0).toNat = c) (hn : i ∉ rd c) :
    RdOk R (fun a => if a = c then rd c ++ [i] else rd a) i k (m + 1) := by
  have up : ∀ a x, x ∈ rd a → x ∈ (fun a => if a = c then rd c ++ [i] else rd a) a := fun a x hx => by
    simp only
    split
    · rename_i e; subst e; exact List.mem_append_left _ hx
    · exact hx
  refine RdOk.seen (rd := fun a => if a = c then rd c ++ [i] else rd a) ⟨fun a ha r hr j hj => up _ _ (h.f1 a ha r hr j hj), fun r hr j hj => up _ _ (h.f2 r hr j hj), fun j hj => up _ _ (h.f3 j hj), fun j x hx => ?_, fun j => ?_⟩ hm (by rw [hc]; simp)
  · split at hx
    · rcases List.mem_append.1 hx with hx | hx
      · exact h.lt _ x hx
      · rw [List.mem_singleton.1 hx]; exact hiR
    · exact h.lt _ x hx
  · split
    · rw [List.nodup_append]
      exact ⟨h.nodup c, by simp, fun a ha b hb e => by rw [List.mem_singleton.1 hb] at e; subst e; exact hn ha⟩
    · exact h.nodup j
theorem RdOk.rule {R : Rules} {rd : Nat → List Nat} {i k m : Nat} (h : RdOk R rd i k m) (hk : k < (R.getD i []).length) (hm : ((R.getD i []).getD k (0, [])).2.length ≤ m) : RdOk R rd i (k + 1) 0 :=
  ⟨h.f1, fun r hr j hj => by
    rw [take_snoc _ k hk (0, []), List.mem_append] at hr
    rcases hr with hr | hr
    · exact h.f2 r hr j hj
    · rw [List.mem_singleton] at hr
      subst hr
      refine h.f3 j ?_
      rw [List.take_of_length_le hm]
      exact hj, by simp, h.lt, h.nodup⟩
theorem RdOk.set {R : Rules} {rd : Nat → List Nat} {i k m : Nat} (h : RdOk R rd i k m) (hk : (R.getD i []).length ≤ k) : RdOk R rd (i + 1) 0 0 :=
  ⟨fun a ha r hr j hj => by
    by_cases e : a = i
    · subst e
      refine h.f2 r ?_ j hj
      rw [List.take_of_length_le hk]
      exact hr
    · exact h.f1 a (by omega) r hr j hj, by simp, by simp, h.lt, h.nodup⟩
theorem RdOk.all {R : Rules} {rd : Nat → List Nat} {i k m : Nat} (h : RdOk R rd i k m) (hi : R.length ≤ i) : ∀ b c, b < R.length → (∃ r ∈ R.getD b [], ∃ j ∈ r.2, j.toNat = c) → b ∈ rd c := by
  rintro b c hb ⟨r, hr, j, hj, rfl⟩
  exact h.f1 b (by omega) r hr j hj
end Go.Proofs.Ytaciceaipmclgaa
