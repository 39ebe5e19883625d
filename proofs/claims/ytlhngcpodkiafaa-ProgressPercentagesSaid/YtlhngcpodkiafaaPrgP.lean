/- Percentages, plain. -/
import Derived.Test.YtlhngcpodkiafaaBase
namespace Go.Proofs.Ytlhngcpodkiafaa
set_option linter.unusedVariables false
/-- the percentage of n of t -/
def pc (t n : Int) : Int := min (max n 0) t * 100 / t
theorem pc_bd {t n : Int} (ht : 1 ≤ t) : 0 ≤ pc t n ∧ pc t n ≤ 100 := by
  unfold pc
  have h0 : 0 ≤ min (max n 0) t := by omega
  have h1 : min (max n 0) t ≤ t := by omega
  refine ⟨Int.ediv_nonneg (by omega) (by omega), Int.ediv_le_of_le_mul (by omega) (by omega)⟩
theorem pc_full {t n : Int} (ht : 1 ≤ t) : pc t n = 100 ↔ t ≤ n := by
  have hb := pc_bd (n := n) ht
  constructor
  · intro h
    have : 100 ≤ min (max n 0) t * 100 / t := by unfold pc at h; omega
    have := (Int.le_ediv_iff_mul_le (by omega)).1 this
    omega
  · intro h
    have : 100 ≤ min (max n 0) t * 100 / t := (Int.le_ediv_iff_mul_le (by omega)).2 (by omega)
    unfold pc at hb ⊢
    omega
/-- is the percentage p reported behind the percentage l? -/
def pgo (s l p : Int) : Bool := (p == 100 && decide (l < 100)) || decide (l + s ≤ p)
/-- what is reported -/
structure Rep (t s : Int) (ds : List Int) (rep : List Int) (l : Int) : Prop where
  last : l = rep.getLastD 0
  lo : 0 ≤ l
  hi : l ≤ 100
  all : ∀ x ∈ rep, 1 ≤ x ∧ x ≤ 100 ∧ x ≤ l
  inc : rep.Pairwise (· < ·)
  len : rep.length ≤ ds.length
  fin : l = 100 ↔ ∃ n ∈ ds, t ≤ n
theorem Rep.nil (t s : Int) : Rep t s [] [] 0 := ⟨rfl, by decide, by decide, by simp, by simp, by simp, by simp⟩
theorem Rep.yes {t s : Int} {ds rep : List Int} {l n : Int} (h : Rep t s ds rep l) (ht : 1 ≤ t) (hs : 1 ≤ s) (hg : pgo s l (pc t n) = true) : Rep t s (ds ++ [n]) (rep ++ [pc t n]) (pc t n) := by
  have hb := pc_bd (n := n) ht
  have hf := pc_full (n := n) ht
  have hlt : l < pc t n := by
    simp only [pgo, Bool.or_eq_true, Bool.and_eq_true, beq_iff_eq, decide_eq_true_eq] at hg
    omega
  have h0 := h.lo
  refine ⟨by simp, hb.1, hb.2, fun x hx => ?_, ?_, by simp [h.len], ?_⟩
  · rcases List.mem_append.1 hx with hx | hx
    · have := h.all x hx; omega
    · obtain rfl := List.mem_singleton.1 hx; omega
  · rw [List.pairwise_append]
    exact ⟨h.inc, by simp, fun a ha b hb => by obtain rfl := List.mem_singleton.1 hb; have := h.all a ha; omega⟩
  · rw [hf]
    constructor
    · exact fun h => ⟨n, by simp, h⟩
    · rintro ⟨m, hm, hmt⟩
      rcases List.mem_append.1 hm with hm | hm
      · have := h.fin.2 ⟨m, hm, hmt⟩; omega
      · obtain rfl := List.mem_singleton.1 hm; exact hmt
theorem Rep.no {t s : Int} {ds rep : List Int} {l n : Int} (h : Rep t s ds rep l) (ht : 1 ≤ t) (hg : pgo s l (pc t n) = false) : Rep t s (ds ++ [n]) rep l := by
  have hb := pc_bd (n := n) ht
  have hf := pc_full (n := n) ht
  have h0 := h.hi
  refine ⟨h.last, h.lo, h.hi, h.all, h.inc, by have := h.len; simp; omega, ?_⟩
  rw [h.fin]
  constructor
  · rintro ⟨m, hm, hmt⟩; exact ⟨m, by simp [hm], hmt⟩
  · rintro ⟨m, hm, hmt⟩
    rcases List.mem_append.1 hm with hm | hm
    · exact ⟨m, hm, hmt⟩
    · obtain rfl := List.mem_singleton.1 hm
      have h100 := hf.2 hmt
      rw [h100] at hg
      have : l = 100 := by
        by_cases h : l < 100
        · simp [pgo, h] at hg
        · omega
      exact h.fin.1 this
/-- an element of what is reported is larger than the one ahead of it -/
theorem Rep.lt {t s : Int} {ds rep : List Int} {l : Int} (h : Rep t s ds rep l) (k : Nat) (hk : k + 1 < rep.length) : rep.getD k 0 < rep.getD (k + 1) 0 := by
  have := List.pairwise_iff_getElem.1 h.inc k (k + 1) (by omega) hk (by omega)
  simpa [List.getD_eq_getElem?_getD, hk, (show k < rep.length by omega)] using this
theorem Rep.at {t s : Int} {ds rep : List Int} {l : Int} (h : Rep t s ds rep l) (k : Nat) (hk : k < rep.length) : 1 ≤ rep.getD k 0 ∧ rep.getD k 0 ≤ 100 := by
  have := h.all (rep.getD k 0) (by simp [hk])
  omega
end Go.Proofs.Ytlhngcpodkiafaa
