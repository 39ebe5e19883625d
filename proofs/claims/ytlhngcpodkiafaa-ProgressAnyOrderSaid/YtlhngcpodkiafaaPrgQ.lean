/- ProgressAnyOrder, plain: which chunks have come, which are to come. -/
import Derived.Test.YtlhngcpodkiafaaPrgN
namespace Go.Proofs.Ytlhngcpodkiafaa
open Go.RowKit
set_option linter.unusedVariables false
/-- P are to come, es have come, of N chunks with the ints X -/
structure AI (N : Nat) (X : Nat → List Int) (P : List Nat) (es : List CE) : Prop where
  nodup : P.Nodup
  lt : ∀ q ∈ P, q < N
  miss : ∀ q, q < N → q ∈ P ∨ ∃ c, aget es (q : Int) = some c
  ent : ∀ p ∈ es, ∃ q : Nat, q < N ∧ p.1 = (q : Int) ∧ p.2.last = decide (q + 1 = N) ∧ p.2.xs = X q
  inP : ∀ q ∈ P, aget es (q : Int) = none
  cnt : es.length + P.length = N
theorem AI.start (N : Nat) (X : Nat → List Int) : AI N X (List.range N) [] :=
  ⟨List.nodup_range, fun q h => List.mem_range.1 h, fun q h => Or.inl (List.mem_range.2 h), by simp, fun q _ => rfl, by simp⟩
theorem AI.bd {N : Nat} {X : Nat → List Int} {P : List Nat} {es : List CE} (h : AI N X P es) : ∀ p ∈ es, 0 ≤ p.1 ∧ p.1 < (N : Int) := fun p hp => by
  obtain ⟨q, h1, h2, _⟩ := h.ent p hp
  omega
theorem AI.fl {N : Nat} {X : Nat → List Int} {P : List Nat} {es : List CE} (h : AI N X P es) {f l : Int} (hb : Bd es f l) : (f < 0 ∨ f + 1 = N) ∧ l < N ∧ (f = -1 ∨ 0 ≤ f) := by
  refine ⟨?_, ?_, ?_⟩
  · rcases hb.1 with ⟨h, _⟩ | ⟨c, hm, hl⟩
    · exact Or.inl (by omega)
    · obtain ⟨q, h1, h2, h3, _⟩ := h.ent _ hm
      simp only at h2 h3
      rw [hl] at h3
      have := of_decide_eq_true h3.symm
      exact Or.inr (by omega)
  · rcases hb.2.2 with ⟨h1, h2⟩ | ⟨c, hm⟩
    · omega
    · have := (h.bd _ hm).2; exact this
  · rcases hb.1 with ⟨h, _⟩ | ⟨c, hm, hl⟩
    · exact Or.inl h
    · exact Or.inr (h.bd _ hm).1
/-- not all have come: the result is not complete -/
theorem AI.no {N : Nat} {X : Nat → List Int} {P : List Nat} {es : List CE} (h : AI N X P es) (hP : 0 < P.length) : ∀ f l, Bd es f l → f < 0 ∨ (es.length : Int) ≠ f + 1 := fun f l hb => by
  have := h.cnt
  rcases (h.fl hb).1 with h1 | h1
  · exact Or.inl h1
  · exact Or.inr (by omega)
/-- the chunk q may come -/
theorem AI.ok {N : Nat} {X : Nat → List Int} {P : List Nat} {es : List CE} (h : AI N X P es) {q : Nat} (hq : q ∈ P) : ∀ f l, Bd es f l → (f < 0 ∨ (q : Int) ≤ f) ∧ (decide (q + 1 = N) = false ∨ l ≤ (q : Int)) := fun f l hb => by
  have h1 := h.fl hb
  have hlt := h.lt q hq
  refine ⟨?_, ?_⟩
  · rcases h1.1 with h2 | h2
    · exact Or.inl h2
    · exact Or.inr (by omega)
  · by_cases e : q + 1 = N
    · exact Or.inr (by have := h1.2.1; omega)
    · exact Or.inl (by simp [e])
theorem length_ups_new {es : List CE} {q : Int} {c : CQ} (h : aget es q = none) : (ups es q c).length = es.length + 1 := by
  rw [ups_none (aget_none h)]; simp
theorem AI.step {N : Nat} {X : Nat → List Int} {P : List Nat} {es : List CE} (h : AI N X P es) {k : Nat} (hk : k < P.length) (a : Option Addr) (cap : Nat) :
    AI N X (P.take k ++ P.drop (k + 1)) (ups es (P[k] : Nat) ⟨decide (P[k] + 1 = N), a, cap, X P[k]⟩) := by
  have hm : P[k] ∈ P := List.getElem_mem hk
  have hsub : (P.take k ++ P.drop (k + 1)) = P.eraseIdx k := (List.eraseIdx_eq_take_drop_succ P k).symm
  rw [hsub]
  have hnin : P[k] ∉ P.eraseIdx k := by
    intro hmm
    obtain ⟨j, hj, hne, he⟩ := List.mem_eraseIdx_iff_getElem.1 hmm
    exact hne ((List.getElem_inj h.nodup).1 he)
  refine ⟨h.nodup.eraseIdx k, fun q hq => h.lt q (List.mem_of_mem_eraseIdx hq), fun q hq => ?_, fun p hp => ?_, fun q hq => ?_, ?_⟩
  · by_cases e : q = P[k]
    · subst e
      exact Or.inr ⟨_, by rw [aget_ups, if_pos rfl]⟩
    · rcases h.miss q hq with hq' | ⟨c, hc⟩
      · refine Or.inl ?_
        obtain ⟨j, hj, he⟩ := List.getElem_of_mem hq'
        exact List.mem_eraseIdx_iff_getElem.2 ⟨j, hj, fun e2 => e (by subst e2; exact he.symm), he⟩
      · exact Or.inr ⟨c, by rw [aget_ups, if_neg (by omega)]; exact hc⟩
  · rcases mem_ups hp with rfl | hp
    · exact ⟨P[k], h.lt _ hm, rfl, rfl, rfl⟩
    · exact h.ent p hp
  · rw [aget_ups, if_neg (fun e => hnin (by have : q = P[k] := by omega
                                            rw [← this]; exact hq))]
    exact h.inP q (List.mem_of_mem_eraseIdx hq)
  · rw [length_ups_new (h.inP _ hm), List.length_eraseIdx_of_lt hk]
    have := h.cnt
    omega
/-- all have come -/
theorem AI.fin {N : Nat} {X : Nat → List Int} {es : List CE} (h : AI N X [] es) (hN : 1 ≤ N) :
    ∃ cs : Nat → CQ, (∀ q, q < N → aget es (q : Int) = some (cs q)) ∧ (∀ q, q < N → (cs q).xs = X q) ∧ es.length = N ∧ ∀ f l, Bd es f l → f + 1 = N := by
  have hex : ∀ q, ∃ c, q < N → aget es (q : Int) = some c := fun q => by
    by_cases hq : q < N
    · rcases h.miss q hq with h1 | ⟨c, hc⟩
      · simp at h1
      · exact ⟨c, fun _ => hc⟩
    · exact ⟨⟨false, none, 0, []⟩, fun h => absurd h hq⟩
  refine ⟨fun q => (hex q).choose, fun q hq => (hex q).choose_spec hq, fun q hq => ?_, by have := h.cnt; simpa using this, fun f l hb => ?_⟩
  · obtain ⟨q', h1, h2, h3, h4⟩ := h.ent _ (aget_mem ((hex q).choose_spec hq))
    have : q = q' := by simp only at h2; omega
    subst this
    exact h4
  · have h1 := h.fl hb
    rcases hb.1 with ⟨h2, hall⟩ | ⟨c, hm, hl⟩
    · exfalso
      obtain ⟨q', g1, g2, g3, g4⟩ := h.ent _ (aget_mem ((hex (N - 1)).choose_spec (by omega)))
      have g5 := hall _ (aget_mem ((hex (N - 1)).choose_spec (by omega)))
      rw [g5] at g3
      have : q' + 1 = N := by simp only at g2; omega
      simp [this] at g3
    · rcases h1.1 with h2 | h2
      · have := (h.bd _ hm).1; simp only at this; omega
      · exact h2
end Go.Proofs.Ytlhngcpodkiafaa
