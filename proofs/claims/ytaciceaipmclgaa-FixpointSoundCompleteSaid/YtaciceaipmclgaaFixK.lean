/- Plain: a rule added, a rule removed. -/
import Derived.Test.YtaciceaipmclgaaFixJ
namespace Go.Proofs.Ytaciceaipmclgaa
set_option linter.unusedVariables false
/-- the system with rule r behind the rules of set i -/
def addR (R : Rules) (i : Nat) (r : Rule) : Rules := R.set i (R.getD i [] ++ [r])
theorem addR_len (R : Rules) (i : Nat) (r : Rule) : (addR R i r).length = R.length := List.length_set
theorem addR_getD {R : Rules} {i : Nat} (hi : i < R.length) (r : Rule) (k : Nat) : (addR R i r).getD k [] = if k = i then R.getD i [] ++ [r] else R.getD k [] := by
  unfold addR
  rw [List.getD_eq_getElem?_getD, List.getElem?_set]
  by_cases h : i = k
  · subst h; simp [hi]
  · rw [if_neg h, if_neg (Ne.symm h), List.getD_eq_getElem?_getD]
theorem sol_addR {R : Rules} {i : Nat} (hi : i < R.length) {r : Rule} {T : List Nat} (h : sol (addR R i r) T) : sol R T := fun k hk x hx =>
  h k (by rw [addR_len]; exact hk) x (by
    rw [addR_getD hi]
    split
    · rename_i e; subst e; exact List.mem_append_left _ hx
    · exact hx)
/-- adding: from the least solution upwards -/
theorem Lst.added {R : Rules} {S S' : List Nat} {i : Nat} {r : Rule} (hi : i < R.length) (h : Lst R S) (hw : Wk (addR R i r) S S' []) (hb : ∀ x ∈ S', x ≤ univ) : Lst (addR R i r) S' ∧ subs S S' :=
  ⟨⟨hw.len, hb, hw.sol, fun T hT => hw.least T hT (h.least T (sol_addR hi hT))⟩, hw.low⟩
/-- what has to be derived again once the last rule of set i is taken off -/
structure Del (R : Rules) (S D : List Nat) (i : Nat) (r : Rule) : Prop where
  len : D.length = R.length
  at_ : sub (der S r) (D.getD i 0)
  clos : ∀ a, a < R.length → ∀ x ∈ R.getD a [], ∀ j ∈ x.2, sub (der S x &&& D.getD j.toNat 0) (D.getD a 0)
theorem der_bit_fold (S : List Nat) (k : Nat) (l : List Int) : ∀ a, (l.foldl (fun e j => e &&& S.getD j.toNat 0) a).testBit k = true ↔ a.testBit k = true ∧ ∀ j ∈ l, (S.getD j.toNat 0).testBit k = true := by
  induction l with
  | nil => intro a; simp
  | cons j l ih =>
    intro a
    rw [List.foldl_cons, ih, Nat.testBit_and, Bool.and_eq_true]
    constructor
    · rintro ⟨⟨h1, h2⟩, h3⟩
      exact ⟨h1, fun x hx => by
        rcases List.mem_cons.1 hx with rfl | hx
        · exact h2
        · exact h3 x hx⟩
    · rintro ⟨h1, h2⟩
      exact ⟨⟨h1, h2 j (by simp)⟩, fun x hx => h2 x (by simp [hx])⟩
theorem der_bit (S : List Nat) (r : Rule) (k : Nat) : (der S r).testBit k = true ↔ r.1.toNat.testBit k = true ∧ ∀ j ∈ r.2, (S.getD j.toNat 0).testBit k = true := der_bit_fold S k r.2 _
/-- what is left is below the least solution without the rule -/
theorem Del.rest {R : Rules} {S S' D : List Nat} {i : Nat} {r : Rule} (hi : i < R.length) (h : Lst R S) (h' : Lst (addR R i r) S') (hd : Del (addR R i r) S' D i r) : ∀ a k, (S'.getD a 0).testBit k = true → (D.getD a 0).testBit k = false → (S.getD a 0).testBit k = true := by
  have hlen : (addR R i r).length = R.length := addR_len R i r
  let T : List Nat := (List.range R.length).map fun a => S'.getD a 0 &&& (D.getD a 0 ||| S.getD a 0)
  have hT : ∀ a, T.getD a 0 = S'.getD a 0 &&& (D.getD a 0 ||| S.getD a 0) := by
    intro a
    by_cases ha : a < R.length
    · exact range_map_getD _ _ _ _ ha
    · have h1 : T.getD a 0 = 0 := by
        rw [List.getD_eq_getElem?_getD, List.getElem?_eq_none (by simp [T]; omega)]
        rfl
      have h2 : S'.getD a 0 = 0 := by
        rw [List.getD_eq_getElem?_getD, List.getElem?_eq_none (by rw [h'.len, hlen]; omega)]
        rfl
      rw [h1, h2, Nat.zero_and]
  have hTS : subs T S' := fun a k hk => by
    rw [hT, Nat.testBit_and, Bool.and_eq_true] at hk
    exact hk.1
  have hsol : sol (addR R i r) T := by
    intro a ha x hx k hk
    rw [hlen] at ha
    have hk' := der_mono hTS x k hk
    rw [hT, Nat.testBit_and, Nat.testBit_or, Bool.and_eq_true, Bool.or_eq_true]
    refine ⟨h'.sol a (by rw [hlen]; exact ha) x hx k hk', ?_⟩
    by_cases hj : ∃ j ∈ x.2, (D.getD j.toNat 0).testBit k = true
    · obtain ⟨j, hjx, hjd⟩ := hj
      refine Or.inl (hd.clos a (by rw [hlen]; exact ha) x hx j hjx k ?_)
      rw [Nat.testBit_and, hk', hjd]
      rfl
    · have hS : (der S x).testBit k = true := by
        rw [der_bit] at hk ⊢
        refine ⟨hk.1, fun j hjx => ?_⟩
        have h1 := hk.2 j hjx
        rw [hT, Nat.testBit_and, Nat.testBit_or, Bool.and_eq_true, Bool.or_eq_true] at h1
        rcases h1.2 with h2 | h2
        · exact absurd ⟨j, hjx, h2⟩ hj
        · exact h2
      rw [addR_getD hi] at hx
      split at hx
      · rename_i e
        subst e
        rcases List.mem_append.1 hx with hx | hx
        · exact Or.inr (h.sol a ha x hx k hS)
        · rw [List.mem_singleton] at hx
          subst hx
          exact Or.inl (hd.at_ k hk')
      · exact Or.inr (h.sol a ha x hx k hS)
  intro a k hk hn
  have := h'.least T hsol a k hk
  rw [hT, Nat.testBit_and, Nat.testBit_or, Bool.and_eq_true, Bool.or_eq_true, hn] at this
  exact this.2.resolve_left (by simp)
/-- removing: from what is left upwards -/
theorem Lst.removed {R : Rules} {S S' D S0 T : List Nat} {i : Nat} {r : Rule} (hi : i < R.length) (h : Lst R S) (h' : Lst (addR R i r) S') (hd : Del (addR R i r) S' D i r)
    (h0 : ∀ a k, (S0.getD a 0).testBit k = true → (S'.getD a 0).testBit k = true ∧ (D.getD a 0).testBit k = false) (hw : Wk R S0 T []) (hb : ∀ x ∈ T, x ≤ univ) : T = S :=
  Lst.unique (R := R) ⟨hw.len, hb, hw.sol, fun U hU => hw.least U hU (fun a k hk => h.least U hU a k (hd.rest hi h h' a k (h0 a k hk).1 (h0 a k hk).2))⟩ h
end Go.Proofs.Ytaciceaipmclgaa
