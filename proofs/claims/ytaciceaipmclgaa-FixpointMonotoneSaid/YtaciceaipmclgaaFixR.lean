/- Plain: what Remove deletes, pass by pass. -/
import Derived.Test.YtaciceaipmclgaaFixK
namespace Go.Proofs.Ytaciceaipmclgaa
set_option linter.unusedVariables false
/-- the rules ahead of the m-th premise of rule k of set a are closed -/
structure Cls (R : Rules) (S D : List Nat) (a k m : Nat) : Prop where
  sets : ∀ b, b < a → b < R.length → ∀ x ∈ R.getD b [], ∀ j ∈ x.2, sub (der S x &&& D.getD j.toNat 0) (D.getD b 0)
  rules : ∀ x ∈ (R.getD a []).take k, ∀ j ∈ x.2, sub (der S x &&& D.getD j.toNat 0) (D.getD a 0)
  prem : ∀ j ∈ ((R.getD a []).getD k (0, [])).2.take m, sub (der S ((R.getD a []).getD k (0, [])) &&& D.getD j.toNat 0) (D.getD a 0)
theorem Cls.start (R : Rules) (S D : List Nat) : Cls R S D 0 0 0 := ⟨fun b h => absurd h (by omega), by simp, by simp⟩
theorem Cls.next {R : Rules} {S D : List Nat} {a k m : Nat} (h : Cls R S D a k m) (hm : m < ((R.getD a []).getD k (0, [])).2.length)
    (hs : sub (der S ((R.getD a []).getD k (0, [])) &&& D.getD (((R.getD a []).getD k (0, [])).2.getD m 0).toNat 0) (D.getD a 0)) : Cls R S D a k (m + 1) :=
  ⟨h.sets, h.rules, fun j hj => by
    rw [take_snoc _ m hm 0, List.mem_append, List.mem_singleton] at hj
    rcases hj with hj | rfl
    · exact h.prem j hj
    · exact hs⟩
theorem Cls.rule {R : Rules} {S D : List Nat} {a k m : Nat} (h : Cls R S D a k m) (hk : k < (R.getD a []).length) (hm : ((R.getD a []).getD k (0, [])).2.length ≤ m) : Cls R S D a (k + 1) 0 :=
  ⟨h.sets, fun x hx j hj => by
    rw [take_snoc _ k hk (0, []), List.mem_append, List.mem_singleton] at hx
    rcases hx with hx | rfl
    · exact h.rules x hx j hj
    · exact h.prem j (by rw [List.take_of_length_le hm]; exact hj), by simp⟩
theorem Cls.set {R : Rules} {S D : List Nat} {a k m : Nat} (h : Cls R S D a k m) (hk : (R.getD a []).length ≤ k) : Cls R S D (a + 1) 0 0 :=
  ⟨fun b hb hbR x hx j hj => by
    by_cases e : b = a
    · subst e
      exact h.rules x (by rw [List.take_of_length_le hk]; exact hx) j hj
    · exact h.sets b (by omega) hbR x hx j hj, by simp, by simp⟩
/-- one pass over the rules: D0 at its begin, D now, b: something was deleted -/
structure Ps (R : Rules) (S D0 D : List Nat) (i : Nat) (r : Rule) (a k m : Nat) (b : Bool) : Prop where
  len : D.length = R.length
  bd : ∀ x ∈ D, x ≤ univ
  at_ : sub (der S r) (D.getD i 0)
  yes : b = true → lack D < lack D0
  no : b = false → D = D0 ∧ Cls R S D a k m
theorem Ps.rule {R : Rules} {S D0 D : List Nat} {i : Nat} {r : Rule} {a k m : Nat} {b : Bool} (h : Ps R S D0 D i r a k m b) (hk : k < (R.getD a []).length) (hm : ((R.getD a []).getD k (0, [])).2.length ≤ m) : Ps R S D0 D i r a (k + 1) 0 b :=
  ⟨h.len, h.bd, h.at_, h.yes, fun e => ⟨(h.no e).1, (h.no e).2.rule hk hm⟩⟩
theorem Ps.set {R : Rules} {S D0 D : List Nat} {i : Nat} {r : Rule} {a k m : Nat} {b : Bool} (h : Ps R S D0 D i r a k m b) (hk : (R.getD a []).length ≤ k) : Ps R S D0 D i r (a + 1) 0 0 b :=
  ⟨h.len, h.bd, h.at_, h.yes, fun e => ⟨(h.no e).1, (h.no e).2.set hk⟩⟩
theorem Ps.next {R : Rules} {S D0 D : List Nat} {i : Nat} {r x : Rule} {a k m c : Nat} {b : Bool} (h : Ps R S D0 D i r a k m b) (hx : (R.getD a []).getD k (0, []) = x) (hm : m < x.2.length) (hc : (x.2.getD m 0).toNat = c)
    (hs : sub (der S x &&& D.getD c 0) (D.getD a 0)) : Ps R S D0 D i r a k (m + 1) b :=
  ⟨h.len, h.bd, h.at_, h.yes, fun e => ⟨(h.no e).1, (h.no e).2.next (by rw [hx]; exact hm) (by rw [hx, hc]; exact hs)⟩⟩
theorem Ps.grow {R : Rules} {S D0 D : List Nat} {i : Nat} {r : Rule} {a k m e : Nat} {b : Bool} (h : Ps R S D0 D i r a k m b) (ha : a < R.length) (he : e ≤ univ) (hn : ¬ sub e (D.getD a 0)) :
    Ps R S D0 (D.set a (D.getD a 0 ||| e)) i r a k (m + 1) true := by
  have haD : a < D.length := by rw [h.len]; exact ha
  have hda : D.getD a 0 ≤ univ := h.bd _ (by simp [haD])
  have hu := or_univ hda he
  have hl := lack_set D a _ haD (or_ne_lt fun e' => hn ((sub_or_iff _ _).1 e')) hu
  refine ⟨by simp [h.len], fun x hx => ?_, ?_, fun _ => ?_, fun e => by cases e⟩
  · rcases List.mem_or_eq_of_mem_set hx with hx | rfl
    · exact h.bd x hx
    · exact hu
  · rw [getD_set D a _ haD]
    split
    · rename_i e'; subst e'; exact h.at_.trans (sub_or_left _ _)
    · exact h.at_
  · cases b with
    | true => exact Nat.lt_trans hl (h.yes rfl)
    | false => rw [← (h.no rfl).1]; exact hl
theorem Ps.start {R : Rules} {S D0 : List Nat} {i : Nat} {r : Rule} (h1 : D0.length = R.length) (h2 : ∀ x ∈ D0, x ≤ univ) (h3 : sub (der S r) (D0.getD i 0)) : Ps R S D0 D0 i r 0 0 0 false :=
  ⟨h1, h2, h3, (fun e => by cases e), fun _ => ⟨rfl, Cls.start _ _ _⟩⟩
theorem Ps.del {R : Rules} {S D0 D : List Nat} {i : Nat} {r : Rule} (h : Ps R S D0 D i r R.length 0 0 false) : Del R S D i r :=
  ⟨h.len, h.at_, fun a ha x hx j hj => (h.no rfl).2.sets a ha ha x hx j hj⟩
/-- the mask of what is taken off: more = e &^ d is nothing exactly when e lies in d -/
theorem more_or {e d : Nat} (he : e ≤ univ) (hd : d ≤ univ) : d ||| andN e d = d ||| e := by
  apply Nat.eq_of_testBit_eq
  intro k
  rw [Nat.testBit_or, Nat.testBit_or, andN_bit e d k (by unfold univ at he; omega) (by unfold univ at hd; omega)]
  cases d.testBit k <;> simp
/-- what is left of the sets -/
def rest (S D : List Nat) : List Nat := (List.range S.length).map fun a => andN (S.getD a 0) (D.getD a 0)
theorem rest_getD (S D : List Nat) (a : Nat) : (rest S D).getD a 0 = andN (S.getD a 0) (D.getD a 0) := by
  by_cases ha : a < S.length
  · exact range_map_getD _ _ _ _ ha
  · have h1 : (rest S D).getD a 0 = 0 := by
      rw [List.getD_eq_getElem?_getD, List.getElem?_eq_none (by simp [rest]; omega)]
      rfl
    have h2 : S.getD a 0 = 0 := by
      rw [List.getD_eq_getElem?_getD, List.getElem?_eq_none (by omega)]
      rfl
    rw [h1, h2]
    simp [andN]
theorem getD_univ {S : List Nat} (h : ∀ x ∈ S, x ≤ univ) (a : Nat) : S.getD a 0 ≤ univ := by
  by_cases ha : a < S.length
  · exact h _ (by simp [ha])
  · rw [List.getD_eq_getElem?_getD, List.getElem?_eq_none (by omega)]
    unfold univ; simp
theorem andN_le {a b : Nat} : andN a b ≤ a := Nat.and_le_left
theorem rest_bit {S D : List Nat} (hS : ∀ x ∈ S, x ≤ univ) (hD : ∀ x ∈ D, x ≤ univ) (a k : Nat) (h : ((rest S D).getD a 0).testBit k = true) : (S.getD a 0).testBit k = true ∧ (D.getD a 0).testBit k = false := by
  have h1 := getD_univ hS a
  have h2 := getD_univ hD a
  unfold univ at h1 h2
  rw [rest_getD, andN_bit _ _ k (by omega) (by omega)] at h
  simpa using h
theorem rest_univ {S D : List Nat} (hS : ∀ x ∈ S, x ≤ univ) : ∀ x ∈ rest S D, x ≤ univ := by
  intro x hx
  unfold rest at hx
  obtain ⟨a, ha, rfl⟩ := List.mem_map.1 hx
  exact Nat.le_trans andN_le (getD_univ hS a)
end Go.Proofs.Ytaciceaipmclgaa
