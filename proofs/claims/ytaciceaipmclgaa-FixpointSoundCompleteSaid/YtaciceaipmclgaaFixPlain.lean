/- Plain law of fixpoint: rules over sets of bits, solutions, the work list. No program in sight. -/
import Derived.Test.YtaciceaipmclgaaBase
namespace Go.Proofs.Ytaciceaipmclgaa
set_option linter.unusedVariables false
/-- every bit of a is a bit of b -/
def sub (a b : Nat) : Prop := ∀ k, a.testBit k = true → b.testBit k = true
theorem sub_refl (a : Nat) : sub a a := fun _ h => h
theorem sub_zero (b : Nat) : sub 0 b := fun k h => by simp at h
theorem sub.trans {a b c : Nat} (h : sub a b) (k : sub b c) : sub a c := fun i hi => k i (h i hi)
theorem sub_or_iff (d s : Nat) : s ||| d = s ↔ sub d s := by
  constructor
  · intro h k hk
    rw [← h, Nat.testBit_or, hk, Bool.or_true]
  · intro h
    apply Nat.eq_of_testBit_eq
    intro k
    rw [Nat.testBit_or]
    cases hd : d.testBit k
    · simp
    · simp [h k hd]
theorem sub_or_left (a b : Nat) : sub a (a ||| b) := fun k h => by rw [Nat.testBit_or, h, Bool.true_or]
theorem sub_or_right (a b : Nat) : sub b (a ||| b) := fun k h => by rw [Nat.testBit_or, h, Bool.or_true]
theorem or_sub {a b c : Nat} (h : sub a c) (k : sub b c) : sub (a ||| b) c := fun i hi => by
  rw [Nat.testBit_or, Bool.or_eq_true] at hi
  exact hi.elim (h i) (k i)
theorem and_sub {a b c d : Nat} (h : sub a c) (k : sub b d) : sub (a &&& b) (c &&& d) := fun i hi => by
  rw [Nat.testBit_and, Bool.and_eq_true] at hi ⊢
  exact ⟨h i hi.1, k i hi.2⟩
theorem sub.le {a b : Nat} (h : sub a b) : a ≤ b := by
  have := (sub_or_iff a b).2 h
  rw [← this]
  exact Nat.right_le_or
theorem sub.antisymm {a b : Nat} (h : sub a b) (k : sub b a) : a = b := Nat.le_antisymm h.le k.le

/-- a rule: its mask, the sets that it reads -/
abbrev Rule := Int × List Int
abbrev Rules := List (List Rule)
/-- what a rule derives -/
def der (S : List Nat) (r : Rule) : Nat := r.2.foldl (fun e j => e &&& S.getD j.toNat 0) r.1.toNat
/-- what a list of rules derives -/
def dAll (S : List Nat) (l : List Rule) : Nat := l.foldl (fun e r => e ||| der S r) 0
def subs (S T : List Nat) : Prop := ∀ i : Nat, sub (S.getD i 0) (T.getD i 0)
theorem subs_refl (S : List Nat) : subs S S := fun _ => sub_refl _
theorem subs.trans {S T U : List Nat} (h : subs S T) (k : subs T U) : subs S U := fun i => (h i).trans (k i)
def sol (R : Rules) (S : List Nat) : Prop := ∀ i, i < R.length → ∀ r ∈ R.getD i [], sub (der S r) (S.getD i 0)
theorem der_fold_mono {S T : List Nat} (h : subs S T) (l : List Int) : ∀ a b, sub a b → sub (l.foldl (fun e j => e &&& S.getD j.toNat 0) a) (l.foldl (fun e j => e &&& T.getD j.toNat 0) b) := by
  induction l with
  | nil => intro a b hab; exact hab
  | cons j l ih => intro a b hab; exact ih _ _ (and_sub hab (h _))
theorem der_mono {S T : List Nat} (h : subs S T) (r : Rule) : sub (der S r) (der T r) := der_fold_mono h r.2 _ _ (sub_refl _)
theorem der_fold_le (S : List Nat) (l : List Int) : ∀ a, sub (l.foldl (fun e j => e &&& S.getD j.toNat 0) a) a := by
  induction l with
  | nil => intro a; exact sub_refl _
  | cons j l ih => intro a; exact (ih _).trans (fun k hk => by rw [Nat.testBit_and, Bool.and_eq_true] at hk; exact hk.1)
theorem der_mask (S : List Nat) (r : Rule) : sub (der S r) r.1.toNat := der_fold_le S r.2 _
theorem dAll_fold (S : List Nat) (l : List Rule) : ∀ a c, sub (l.foldl (fun e r => e ||| der S r) a) c ↔ sub a c ∧ ∀ r ∈ l, sub (der S r) c := by
  induction l with
  | nil => intro a c; simp
  | cons x l ih =>
    intro a c
    rw [List.foldl_cons, ih]
    constructor
    · rintro ⟨h, k⟩
      exact ⟨(sub_or_left _ _).trans h, fun r hr => by
        rcases List.mem_cons.1 hr with rfl | hr
        · exact (sub_or_right _ _).trans h
        · exact k r hr⟩
    · rintro ⟨h, k⟩
      exact ⟨or_sub h (k x (by simp)), fun r hr => k r (by simp [hr])⟩
theorem dAll_sub (S : List Nat) (l : List Rule) (c : Nat) : sub (dAll S l) c ↔ ∀ r ∈ l, sub (der S r) c := by
  unfold dAll
  rw [dAll_fold]
  exact ⟨fun h => h.2, fun h => ⟨sub_zero _, h⟩⟩
theorem sol_iff (R : Rules) (S : List Nat) : sol R S ↔ ∀ i, i < R.length → sub (dAll S (R.getD i [])) (S.getD i 0) :=
  ⟨fun h i hi => (dAll_sub _ _ _).2 (h i hi), fun h i hi => (dAll_sub _ _ _).1 (h i hi)⟩
theorem dAll_mono {S T : List Nat} (h : subs S T) (l : List Rule) : sub (dAll S l) (dAll T l) :=
  (dAll_sub _ _ _).2 fun r hr => (der_mono h r).trans ((dAll_sub T l _).1 (sub_refl _) r hr)
/-- a rule that reads nothing that changed derives the same -/
theorem der_fold_same {S T : List Nat} (l : List Int) (h : ∀ j ∈ l, S.getD j.toNat 0 = T.getD j.toNat 0) : ∀ a, l.foldl (fun e j => e &&& S.getD j.toNat 0) a = l.foldl (fun e j => e &&& T.getD j.toNat 0) a := by
  induction l with
  | nil => intro a; rfl
  | cons j l ih =>
    intro a
    rw [List.foldl_cons, List.foldl_cons, h j (by simp)]
    exact ih (fun x hx => h x (by simp [hx])) _
theorem der_same {S T : List Nat} {r : Rule} (h : ∀ j ∈ r.2, S.getD j.toNat 0 = T.getD j.toNat 0) : der S r = der T r := der_fold_same _ h _

/-! ### valid rules -/
def univ : Nat := 1048575
structure Okr (R : Rules) : Prop where
  size : R.length ≤ 60
  rules : ∀ l ∈ R, l.length ≤ 20
  all : ∀ l ∈ R, ∀ r ∈ l, r.2.length ≤ 60
  mask : ∀ l ∈ R, ∀ r ∈ l, 0 ≤ r.1 ∧ r.1 ≤ 1048575
  idx : ∀ l ∈ R, ∀ r ∈ l, ∀ j ∈ r.2, 0 ≤ j ∧ j < R.length
theorem le_of_sub_univ {a b : Nat} (h : sub a b) (hb : b ≤ univ) : a ≤ univ := Nat.le_trans h.le hb
theorem lt_univ {a : Nat} : a ≤ univ ↔ a < 2 ^ 20 := by unfold univ; omega
theorem or_univ {a b : Nat} (ha : a ≤ univ) (hb : b ≤ univ) : a ||| b ≤ univ := by
  rw [lt_univ] at *
  exact Nat.or_lt_two_pow ha hb
theorem der_univ {r : Rule} (h : r.1 ≤ 1048575) (S : List Nat) : der S r ≤ univ := le_of_sub_univ (der_mask S r) (by unfold univ; omega)
theorem dAll_fold_univ {l : List Rule} (S : List Nat) : (∀ r ∈ l, r.1 ≤ 1048575) → ∀ a, a ≤ univ → l.foldl (fun e r => e ||| der S r) a ≤ univ := by
  induction l with
  | nil => intro _ a ha; exact ha
  | cons x l ih => intro h a ha; exact ih (fun r hr => h r (by simp [hr])) _ (or_univ ha (der_univ (h x (by simp)) S))
theorem dAll_univ {l : List Rule} (h : ∀ r ∈ l, r.1 ≤ 1048575) (S : List Nat) : dAll S l ≤ univ := dAll_fold_univ S h 0 (by unfold univ; omega)

/-! ### the work list: what is kept in every round -/
/-- S: the sets; P: the work list; T: any solution above the first sets -/
structure Wk (R : Rules) (S0 S : List Nat) (P : List Nat) : Prop where
  len : S.length = R.length
  low : subs S0 S
  least : ∀ T, sol R T → subs S0 T → subs S T
  done : ∀ i, i < R.length → i ∉ P → sub (dAll S (R.getD i [])) (S.getD i 0)
theorem Wk.sol {R : Rules} {S0 S : List Nat} (h : Wk R S0 S []) : sol R S := (sol_iff R S).2 fun i hi => h.done i hi (by simp)
/-- nothing new -/
theorem Wk.skip {R : Rules} {S0 S : List Nat} {i : Nat} {P : List Nat} (h : Wk R S0 S (i :: P)) (hs : S.getD i 0 ||| dAll S (R.getD i []) = S.getD i 0) : Wk R S0 S P :=
  ⟨h.len, h.low, h.least, fun k hk hn => by
    by_cases e : k = i
    · subst e; exact (sub_or_iff _ _).1 hs
    · exact h.done k hk (by simp [e, hn])⟩
theorem getD_set (S : List Nat) (i : Nat) (x : Nat) (hi : i < S.length) (k : Nat) : (S.set i x).getD k 0 = if k = i then x else S.getD k 0 := by
  rw [List.getD_eq_getElem?_getD, List.getElem?_set]
  by_cases h : i = k
  · subst h; simp [hi]
  · rw [if_neg h, if_neg (Ne.symm h), List.getD_eq_getElem?_getD]
/-- the set grew: its readers are in the work list -/
theorem Wk.grow {R : Rules} {S0 S : List Nat} {i : Nat} {P P' : List Nat} (h : Wk R S0 S (i :: P)) (hi : i < R.length)
    (hP : ∀ k ∈ P, k ∈ P') (hrd : ∀ k, k < R.length → (∃ r ∈ R.getD k [], ∃ j ∈ r.2, j.toNat = i) → k ∈ P') :
    Wk R S0 (S.set i (S.getD i 0 ||| dAll S (R.getD i []))) P' := by
  have hg := getD_set S i (S.getD i 0 ||| dAll S (R.getD i [])) (by rw [h.len]; exact hi)
  have hup : subs S (S.set i (S.getD i 0 ||| dAll S (R.getD i []))) := fun k => by
    rw [hg]
    split
    · rename_i e; subst e; exact sub_or_left _ _
    · exact sub_refl _
  refine ⟨by simp [h.len], h.low.trans hup, fun T hT h0 k => ?_, fun k hk hn => ?_⟩
  · have hST := h.least T hT h0
    rw [hg]
    split
    · rename_i e
      subst e
      exact or_sub (hST k) ((dAll_mono hST _).trans ((sol_iff R T).1 hT k hi))
    · exact hST k
  · have hsame : dAll (S.set i (S.getD i 0 ||| dAll S (R.getD i []))) (R.getD k []) = dAll S (R.getD k []) := by
      have hno : ∀ r ∈ R.getD k [], ∀ j ∈ r.2, j.toNat ≠ i := fun r hr j hj e => hn (hrd k hk ⟨r, hr, j, hj, e⟩)
      have key : ∀ r ∈ R.getD k [], der (S.set i (S.getD i 0 ||| dAll S (R.getD i []))) r = der S r := fun r hr => der_same fun j hj => by
        rw [hg, if_neg (hno r hr j hj)]
      exact (sub.antisymm ((dAll_sub _ _ _).2 fun r hr => by rw [key r hr]; exact (dAll_sub S _ _).1 (sub_refl _) r hr) ((dAll_sub _ _ _).2 fun r hr => by rw [← key r hr]; exact (dAll_sub _ _ _).1 (sub_refl _) r hr))
    rw [hsame, hg]
    by_cases e : k = i
    · subst e; rw [if_pos rfl]; exact sub_or_right _ _
    · rw [if_neg e]
      exact h.done k hk (by
        intro hm
        rcases List.mem_cons.1 hm with rfl | hm
        · exact e rfl
        · exact hn (hP k hm))
/-- the measure: what the sets lack -/
def lack (S : List Nat) : Nat := (S.map fun s => univ - s).sum
theorem lack_set (S : List Nat) : ∀ (i x : Nat), i < S.length → S.getD i 0 < x → x ≤ univ → lack (S.set i x) < lack S := by
  induction S with
  | nil => intro i x hi; simp at hi
  | cons s S ih =>
    intro i x hi hx hu
    cases i with
    | zero =>
      simp only [List.getD_cons_zero] at hx
      simp only [lack, List.set_cons_zero, List.map_cons, List.sum_cons]
      omega
    | succ i =>
      simp only [List.getD_cons_succ] at hx
      have := ih i x (by simpa using hi) hx hu
      simp only [lack, List.set_cons_succ, List.map_cons, List.sum_cons] at this ⊢
      omega
theorem or_ne_lt {s d : Nat} (h : s ||| d ≠ s) : s < s ||| d := Nat.lt_of_le_of_ne Nat.left_le_or (Ne.symm h)
/-- a list of different numbers below n is no longer than n -/
theorem nodup_len (n : Nat) : ∀ {P : List Nat}, P.Nodup → (∀ x ∈ P, x < n) → P.length ≤ n := by
  induction n with
  | zero =>
    intro P _ hb
    cases P with
    | nil => simp
    | cons x P => exact absurd (hb x (by simp)) (by omega)
  | succ n ih =>
    intro P hd hb
    have h1 := ih (hd.erase n) (fun x hx => by
      have := (hd.mem_erase_iff).1 hx
      have := hb x this.2
      omega)
    have h2 := List.length_erase (a := n) (l := P)
    split at h2 <;> omega
end Go.Proofs.Ytaciceaipmclgaa
