/- Plain mathematics of edits: what Validate and Apply compute. -/
import Derived.Test.YtihpcpcfccamoaaBase
namespace Go.Proofs.Ytihpcpcfccamoaa
set_option linter.unusedVariables false
set_option linter.unusedSimpArgs false
/-- an edit: from s up to e by t -/
structure Edit where
  s : Int
  e : Int
  t : ByteArray
def Edit.zero : Edit := ⟨0, 0, ⟨#[]⟩⟩
def Edit.bad (n : Nat) (p : Int) (x : Edit) : Bool := decide (x.s ≤ p) || decide (x.e < x.s) || decide ((n : Int) < x.e)
def vstep (n : Nat) (st : Option (Int × Int)) (x : Edit) : Option (Int × Int) := st.bind fun q => if x.bad n q.1 then none else some (x.e, q.2 + ((x.t.size : Int) - (x.e - x.s)))
/-- where Validate stands behind l: the last end, the length -/
def valSt (n : Nat) (l : List Edit) : Option (Int × Int) := l.foldl (vstep n) (some (-1, (n : Int)))
theorem valSt_snoc (n : Nat) (l : List Edit) (x : Edit) : valSt n (l ++ [x]) = vstep n (valSt n l) x := by unfold valSt; rw [List.foldl_append]; rfl
theorem vstep_none (n : Nat) (l : List Edit) : l.foldl (vstep n) none = none := by
  induction l with
  | nil => rfl
  | cons x l ih => exact ih
theorem valSt_prefix {n : Nat} {l r : List Edit} (h : valSt n l = none) : valSt n (l ++ r) = none := by
  unfold valSt at h ⊢
  rw [List.foldl_append, h]
  exact vstep_none n r
/-- what Validate returns -/
def valL (n : Nat) (E : List Edit) : Int := if 2000 < n ∨ 50 < E.length then 2 else match valSt n E with
  | none => 3
  | some q => if 2000 < q.2 then 2 else 0
def astep (src : List UInt8) (q : List UInt8 × Int) (x : Edit) : List UInt8 × Int := (q.1 ++ ((src.take x.s.toNat).drop q.2.toNat ++ x.t.data.toList), x.e)
def apSt (src : List UInt8) (l : List Edit) : List UInt8 × Int := l.foldl (astep src) ([], 0)
theorem apSt_snoc (src : List UInt8) (l : List Edit) (x : Edit) : apSt src (l ++ [x]) = astep src (apSt src l) x := by unfold apSt; rw [List.foldl_append]; rfl
/-- the text with the edits applied -/
def applyT (src : ByteArray) (E : List Edit) : ByteArray := ⟨((apSt src.data.toList E).1 ++ src.data.toList.drop (apSt src.data.toList E).2.toNat).toArray⟩
def tot (l : List Edit) : Nat := (l.map fun x => x.t.size).sum
theorem tot_append (l r : List Edit) : tot (l ++ r) = tot l + tot r := by simp [tot]
/-- what stands behind valid edits -/
theorem valSt_facts (src : ByteArray) (l : List Edit) {p L : Int} (h : valSt src.size l = some (p, L)) :
    -1 ≤ p ∧ p ≤ src.size ∧ (tot l : Int) + (src.size - (apSt src.data.toList l).2) ≤ L ∧ L ≤ src.size + tot l ∧ 0 ≤ (apSt src.data.toList l).2 ∧ (apSt src.data.toList l).2 ≤ p + 1 ∧ (apSt src.data.toList l).2 ≤ src.size ∧
      ((apSt src.data.toList l).1.length : Int) ≤ (apSt src.data.toList l).2 + tot l := by
  have hsz : src.data.toList.length = src.size := Array.length_toList
  obtain ⟨n, hn⟩ : ∃ n, n = l.length := ⟨_, rfl⟩
  induction n generalizing l p L with
  | zero =>
    rw [List.eq_nil_of_length_eq_zero hn.symm] at h ⊢
    simp [valSt] at h
    obtain ⟨rfl, rfl⟩ := h
    simp [apSt, tot]
  | succ n ih =>
    obtain ⟨l, x, rfl⟩ : ∃ l' x, l = l' ++ [x] := ⟨l.dropLast, l.getLast (by intro h; rw [h] at hn; simp at hn), (List.dropLast_concat_getLast _).symm⟩
    rw [valSt_snoc] at h
    cases hv : valSt src.size l with
    | none => rw [hv] at h; simp [vstep] at h
    | some q =>
      obtain ⟨p0, L0⟩ := q
      rw [hv] at h
      obtain ⟨f1, f2, f3, f4, f5, f6, f7, f8⟩ := ih l hv (by simp at hn; omega)
      simp only [vstep, Option.bind_some] at h
      split at h
      · cases h
      · rename_i hb
        simp only [Edit.bad, Bool.or_eq_true, decide_eq_true_eq, not_or, Int.not_le, Int.not_lt] at hb
        simp only [Option.some.injEq, Prod.mk.injEq] at h
        obtain ⟨rfl, rfl⟩ := h
        obtain ⟨⟨b1, b2⟩, b3⟩ := hb
        rw [apSt_snoc, tot_append]
        have ht : tot [x] = x.t.size := by simp [tot]
        have hts : x.t.data.toList.length = x.t.size := Array.length_toList
        rw [ht]
        simp only [astep, List.length_append, List.length_drop, List.length_take]
        rw [hsz, hts]
        refine ⟨by omega, by omega, by omega, by omega, by omega, by omega, by omega, by omega⟩
theorem tot_take (E : List Edit) (k : Nat) : tot (E.take k) ≤ tot E := by
  conv => rhs; rw [← List.take_append_drop k E]
  rw [tot_append]
  omega
theorem tot_le {E : List Edit} {B : Nat} (h : ∀ x ∈ E, x.t.size ≤ B) : tot E ≤ E.length * B := by
  induction E with
  | nil => simp [tot]
  | cons x l ih =>
    have h1 := ih fun y hy => h y (by simp [hy])
    have h2 := h x (by simp)
    simp only [tot, List.map_cons, List.sum_cons, List.length_cons] at h1 ⊢
    rw [Nat.add_mul]
    omega
theorem take_step (E : List Edit) (k : Nat) (hk : k < E.length) : E.take (k + 1) = E.take k ++ [E.getD k Edit.zero] := by
  rw [List.take_succ_eq_append_getElem hk, List.getD_eq_getElem?_getD, List.getElem?_eq_getElem hk]
  rfl
/-- what the next of valid edits is -/
theorem val_step (src : ByteArray) (E : List Edit) (hv : valL src.size E = 0) (k : Nat) (hk : k < E.length) :
    0 ≤ (apSt src.data.toList (E.take k)).2 ∧ (apSt src.data.toList (E.take k)).2 ≤ (E.getD k Edit.zero).s ∧ (E.getD k Edit.zero).s ≤ (E.getD k Edit.zero).e ∧ (E.getD k Edit.zero).e ≤ src.size ∧ (E.getD k Edit.zero).t.size ≤ 2000 ∧
      (apSt src.data.toList (E.take k)).1.length ≤ 4000 := by
  unfold valL at hv
  split at hv
  · cases hv
  · rename_i h1
    cases hq : valSt src.size E with
    | none => rw [hq] at hv; cases hv
    | some q =>
      obtain ⟨p, L⟩ := q
      rw [hq] at hv
      simp only at hv
      split at hv
      · cases hv
      · rename_i h2
        obtain ⟨_, _, e3, _, _, _, e7, _⟩ := valSt_facts src E hq
        have htot : (tot E : Int) ≤ 2000 := by omega
        have hsp := take_step E k hk
        have hval : ∃ q', valSt src.size (E.take (k + 1)) = some q' := by
          cases hz : valSt src.size (E.take (k + 1)) with
          | some q' => exact ⟨q', rfl⟩
          | none =>
            have := valSt_prefix (r := E.drop (k + 1)) hz
            rw [List.take_append_drop, hq] at this
            cases this
        obtain ⟨q', hq'⟩ := hval
        rw [hsp, valSt_snoc] at hq'
        cases hz : valSt src.size (E.take k) with
        | none => rw [hz] at hq'; simp [vstep] at hq'
        | some z =>
          obtain ⟨p0, L0⟩ := z
          rw [hz] at hq'
          obtain ⟨f1, f2, f3, f4, f5, f6, f7, f8⟩ := valSt_facts src (E.take k) hz
          simp only [vstep, Option.bind_some] at hq'
          split at hq'
          · cases hq'
          · rename_i hb
            simp only [Edit.bad, Bool.or_eq_true, decide_eq_true_eq, not_or, Int.not_le, Int.not_lt] at hb
            obtain ⟨⟨b1, b2⟩, b3⟩ := hb
            have ht1 := tot_take E (k + 1)
            have ht2 := tot_take E k
            rw [hsp, tot_append] at ht1
            have ht3 : tot [E.getD k Edit.zero] = (E.getD k Edit.zero).t.size := by simp [tot]
            refine ⟨by omega, by omega, by omega, by omega, by omega, by omega⟩
/-- where valid edits end -/
theorem val_end (src : ByteArray) (E : List Edit) (hv : valL src.size E = 0) :
    0 ≤ (apSt src.data.toList E).2 ∧ (apSt src.data.toList E).2 ≤ src.size ∧ (apSt src.data.toList E).1.length ≤ 4000 ∧ src.size ≤ 2000 := by
  unfold valL at hv
  split at hv
  · cases hv
  · rename_i h1
    cases hq : valSt src.size E with
    | none => rw [hq] at hv; cases hv
    | some q =>
      obtain ⟨p, L⟩ := q
      rw [hq] at hv
      simp only at hv
      split at hv
      · cases hv
      · rename_i h2
        obtain ⟨_, _, e3, _, e5, _, e7, e8⟩ := valSt_facts src E hq
        refine ⟨by omega, by omega, by omega, by omega⟩
/-- the next version of a document: its text, or the error -/
def docNext (ver : Int) (text : ByteArray) (E : List Edit) : Int :=
  if valL text.size E ≠ 0 then valL text.size E else if 2000 < (applyT text E).size ∨ 2147483647 ≤ ver then 2 else 0
end Go.Proofs.Ytihpcpcfccamoaa
