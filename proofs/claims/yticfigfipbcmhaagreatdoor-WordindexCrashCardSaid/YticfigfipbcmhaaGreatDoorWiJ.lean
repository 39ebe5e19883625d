/- The law WordindexWords. -/
import Derived.Test.YticfigfipbcmhaaGreatDoorWiH
import Derived.Test.YticfigfipbcmhaaGreatDoorStill
namespace Go.Proofs.YticfigfipbcmhaaGreatDoor
open Go.RowKit Go.ChangeMaps Go.MapKept Go.Shelf
set_option linter.unusedVariables false
set_option linter.unusedSimpArgs false
theorem bytesLess_iff : ∀ (a b : List UInt8), Op.bytesLess a b = true ↔ a < b := by
  intro a
  induction a with
  | nil => intro b; cases b <;> simp [Op.bytesLess]
  | cons x a ih =>
    intro b
    cases b with
    | nil => simp [Op.bytesLess]
    | cons y b =>
      unfold Op.bytesLess
      rw [List.cons_lt_cons_iff, Bool.or_eq_true, Bool.and_eq_true, decide_eq_true_iff, beq_iff_eq, ih]
theorem less_of {a b : ByteArray} (h : bl a < bl b) : Op.bytesLess a.toList b.toList = true := by
  rw [bytesLess_iff, ByteArray.toList_eq, ByteArray.toList_eq]
  exact h
structure WLaw (X Y W : List ByteArray) : Prop where
  lt : W.Pairwise fun a b => bl a < bl b
  mem : ∀ x, x ∈ W ↔ x ∈ X ∨ x ∈ Y
theorem wlaw (A B : ByteArray) (hA : A.size ≤ 200) (hB : B.size ≤ 200) : WLaw (words A) (words B) (words (A ++ ⟨#[32]⟩ ++ B)) := by
  have hs : (A ++ ⟨#[32]⟩ ++ B).size ≤ 700 := by
    rw [ByteArray.size_append, ByteArray.size_append]
    have : (⟨#[32]⟩ : ByteArray).size = 1 := rfl
    omega
  rw [words_all A (by omega), words_all B (by omega), words_all _ hs]
  exact ⟨wordsD_lt _, fun x => words_join_mem A B x⟩
theorem getD_eqS {l : List ByteArray} {i : Nat} (h : i < l.length) : l.getD i ⟨#[]⟩ = l[i] := by rw [List.getD_eq_getElem?_getD, List.getElem?_eq_getElem h]; rfl
end Go.Proofs.YticfigfipbcmhaaGreatDoor
