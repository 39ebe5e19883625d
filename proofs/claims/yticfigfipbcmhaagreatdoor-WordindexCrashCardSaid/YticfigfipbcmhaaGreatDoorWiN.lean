/- slices.BinarySearchFunc at entries, where the name is there. -/
import Derived.Test.YticfigfipbcmhaaGreatDoorWiM
import Derived.StillTailTactics
namespace Go.Proofs.YticfigfipbcmhaaGreatDoor
open Go.RowKit Go.ChangeMaps Go.MapKept Go.Shelf
set_option linter.unusedVariables false
set_option linter.unusedSimpArgs false
def cmpN (a b : ByteArray) : Int := Lib.compareBytes (bl a) (bl b)
theorem cmpN_pos {I : List Ie} (h : I.Pairwise fun a b => ltN a.1 b.1) (t m : Nat) (ht : t < I.length) (hm : m < I.length) : (cmpN (I.getD m ie0).1 (I.getD t ie0).1 < 0 ↔ m < t) ∧ (cmpN (I.getD m ie0).1 (I.getD t ie0).1 = 0 ↔ m = t) := by
  rw [getD_eqI ht, getD_eqI hm]
  have hp := List.pairwise_iff_getElem.1 h
  unfold cmpN
  rcases Nat.lt_trichotomy m t with e | e | e
  · have h1 : Lib.compareBytes (bl I[m].1) (bl I[t].1) < 0 := hp m t hm ht e
    exact ⟨⟨fun _ => e, fun _ => h1⟩, ⟨fun h2 => by omega, fun h2 => by omega⟩⟩
  · subst e
    have h1 := (cb_eq (bl I[m].1) (bl I[m].1)).2 rfl
    exact ⟨⟨fun h2 => by omega, fun h2 => by omega⟩, ⟨fun _ => rfl, fun _ => h1⟩⟩
  · have h1 : Lib.compareBytes (bl I[t].1) (bl I[m].1) < 0 := hp t m ht hm e
    have h2 := cb_neg (bl I[t].1) (bl I[m].1)
    exact ⟨⟨fun h2 => by omega, fun h2 => by omega⟩, ⟨fun h3 => by omega, fun h2 => by omega⟩⟩
theorem cmpNm_any (a b : ByteArray) (s1 s2 : Int) (a1 a2 : Option Addr) (n1 n2 c1 c2 : Nat) (W : World) :
    Calls Tryz.prog 18 #[.agg #[.string a, .int .u32 s1, .slice a1 n1 c1], .agg #[.string b, .int .u32 s2, .slice a2 n2 c2]] W fun e w' => e = .returned (.int .i64 (cmpN a b)) ∧ Chg [] W w' := by
  refine (cmpNames_any ⟨a, s1, a1, n1, c1⟩ ⟨b, s2, a2, n2, c2⟩ W).mono ?_
  rintro e w' ⟨rfl, rfl⟩
  exact ⟨rfl, ((Chg.refl [] W).alloc _).alloc _⟩
end Go.Proofs.YticfigfipbcmhaaGreatDoor
