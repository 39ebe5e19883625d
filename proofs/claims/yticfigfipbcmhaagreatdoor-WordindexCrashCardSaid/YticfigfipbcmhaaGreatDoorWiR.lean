/- wordindex: Find. -/
import Derived.Test.YticfigfipbcmhaaGreatDoorWiQ
namespace Go.Proofs.YticfigfipbcmhaaGreatDoor
open Go.RowKit Go.ChangeMaps Go.MapKept Go.Shelf
set_option linter.unusedVariables false
set_option linter.unusedSimpArgs false
def findN (I : List Ie) (word : ByteArray) : List ByteArray := (I.filter fun x => memb word x.2.2).map (·.1)
theorem findN_take (I : List Ie) (word : ByteArray) (k : Nat) (hk : k < I.length) : findN (I.take (k + 1)) word = findN (I.take k) word ++ if memb word I[k].2.2 then [I[k].1] else [] := by
  unfold findN
  rw [List.take_succ_eq_append_getElem hk, List.filter_append, List.map_append]
  congr 1
  by_cases h : memb word I[k].2.2 = true
  · simp [h]
  · simp [h]
def FiPost (I : List Ie) (word : ByteArray) (w : World) (e : Ending) (w' : World) : Prop := ∃ a c, e = .returned (.slice a (findN I word).length c) ∧ StrsP (fun g => w.heap.size ≤ g ∧ g < w'.heap.size) w' (.slice a (findN I word).length c) (findN I word) ∧ Chg [] w w'
end Go.Proofs.YticfigfipbcmhaaGreatDoor
