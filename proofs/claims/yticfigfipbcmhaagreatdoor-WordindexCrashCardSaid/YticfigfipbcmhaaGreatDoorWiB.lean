/- wordindex: isWordByte. -/
import Derived.Test.YticfigfipbcmhaaGreatDoorWiA
namespace Go.Proofs.YticfigfipbcmhaaGreatDoor
open Go.RowKit Go.ChangeMaps Go.MapKept Go.Shelf
set_option linter.unusedVariables false
set_option linter.unusedSimpArgs false
theorem isWord_n (n : Int) (w : World) : Calls Tryz.prog 49 #[.int .u8 n] w fun e w' => e = .returned (.bool (decide (n = 95) || (decide ((48 : Int) ≤ n) && decide (n ≤ 57)) || (decide ((97 : Int) ≤ bits .or .u8 n 32) && decide (bits .or .u8 n 32 ≤ 122)))) ∧ w' = w := by
  obtain ⟨r, hr⟩ : ∃ r, r = (decide (n = 95) || (decide ((48 : Int) ≤ n) && decide (n ≤ 57)) || (decide ((97 : Int) ≤ bits .or .u8 n 32) && decide (bits .or .u8 n 32 ≤ 122))) := ⟨_, rfl⟩
  rw [← hr]
  by_cases h1 : n = 95
  · subst h1
    obtain rfl : r = true := by rw [hr]; rfl
    clear hr
    go_enter Tryz.func49, Tryz.ntmps49
    go_wp2_with fail
    go_ret
    exact ⟨rfl, rfl⟩
  have h1b : (n == 95) = false := by simpa using h1
  rw [decide_eq_false h1] at hr
  have H1 := Lib.hid h1b
  clear h1b
  by_cases h2 : 48 ≤ n <;> by_cases h3 : n ≤ 57 <;> by_cases h4 : 97 ≤ bits .or .u8 n 32 <;> by_cases h5 : bits .or .u8 n 32 ≤ 122
  all_goals
    first | rw [decide_eq_true h2] at hr | rw [decide_eq_false h2] at hr
    first | rw [decide_eq_true h3] at hr | rw [decide_eq_false h3] at hr
    first | rw [decide_eq_true h4] at hr | rw [decide_eq_false h4] at hr
    first | rw [decide_eq_true h5] at hr | rw [decide_eq_false h5] at hr
    have Hr := Lib.hid hr
    clear hr
    go_enter Tryz.func49, Tryz.ntmps49
    go_wp2_with fail
    go_ret
    refine ⟨?_, rfl⟩
    rw [Hr.out]
    first | rfl | (simp [H1.out]; done) | (show Ending.returned (.bool _) = _; rw [H1.out]; rfl)
theorem isWord_any (c : UInt8) (w : World) : Calls Tryz.prog 49 #[.int .u8 ((c.toNat : Nat) : Int)] w fun e w' => e = .returned (.bool (isW c)) ∧ w' = w := isWord_n _ w
end Go.Proofs.YticfigfipbcmhaaGreatDoor
