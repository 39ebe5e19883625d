/- Part of the proof of topCrashedLaw_holds. -/
import Derived.Test.YtjlknaahpjiibaaGreatDoorQaa
import Derived.Test.YtjlknaahpjiibaaGreatDoorRows
namespace Go.Proofs.YtjlknaahpjiibaaGreatDoor.F
open Go.RowKit
set_option linter.unusedVariables false
theorem ret_int {k : IntKind} {a b : Int} (h : a = b) : Ending.returned (.int k a) = .returned (.int k b) := by rw [h]
def modI (n m : Int) : Int := n.tmod m + (if n.tmod m < 0 then m else 0)
theorem modI_eq (n m : Int) (hm : 1 ≤ m) : modI n m = n % m := by
 unfold modI
 rw [Int.tmod_eq_emod]
 have h1 := Int.emod_nonneg n (by omega : m ≠ 0)
 have h2 := Int.emod_lt_of_pos n (by omega : 0 < m)
 split <;> split <;> omega
theorem modI_bd (n m : Int) (hm : 1 ≤ m) : 0 ≤ modI n m ∧ modI n m < m := by
 rw [modI_eq n m hm]
 exact ⟨Int.emod_nonneg n (by omega), Int.emod_lt_of_pos n (by omega)⟩
set_option maxHeartbeats 400000 in
theorem mod_any (n m : Int) (w : World) (hm : 1 ≤ m) (hm2 : m ≤ 9223372036854775807)  :
 Calls Tryz.prog 8 #[.int .i64 n, .int .i64 m] w fun e w' => e = .returned (.int .i64 (modI n m)) ∧ w = w' := by
 have h1 := Int.tmod_lt_of_pos n (by omega : 0 < m)
 have h2 : -m < n.tmod m := by
  rw [Int.tmod_eq_emod]
  have h1 := Int.emod_nonneg n (by omega : m ≠ 0)
  by_cases hc : 0 ≤ n ∨ m ∣ n
  · rw [if_pos hc]; omega
  · have h3 : n % m ≠ 0 := fun e => hc (Or.inr (Int.dvd_of_emod_eq_zero e))
    rw [if_neg hc]; omega
 go_enter Tryz.func8, Tryz.ntmps8
 go_wp2
 · go_ret
   rename_i hlt
   exact ⟨ret_int (by unfold modI; rw [if_pos hlt]), rfl⟩
 · go_ret
   rename_i hlt
   exact ⟨ret_int (by unfold modI; rw [if_neg (by omega)]; omega), rfl⟩
end Go.Proofs.YtjlknaahpjiibaaGreatDoor.F
namespace Go.Proofs.YtjlknaahpjiibaaGreatDoor.Fr
open Go.RowKit
set_option linter.unusedVariables false
theorem ret_int {k : IntKind} {a b : Int} (h : a = b) : Ending.returned (.int k a) = .returned (.int k b) := by rw [h]
def modI (n m : Int) : Int := n.tmod m + (if n.tmod m < 0 then m else 0)
theorem modI_eq (n m : Int) (hm : 1 ≤ m) : modI n m = n % m := by
 unfold modI
 rw [Int.tmod_eq_emod]
 have h1 := Int.emod_nonneg n (by omega : m ≠ 0)
 have h2 := Int.emod_lt_of_pos n (by omega : 0 < m)
 split <;> split <;> omega
theorem modI_bd (n m : Int) (hm : 1 ≤ m) : 0 ≤ modI n m ∧ modI n m < m := by
 rw [modI_eq n m hm]
 exact ⟨Int.emod_nonneg n (by omega), Int.emod_lt_of_pos n (by omega)⟩
set_option maxHeartbeats 400000 in
theorem mod_any (n m : Int) (w : World) (hm : 1 ≤ m) (hm2 : m ≤ 9223372036854775807)  :
 Calls Tryz.prog 8 #[.int .i64 n, .int .i64 m] w fun e w' => e = .returned (.int .i64 (modI n m)) ∧ w = w' := by
 have h1 := Int.tmod_lt_of_pos n (by omega : 0 < m)
 have h2 : -m < n.tmod m := by
  rw [Int.tmod_eq_emod]
  have h1 := Int.emod_nonneg n (by omega : m ≠ 0)
  by_cases hc : 0 ≤ n ∨ m ∣ n
  · rw [if_pos hc]; omega
  · have h3 : n % m ≠ 0 := fun e => hc (Or.inr (Int.dvd_of_emod_eq_zero e))
    rw [if_neg hc]; omega
 go_enter Tryz.func8, Tryz.ntmps8
 go_wp2
 · go_ret
   rename_i hlt
   exact ⟨ret_int (by unfold modI; rw [if_pos hlt]), rfl⟩
 · go_ret
   rename_i hlt
   exact ⟨ret_int (by unfold modI; rw [if_neg (by omega)]; omega), rfl⟩
end Go.Proofs.YtjlknaahpjiibaaGreatDoor.Fr
