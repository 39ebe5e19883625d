/- Set as one contract; the helpers of the laws over the inputs store (Mod, inputKey, number, storeExample). -/
import Derived.Test.YtdeodcomlakpaaaMiC
namespace Go.Proofs.Ytdeodcomlakpaaa.Inp
open Go.RowKit Go.ChangeMaps Go.MapKept

/-- what Set makes of the store: nothing, or the new cell -/
def SetRel (S : St) (k : QK) (xs : List Int) (tx : ByteArray) (du : Int) (ch : Bool) (S' : St) : Prop :=
  (ch = false ∧ S' = S ∧ S.same k xs tx du) ∨ (ch = true ∧ ¬ S.same k xs tx du ∧ ∃ a cap, S' = S.set k ⟨a, cap, xs, tx, S.rev + 1, du⟩ (max (S.at k).du du))
def SetPost (b bm : Nat) (S : St) (k : QK) (xs : List Int) (tx : ByteArray) (du : Int) (w : World) (e : Ending) (w' : World) : Prop :=
  ∃ ch S', e = .returned (.tuple #[.bool ch, .int .i64 0]) ∧ StoreIs w' b bm S' ∧ Chg [b, bm] w w' ∧ SetRel S k xs tx du ch S'
theorem set_any (b bm : Nat) (S : St) (k : QK) (v : Value) (xs : List Int) (tx : ByteArray) (du : Int) (w : World) (h : StoreIs w b bm S) (hk : QKok k) (h0 : k.1 = 0) (hv : Ints w v xs) (hx : xs.length * 8 ≤ 140737488355328) (hdu : 0 ≤ du ∧ du < 3) (hdo : 0 ≤ (S.at k).du ∧ (S.at k).du < 3) (hrev : 0 ≤ S.rev ∧ S.rev < 4611686018427387904) :
    Calls Try.prog 59 #[.pointer (some ⟨b, 0, none⟩), qk k, .agg #[v, .string tx], .int .i64 du] w (SetPost b bm S k xs tx du w) := by
  by_cases hs : S.same k xs tx du
  · exact (set_same b bm S k v xs tx du w h hk h0 hv hdu hs).mono fun e w' ⟨he, h1, h2⟩ => ⟨false, S, he, h1, h2.nil, Or.inl ⟨rfl, rfl, hs⟩⟩
  · exact (set_new b bm S k v xs tx du w h hk h0 hv hx hdu hdo hrev hs).mono fun e w' ⟨a, cap, he, h1, h2, _⟩ => ⟨true, _, he, h1, h2, Or.inr ⟨rfl, hs, a, cap, rfl⟩⟩

/-! ### the laws' helpers -/
/-- the reference's Mod -/
def modI (n m : Int) : Int := n.tmod m + (if n.tmod m < 0 then m else 0)
theorem modI_eq (n m : Int) (hm : 1 ≤ m) : modI n m = n % m := by
  unfold modI
  rw [Int.tmod_eq_emod]
  have h1 := Int.emod_nonneg n (by omega : m ≠ 0)
  have h2 := Int.emod_lt_of_pos n (by omega : 0 < m)
  split <;> split <;> omega
theorem modI_bd (n m : Int) (hm : 1 ≤ m) : 0 ≤ modI n m ∧ modI n m < m := by
  rw [modI_eq n m hm]
  exact ⟨Int.emod_nonneg n (by omega), Int.emod_lt_of_pos n (by omega)⟩
set_option maxHeartbeats 400000 in
theorem mod_any (n m : Int) (w : World) (hm : 1 ≤ m) (hm2 : m ≤ 9223372036854775807)  :
    Calls Try.prog 15 #[.int .i64 n, .int .i64 m] w fun e w' => e = .returned (.int .i64 (modI n m)) ∧ w = w' := by
  have h1 := Int.tmod_lt_of_pos n (by omega : 0 < m)
  have h2 : -m < n.tmod m := by
    rw [Int.tmod_eq_emod]
    have h1 := Int.emod_nonneg n (by omega : m ≠ 0)
    by_cases hc : 0 ≤ n ∨ m ∣ n
    · rw [if_pos hc]; omega
    · have h3 : n % m ≠ 0 := fun e => hc (Or.inr (Int.dvd_of_emod_eq_zero e))
      rw [if_neg hc]; omega
  go_enter Try.func15, Try.ntmps15
  go_wp2
  · go_ret
    rename_i hlt
    exact ⟨ret_int (by unfold modI; rw [if_pos hlt]), rfl⟩
  · go_ret
    rename_i hlt
    exact ⟨ret_int (by unfold modI; rw [if_neg (by omega)]; omega), rfl⟩
set_option maxHeartbeats 400000 in
theorem inputKey_any (n : Int) (w : World) :
    Calls Try.prog 25 #[.int .i64 n] w fun e w' => e = .returned (.agg #[.int .i64 0, .int .i64 n, .int .i64 0]) ∧ Chg [] w w' := by
  go_enter Try.func25, Try.ntmps25
  go_wp2
  exact bodyPost_ret (v := .agg #[.int .i64 0, .int .i64 n, .int .i64 0]) (by simp [results, Try.results25, go_sem]) rfl ⟨rfl, (Chg.refl [] w).alloc _⟩
set_option maxHeartbeats 400000 in
theorem number_any (n : Int) (w : World) :
    Calls Try.prog 18 #[.int .i64 n] w fun e w' => ∃ a c, e = .returned (.agg #[.slice a 1 c, .string ⟨#[]⟩]) ∧ Ints w' (.slice a 1 c) [n] ∧ Chg [] w w' := by
  go_enter Try.func18, Try.ntmps18
  go_wp2
  refine bodyPost_ret (v := .agg #[.slice (some ⟨w.heap.size + 1, 0, none⟩) 1 1, .string ⟨#[]⟩]) (by simp [results, Try.results18, go_sem]) rfl ⟨_, _, rfl, ?_, ((Chg.refl [] w).alloc _).alloc _⟩
  refine Or.inr ⟨w.heap.size + 1, 0, 1, #[.int .i64 n], (0, 0), rfl, by simp, by unfold maxLen; omega, heap_at _ _ _ (by simp), ?_⟩
  intro i hi
  obtain rfl : i = 0 := by simpa using hi
  rfl
end Go.Proofs.Ytdeodcomlakpaaa.Inp
