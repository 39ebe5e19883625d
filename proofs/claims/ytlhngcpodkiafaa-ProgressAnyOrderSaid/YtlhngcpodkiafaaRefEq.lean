/- The reference's Equal at ints. -/
import Derived.Test.YtlhngcpodkiafaaIntsC
namespace Go.Proofs.Ytlhngcpodkiafaa
open Go.RowKit
set_option linter.unusedVariables false
set_option maxHeartbeats 400000 in
theorem refEqual_any (w : World) (v u : Value) (xs ys : List Int) (h1 : IntsC w v xs) (h2 : IntsC w u ys) :
    Calls Try.prog 13 #[v, u] w fun e w' => e = .returned (.bool (decide (xs = ys))) ∧ w' = w := by
  obtain ⟨a1, c1, rfl, hx1, hx2⟩ := h1.shape
  obtain ⟨a2, c2, rfl, _, _⟩ := h2.shape
  have hx : xs.length ≤ maxLen := by omega
  unfold maxLen at hx
  clear hx1 hx2
  by_cases hl : ys.length = xs.length
  · have k1 := fun i hi => h1.at i hi
    have k2 := fun i hi => h2.at i hi
    have K1 := Lib.hid k1
    have K2 := Lib.hid k2
    have Hl := Lib.hid hl
    rw [hl]
    clear k1 k2 hl h1 h2
    go_enter Try.func13, Try.ntmps13
    go_wp2
    go_loop [14] (fun i => ∃ k : Nat, k ≤ xs.length ∧ i = .int .i64 (k : Nat) ∧ Hid (xs.take k = ys.take k)) (fun i => xs.length - (intOf i).toNat)
    case atStart => exact ⟨0, by omega, rfl, Lib.hid rfl⟩
    case round =>
      obtain ⟨k, hk, rfl, ht⟩ := hrel
      by_cases hlt : k < xs.length
      · obtain ⟨g1, o1, rfl, q1⟩ := K1.out k hlt
        obtain ⟨g2, o2, rfl, q2⟩ := K2.out k (by have := Hl.out; omega)
        obtain ⟨x, hx⟩ : ∃ x, xs.getD k 0 = x := ⟨_, rfl⟩
        obtain ⟨y, hy⟩ : ∃ y, ys.getD k 0 = y := ⟨_, rfl⟩
        rw [hx] at q1
        rw [hy] at q2
        have Hx := Lib.hid hx
        have Hy := Lib.hid hy
        clear hx hy
        by_cases he : x = y
        · subst he
          go_wp2
          go_round
          case rel => exact ⟨k + 1, by omega, by go_num, Lib.hid (take_succ_eq hlt Hl.out ht.out 0 (by rw [Hx.out, Hy.out]))⟩
          case measure => simp [intOf]; omega
        · have he1 : (x != y) = true := by simpa using he
          have He := Lib.hid he
          clear he
          go_wp2
          go_ret
          exact ⟨ret_bool (decide_eq_false (fun e => He.out (by rw [← Hx.out, ← Hy.out, e]))).symm, rfl⟩
      · go_wp2
        go_ret
        exact ⟨ret_bool (decide_eq_true (by have h3 := ht.out; rwa [List.take_of_length_le (by omega), List.take_of_length_le (by have := Hl.out; omega)] at h3)).symm, rfl⟩
  · have h : ((xs.length : Int) != ys.length) = true := by simp; omega
    have hne : ¬ xs = ys := fun e => hl (by rw [e])
    have Hne := Lib.hid hne
    clear hl hne h1 h2
    go_enter Try.func13, Try.ntmps13
    go_wp2
    go_ret
    exact ⟨ret_bool (decide_eq_false Hne.out).symm, rfl⟩
end Go.Proofs.Ytlhngcpodkiafaa
