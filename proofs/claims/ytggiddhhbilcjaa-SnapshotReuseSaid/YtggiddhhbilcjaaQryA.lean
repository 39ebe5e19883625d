/- Contracts of query programs' small functions: reduce, binary, operandKey, pop. -/
import Derived.Test.YtggiddhhbilcjaaQryPlain
import Derived.Test.YtggiddhhbilcjaaRows
namespace Go.Proofs.Ytggiddhhbilcjaa
open Go.RowKit
set_option linter.unusedVariables false
theorem ret_intq {k : IntKind} {a b : Int} (h : a = b) : Ending.returned (.int k a) = .returned (.int k b) := by rw [h]
theorem reduce_any (n : Int) (w : World) :
    Calls Try.prog 53 #[.int .i64 n] w fun e w' => e = .returned (.int .i64 (red n)) ∧ w = w' := by
  have h1 := Int.tmod_lt_of_pos n (by decide : (0 : Int) < 1000003)
  have h2 : -1000003 < n.tmod 1000003 := by
    rw [Int.tmod_eq_emod]
    have h1 := Int.emod_nonneg n (by decide : (1000003 : Int) ≠ 0)
    by_cases hc : 0 ≤ n ∨ 1000003 ∣ n
    · rw [if_pos hc]; omega
    · have h3 : n % 1000003 ≠ 0 := fun e => hc (Or.inr (Int.dvd_of_emod_eq_zero e))
      rw [if_neg hc]; omega
  have hm : red n = n.tmod 1000003 + (if n.tmod 1000003 < 0 then 1000003 else 0) := by
    unfold red
    rw [Int.tmod_eq_emod]
    have h1 := Int.emod_nonneg n (by decide : (1000003 : Int) ≠ 0)
    have h2 := Int.emod_lt_of_pos n (by decide : (0 : Int) < 1000003)
    split <;> split <;> omega
  have Hm := Lib.hid hm
  clear hm
  go_enter Try.func53, Try.ntmps53
  go_wp2
  · go_ret
    rename_i hlt
    exact ⟨ret_intq (by rw [Hm.out, if_pos hlt]), rfl⟩
  · go_ret
    rename_i hlt
    exact ⟨ret_intq (by rw [Hm.out, if_neg (by omega)]; omega), rfl⟩
theorem operandKey_any (o : QO) (idx n : Int) (w : World) (h0 : 0 ≤ n) (h1 : o.1 = 4 → 0 < idx) :
    Calls Try.prog 71 #[i3v o, .int .i64 idx, .int .i64 n] w fun e w' =>
      e = .returned (.tuple #[i3v ((opKey o idx n).getD (0, 0, 0)), .bool (opKey o idx n).isSome]) ∧ Chg [] w w' := by
  obtain ⟨op, a, b⟩ := o
  obtain ⟨r, hr⟩ : ∃ r, opKey (op, a, b) idx n = r := ⟨_, rfl⟩
  rw [hr]
  have hq := hr
  unfold opKey at hq
  simp only at hq h1
  clear hr
  unfold i3v
  by_cases e2 : op = 2
  · subst e2
    rw [if_pos rfl] at hq
    subst hq
    go_enter Try.func71, Try.ntmps71
    go_wp2
    exact bodyPost_ret (v := .tuple #[.agg #[.int .i64 0, .int .i64 a, .int .i64 0], .bool true]) (by simp [results, Try.results71, go_sem]) rfl ⟨rfl, by first | exact ((Chg.refl [] w).alloc _).alloc _ | exact (((Chg.refl [] w).alloc _).alloc _).setCell (Or.inr (by simp)) _⟩
  · rw [if_neg e2] at hq
    have b2 : (op == 2) = false := beq_eq_false_iff_ne.2 e2
    by_cases e3 : op = 3
    · subst e3
      rw [if_pos rfl] at hq
      subst hq
      go_enter Try.func71, Try.ntmps71
      go_wp2
      exact bodyPost_ret (v := .tuple #[.agg #[.int .i64 1, .int .i64 a, .int .i64 0], .bool true]) (by simp [results, Try.results71, go_sem]) rfl ⟨rfl, by first | exact ((Chg.refl [] w).alloc _).alloc _ | exact (((Chg.refl [] w).alloc _).alloc _).setCell (Or.inr (by simp)) _⟩
    · rw [if_neg e3] at hq
      have b3 : (op == 3) = false := beq_eq_false_iff_ne.2 e3
      by_cases e4 : op = 4
      · subst e4
        have h4 : 0 < idx := h1 rfl
        rw [if_pos rfl] at hq
        subst hq
        have hme : n.tmod idx = n % idx := Int.tmod_eq_emod_of_nonneg h0
        clear h1
        have h5 : (idx == 0) = false := beq_eq_false_iff_ne.2 (by omega)
        go_enter Try.func71, Try.ntmps71
        go_wp2
        exact bodyPost_ret (v := .tuple #[.agg #[.int .i64 1, .int .i64 (n % idx), .int .i64 0], .bool true]) (by simp [results, Try.results71, go_sem]) rfl ⟨rfl, by first | exact ((Chg.refl [] w).alloc _).alloc _ | exact (((Chg.refl [] w).alloc _).alloc _).setCell (Or.inr (by simp)) _⟩
      · rw [if_neg e4] at hq
        have b4 : (op == 4) = false := beq_eq_false_iff_ne.2 e4
        by_cases e5 : op = 5
        · subst e5
          rw [if_pos rfl] at hq
          clear h1
          by_cases en : n = 0
          · subst en
            rw [if_pos rfl] at hq
            subst hq
            go_enter Try.func71, Try.ntmps71
            go_wp2
            exact bodyPost_ret (v := .tuple #[.agg #[.int .i64 1, .int .i64 b, .int .i64 0], .bool true]) (by simp [results, Try.results71, go_sem]) rfl ⟨rfl, by first | exact ((Chg.refl [] w).alloc _).alloc _ | exact (((Chg.refl [] w).alloc _).alloc _).setCell (Or.inr (by simp)) _⟩
          · rw [if_neg en] at hq
            subst hq
            have bn : (n != 0) = true := by rw [bne_iff_ne]; exact en
            go_enter Try.func71, Try.ntmps71
            go_wp2
            exact bodyPost_ret (v := .tuple #[.agg #[.int .i64 1, .int .i64 a, .int .i64 0], .bool true]) (by simp [results, Try.results71, go_sem]) rfl ⟨rfl, by first | exact ((Chg.refl [] w).alloc _).alloc _ | exact (((Chg.refl [] w).alloc _).alloc _).setCell (Or.inr (by simp)) _⟩
        · rw [if_neg e5] at hq
          subst hq
          have b5 : (op == 5) = false := beq_eq_false_iff_ne.2 e5
          clear h1
          go_enter Try.func71, Try.ntmps71
          go_wp2
          exact bodyPost_ret (v := .tuple #[.agg #[.int .i64 0, .int .i64 0, .int .i64 0], .bool false]) (by simp [results, Try.results71, go_sem]) rfl ⟨rfl, by first | exact ((Chg.refl [] w).alloc _).alloc _ | exact (((Chg.refl [] w).alloc _).alloc _).setCell (Or.inr (by simp)) _⟩
set_option maxHeartbeats 400000 in
theorem binary_any (op x y : Int) (w : World) (hx : small x) (hy : small y) :
    Calls Try.prog 72 #[.int .i64 op, .int .i64 x, .int .i64 y] w fun e w' => e = .returned (.int .i64 (binop op x y)) ∧ w = w' := by
  obtain ⟨hx0, hx1⟩ := hx
  obtain ⟨hy0, hy1⟩ := hy
  obtain ⟨r, hr⟩ : ∃ r, binop op x y = r := ⟨_, rfl⟩
  rw [hr]
  unfold binop at hr
  by_cases e6 : op = 6
  · subst e6
    rw [if_pos rfl] at hr
    subst hr
    go_enter Try.func72, Try.ntmps72
    go_wp2_with fail
    refine (reduce_any _ _).mono ?_
    rintro e w1 ⟨rfl, rfl⟩
    go_wp2
    go_ret
    exact ⟨rfl, rfl⟩
  · rw [if_neg e6] at hr
    have b6 : (op == 6) = false := beq_eq_false_iff_ne.2 e6
    by_cases e7 : op = 7
    · subst e7
      rw [if_pos rfl] at hr
      subst hr
      go_enter Try.func72, Try.ntmps72
      go_wp2_with fail
      refine (reduce_any _ _).mono ?_
      rintro e w1 ⟨rfl, rfl⟩
      go_wp2
      go_ret
      exact ⟨rfl, rfl⟩
    · rw [if_neg e7] at hr
      have b7 : (op == 7) = false := beq_eq_false_iff_ne.2 e7
      by_cases e8 : op = 8
      · subst e8
        rw [if_pos rfl] at hr
        subst hr
        have hp0 : 0 ≤ x * y := Int.mul_nonneg hx0 hy0
        have hp1 : x * y ≤ 1000003 * 1000003 := Int.mul_le_mul (by omega) (by omega) hy0 (by decide)
        go_enter Try.func72, Try.ntmps72
        go_wp2_with fail
        refine (reduce_any _ _).mono ?_
        rintro e w1 ⟨rfl, rfl⟩
        go_wp2
        go_ret
        exact ⟨rfl, rfl⟩
      · rw [if_neg e8] at hr
        have b8 : (op == 8) = false := beq_eq_false_iff_ne.2 e8
        by_cases e9 : op = 9
        · subst e9
          rw [if_pos rfl] at hr
          have Hr := Lib.hid hr
          clear hr
          by_cases hxy : x ≤ y
          · have hm : min x y = x := by omega
            obtain rfl : x = r := by rw [← Hr.out, hm]
            go_enter Try.func72, Try.ntmps72
            go_wp2
            go_ret
            exact ⟨rfl, rfl⟩
          · have hm : min x y = y := by omega
            obtain rfl : y = r := by rw [← Hr.out, hm]
            go_enter Try.func72, Try.ntmps72
            go_wp2
            go_ret
            exact ⟨rfl, rfl⟩
        · rw [if_neg e9] at hr
          have b9 : (op == 9) = false := beq_eq_false_iff_ne.2 e9
          by_cases e10 : op = 10
          · subst e10
            rw [if_pos rfl] at hr
            have Hr := Lib.hid hr
            clear hr
            by_cases hxy : x < y
            · have hm : max x y = y := by omega
              obtain rfl : y = r := by rw [← Hr.out, hm]
              go_enter Try.func72, Try.ntmps72
              go_wp2
              go_ret
              exact ⟨rfl, rfl⟩
            · have hm : max x y = x := by omega
              obtain rfl : x = r := by rw [← Hr.out, hm]
              go_enter Try.func72, Try.ntmps72
              go_wp2
              go_ret
              exact ⟨rfl, rfl⟩
          · rw [if_neg e10] at hr
            have b10 : (op == 10) = false := beq_eq_false_iff_ne.2 e10
            by_cases hxy : x < y
            · rw [if_pos hxy] at hr
              subst hr
              go_enter Try.func72, Try.ntmps72
              go_wp2
              go_ret
              exact ⟨rfl, rfl⟩
            · rw [if_neg hxy] at hr
              subst hr
              go_enter Try.func72, Try.ntmps72
              go_wp2
              go_ret
              exact ⟨rfl, rfl⟩
theorem pop_any (w : World) (c a : Nat) (v : Option Addr) (n cap : Nat) (xs : List Int) (x : Int) (base : Nat)
    (hc : w.cell? ⟨c, 0, none⟩ = some (.slice v (n + 1) cap)) (hf : w.frozen? ⟨c, 0, none⟩ = false) (hr : w.ownsRow base 3 1 (.slice v (n + 1) cap) (n + 1) (xs.map (Value.int .i64) ++ [.int .i64 x])) :
    Calls Try.prog 70 #[.pointer (some ⟨c, 0, none⟩)] w fun e w' => e = .returned (.int .i64 x) ∧ w' = w.setCell ⟨c, 0, none⟩ (.slice v n cap) := by
  obtain ⟨_, g, rfl, hx, hn, hm⟩ := ownsRow_pop hr
  clear hr
  unfold maxLen at hm
  have h1 : (0 : Int) ≤ (n : Int) := by omega
  have h2 : (n : Int) ≤ cap := by omega
  have h3 : (n : Int) < (n : Int) + 1 := by omega
  go_enter Try.func70, Try.ntmps70
  go_wp2
  go_ret
  exact ⟨rfl, rfl⟩
end Go.Proofs.Ytggiddhhbilcjaa
