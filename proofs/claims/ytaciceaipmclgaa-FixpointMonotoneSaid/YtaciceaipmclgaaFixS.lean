/- slices.Delete of a row's last rule. -/
import Derived.Test.YtaciceaipmclgaaFixN
import Derived.Lib.SliceRun
namespace Go.Proofs.Ytaciceaipmclgaa
open Go.RowKit
set_option linter.unusedVariables false
theorem run_clear_rule (w : World) (ty : TypeId) (g o c : Nat) (h1 : (w.cell? ⟨g, o, none⟩).isSome = true) (h2 : (w.cell? ⟨g, o + 1, none⟩).isSome = true) (f1 : w.frozen? ⟨g, o, none⟩ = false) (f2 : w.frozen? ⟨g, o + 1, none⟩ = false) :
    (Builtin.clear_ #[39] ty #[.slice (some ⟨g, o, none⟩) 1 c]).run Try.prog w = .ok (.tuple #[]) (w.setCells g o [.int .i64 0, .slice none 0 0]) := by
  have hst := run_storeCells_cells (P := Try.prog) g o [.int .i64 0, .slice none 0 0] 0 w (fun j hj => by
      have : j = 0 ∨ j = 1 := by simp at hj; omega
      rcases this with rfl | rfl
      · simpa using h1
      · simpa using h2) (fun j hj => by
      have : j = 0 ∨ j = 1 := by simp at hj; omega
      rcases this with rfl | rfl
      · simpa using f1
      · simpa using f2) (by simp [Value.oneCell'])
  simp only [Nat.add_zero] at hst
  have hz : (zeroValue 31).run Try.prog w = .ok (.agg #[.int .i64 0, .slice none 0 0]) w := by kernel_rfl
  have hc : (Builtin.zeroCells (Value.agg #[.int .i64 0, .slice none 0 0]).cells 1).toList = [.int .i64 0, .slice none 0 0] := by kernel_rfl
  simp [Builtin.clear_, run_underlying Try.underlying39, hz, hc, hst]
theorem setCells_two (w : World) (g o : Nat) (u v : Value) : w.setCells g o [u, v] = (w.setCell ⟨g, o, none⟩ u).setCell ⟨g, o + 1, none⟩ v := rfl
set_option maxRecDepth 100000 in
set_option maxHeartbeats 2000000 in
theorem delete_any (w : World) (g k cap : Nat) (cur : Array Value) (hb : w.heap[g]? = some (.cells cur 31 (0, 0))) (hk : k + 1 ≤ cap) (hc : cap ≤ maxLen) (hs : (k + 1) * 2 ≤ cur.size) :
    Calls Try.prog 24 #[.slice (some ⟨g, 0, none⟩) (k + 1) cap, .int .i64 (k : Int), .int .i64 ((k : Int) + 1)] w fun e w' =>
      e = .returned (.slice (some ⟨g, 0, none⟩) k cap) ∧ Chg [g] w w' ∧ ∀ j, j < k * 2 → w'.cell? ⟨g, j, none⟩ = w.cell? ⟨g, j, none⟩ := by
  have hfin : ∀ n, Chg [g] w ((w.drewN n).setCells g (k * 2) [.int .i64 0, .slice none 0 0]) ∧ ∀ j, j < k * 2 → ((w.drewN n).setCells g (k * 2) [.int .i64 0, .slice none 0 0]).cell? ⟨g, j, none⟩ = w.cell? ⟨g, j, none⟩ := by
    intro n
    rw [setCells_two]
    refine ⟨(((Chg.refl [g] w).drewN n).setCell (Or.inl (by simp)) _).setCell (Or.inl (by simp)) _, fun j hj => ?_⟩
    rw [World.cell?_setCell_other _ _ _ _ (by simp <;> omega), World.cell?_setCell_other _ _ _ _ (by simp <;> omega)]
    rfl
  have Hfin := Lib.hid hfin
  obtain ⟨i0, hi0, hz0, hz1, hz2⟩ := info_parts Try.infoRule
  have Hi0 := Lib.hid hi0
  have Hz1 := Lib.hid hz1
  clear hi0 hz0 hz1 hz2 hfin
  have hcs : ∀ j, j < cur.size → (w.drew.cell? ⟨g, j, none⟩).isSome = true := fun j hj => by
    rw [cell_of_heap (w := w.drew) hb (Array.getElem?_eq_getElem hj)]
    rfl
  have hcl : ∀ ty, (Builtin.clear_ #[39] ty #[.slice (some ⟨g, k * 2, none⟩) 1 (cap - k)]).run Try.prog (w.drew.setCells g (k * 2) []) = .ok (.tuple #[]) (w.drew.setCells g (k * 2) [.int .i64 0, .slice none 0 0]) := fun ty =>
    run_clear_rule w.drew ty g (k * 2) (cap - k) (hcs _ (by omega)) (hcs _ (by omega)) (frozen_of_heap (w := w.drew) hb) (frozen_of_heap (w := w.drew) hb)
  have Hb := Lib.hid hb
  unfold maxLen at hc
  have hk1 : ((k : Int) + 1) ≤ cap := by omega
  have hk0 : (0 : Int) ≤ (k : Int) + 1 := by omega
  have hkc : k ≤ cap := by omega
  have hne : ((k : Int) == (k : Int) + 1) = false := beq_eq_false_iff_ne.2 (by omega)
  obtain ⟨A, hA⟩ : ∃ A : Addr, (if cap = k + 1 then (some ⟨g, 0, none⟩ : Option Addr) else some ⟨g, (k + 1) * 2, none⟩) = some A := by
    by_cases h : cap = k + 1
    · exact ⟨_, if_pos h⟩
    · exact ⟨_, if_neg h⟩
  clear hb hcs
  go_enter Try.func24, Try.ntmps24
  go_wp2_with fail
  go_region_law (refine step_append_room rfl (.tmp 22) (.tmp 25) 39 rfl 31 i0 2 Try.underlying39 Hi0.out Hz1.out g 0 k cap (by simp [Act.eval, Act.put]) A 0 (cap - (k + 1)) [] (by simp [Act.eval, Act.put]) (by simp) (by simp) (by simp) (by omega) (by simp) ?_)
  go_wp2
  go_ret
  exact ⟨rfl, Hfin.out 1⟩
end Go.Proofs.Ytaciceaipmclgaa
