/- indices; the readers of a set (rows of rows). -/
import Derived.Test.YtaciceaipmclgaaFixA
import Derived.Deep.LoopGhost
namespace Go.Proofs.Ytaciceaipmclgaa
open Go.RowKit
set_option linter.unusedVariables false
theorem madeCells_get (z : Array Value) (v : Value) (hz : z = #[v]) (n j : Nat) (hj : j < n) : (madeCells z n)[j]? = some v := by
  subst hz
  simp [madeCells, hj, Nat.mod_one]
theorem make_ints (n : Nat) (hn : n ≤ 1000000) : ∃ c : Array Value, c.size = n ∧ (∀ j, j < n → c[j]? = some (nv 0)) ∧
    ∀ w : World, (Instr.makeSlice 23 (.int .i64 (n : Int)) (.int .i64 (n : Int))).run Try.prog w = .ok (.slice (some ⟨w.heap.size, 0, none⟩) n n) (w.alloc (.cells c 3)) := by
  obtain ⟨i, hi, hz, hsz, hby⟩ := info_parts Try.infoInt
  refine ⟨madeCells (Value.cells (.int .i64 0)) n, by simp [madeCells], fun j hj => madeCells_get _ _ rfl n j hj, fun w => ?_⟩
  have := run_make (P := Try.prog) w 23 3 i _ Try.underlying23 hi hz .i64 .i64 n n (by omega) (by omega) (by rw [hby]; omega) (by omega)
  rw [this, hsz]
  simp
set_option maxHeartbeats 1000000 in
theorem indices_any (w : World) (n : Nat) (hn : n ≤ 60) : Calls Try.prog 20 #[.int .i64 (n : Int)] w fun e w' => ∃ v, e = .returned v ∧ Que w' w.heap.size v (List.range n) ∧ Chg [] w w' := by
  obtain ⟨c0, hc1, hc2, hmk⟩ := make_ints n (by omega)
  have hmk' := hmk w
  have Hmk := Lib.hid hmk
  have Hc1 := Lib.hid hc1
  clear hmk hc1 hc2
  go_enter Try.func20, Try.ntmps20
  go_wp2
  go_loopw [9] (fun i wr => ∃ k : Nat, ∃ cur : Array Value, k ≤ n ∧ i = .int .i64 (k : Nat) ∧ cur.size = n ∧ (∀ j, j < k → cur[j]? = some (nv j)) ∧ wr.heap[w.heap.size]? = some (.cells cur 3 (0, 0)) ∧ Chg [] w wr) (fun i _ => n - (intOf i).toNat)
  case atStart => exact ⟨0, c0, by omega, rfl, Hc1.out, fun j hj => absurd hj (by omega), heap_at _ _ _ rfl, (Chg.refl _ _).alloc _⟩
  case round =>
    obtain ⟨k, cur, hk, rfl, hcz, hcv, hh, hcw⟩ := hrel
    by_cases hlt : k < n
    · obtain ⟨y, hcell⟩ : ∃ y, wr.cell? ⟨w.heap.size, k, none⟩ = some y := ⟨_, cell_of_heap hh (Array.getElem?_eq_getElem (show k < cur.size by omega))⟩
      have hfz : wr.frozen? ⟨w.heap.size, k, none⟩ = false := frozen_of_heap hh
      have hk1 : (k : Int) < n := by omega
      have Hh := Lib.hid hh
      have Hcv := Lib.hid hcv
      have Hcz := Lib.hid hcz
      clear hh hcv hcz hmk'
      go_wp2
      refine ⟨⟨k + 1, cur.setIfInBounds k (nv k), by omega, by go_num, by simp [Hcz.out], fun j hj => ?_, heap_setCell_same Hh.out _, hcw.setCell (Or.inr (Nat.le_refl _)) _⟩, by simp [intOf]; omega⟩
      rw [Array.getElem?_setIfInBounds]
      by_cases hjk : k = j
      · subst hjk
        rw [if_pos rfl, if_pos (by rw [Hcz.out]; omega)]
      · rw [if_neg hjk]
        exact Hcv.out j (by omega)
    · obtain rfl : k = n := by omega
      have Hh := Lib.hid hh
      have Hcv := Lib.hid hcv
      have Hcz := Lib.hid hcz
      clear hh hcv hcz hmk'
      go_wp2
      go_ret
      refine ⟨_, rfl, ⟨w.heap.size, 0, k, cur, by simp, Nat.le_refl _, Hh.out, by simp, by unfold maxLen; omega, by rw [Hcz.out]; omega, fun j hj => ?_⟩, hcw⟩
      rw [List.length_range] at hj
      rw [Nat.zero_add, Hcv.out j hj]
      simp [hj]
end Go.Proofs.Ytaciceaipmclgaa
