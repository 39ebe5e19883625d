/- slices.Reverse of steps. -/
import Derived.Test.YtaciceaipmclgaaFxD
namespace Go.Proofs.Ytaciceaipmclgaa
open Go.RowKit
set_option linter.unusedVariables false
/-- a row of n steps of the element e, the j-th of them f j -/
def RS (w : World) (g n e : Nat) (f : Nat → Nat × Nat) : Prop :=
  ∃ cur : Array Value, w.heap[g]? = some (.cells cur 59 (0, 0)) ∧ n * 3 ≤ cur.size ∧ ∀ j, j < n → cur[j * 3]? = some (.int .i64 ((f j).1 : Int)) ∧ cur[j * 3 + 1]? = some (.int .i64 ((f j).2 : Int)) ∧ cur[j * 3 + 2]? = some (.int .i64 (e : Int))
theorem RS.cell {w : World} {g n e : Nat} {f : Nat → Nat × Nat} (h : RS w g n e f) (j : Nat) (hj : j < n) : w.cell? ⟨g, j * 3, none⟩ = some (.int .i64 ((f j).1 : Int)) ∧ w.cell? ⟨g, j * 3 + 1, none⟩ = some (.int .i64 ((f j).2 : Int)) ∧ w.cell? ⟨g, j * 3 + 2, none⟩ = some (.int .i64 (e : Int)) := by
  obtain ⟨cur, hh, hs, hc⟩ := h
  obtain ⟨h0, h1, h2⟩ := hc j hj
  exact ⟨cell_of_heap hh h0, cell_of_heap hh h1, cell_of_heap hh h2⟩
theorem RS.frozen {w : World} {g n e : Nat} {f : Nat → Nat × Nat} (h : RS w g n e f) (o : Nat) : w.frozen? ⟨g, o, none⟩ = false := by
  obtain ⟨cur, hh, hs, hc⟩ := h
  exact frozen_of_heap hh
theorem RS.drew {w : World} {g n e : Nat} {f : Nat → Nat × Nat} (h : RS w g n e f) : RS w.drew g n e f := h
theorem RS.congr {w : World} {g n e : Nat} {f f' : Nat → Nat × Nat} (h : RS w g n e f) (hf : ∀ j, j < n → f j = f' j) : RS w g n e f' := by
  obtain ⟨cur, hh, hs, hc⟩ := h
  exact ⟨cur, hh, hs, fun j hj => by rw [← hf j hj]; exact hc j hj⟩
theorem RS.put {w : World} {g n e : Nat} {f : Nat → Nat × Nat} (h : RS w g n e f) (q : Nat) (hq : q < n) (s : Nat × Nat) :
    RS (((w.setCell ⟨g, q * 3, none⟩ (.int .i64 (s.1 : Int))).setCell ⟨g, q * 3 + 1, none⟩ (.int .i64 (s.2 : Int))).setCell ⟨g, q * 3 + 2, none⟩ (.int .i64 (e : Int))) g n e (fun j => if j = q then s else f j) := by
  obtain ⟨cur, hh, hs, hc⟩ := h
  refine ⟨_, heap_setCell_same (heap_setCell_same (heap_setCell_same hh _) _) _, by simpa using hs, fun j hj => ?_⟩
  obtain ⟨h0, h1, h2⟩ := hc j hj
  simp only []
  by_cases hjq : j = q
  · subst hjq
    rw [if_pos rfl]
    refine ⟨?_, ?_, ?_⟩
    · rw [Array.getElem?_setIfInBounds, if_neg (by omega), Array.getElem?_setIfInBounds, if_neg (by omega), Array.getElem?_setIfInBounds, if_pos rfl, if_pos (by omega)]
    · rw [Array.getElem?_setIfInBounds, if_neg (by omega), Array.getElem?_setIfInBounds, if_pos rfl, if_pos (by simp; omega)]
    · rw [Array.getElem?_setIfInBounds, if_pos rfl, if_pos (by simp; omega)]
  · rw [if_neg hjq]
    refine ⟨?_, ?_, ?_⟩
    · rw [Array.getElem?_setIfInBounds, if_neg (by omega), Array.getElem?_setIfInBounds, if_neg (by omega), Array.getElem?_setIfInBounds, if_neg (by omega)]; exact h0
    · rw [Array.getElem?_setIfInBounds, if_neg (by omega), Array.getElem?_setIfInBounds, if_neg (by omega), Array.getElem?_setIfInBounds, if_neg (by omega)]; exact h1
    · rw [Array.getElem?_setIfInBounds, if_neg (by omega), Array.getElem?_setIfInBounds, if_neg (by omega), Array.getElem?_setIfInBounds, if_neg (by omega)]; exact h2
/-- the first k and the last k have been exchanged -/
def swp (n k : Nat) (f : Nat → Nat × Nat) (j : Nat) : Nat × Nat := if j < k ∨ n ≤ j + k then f (n - 1 - j) else f j
theorem swp_step (n k j : Nat) (f : Nat → Nat × Nat) (hk : k + j = n - 1) (hkj : k < j) (q : Nat) (hq : q < n) : (if q = k then swp n k f j else if q = j then swp n k f k else swp n k f q) = swp n (k + 1) f q := by
  unfold swp
  by_cases h1 : q = k
  · subst h1; rw [if_pos rfl, if_neg (by omega), if_pos (by omega), show n - 1 - q = j by omega]
  · rw [if_neg h1]
    by_cases h2 : q = j
    · subst h2; rw [if_pos rfl, if_neg (by omega), if_pos (by omega), show n - 1 - q = k by omega]
    · rw [if_neg h2]
      by_cases h3 : q < k ∨ n ≤ q + k
      · rw [if_pos h3, if_pos (by omega)]
      · rw [if_neg h3, if_neg (by omega)]
theorem swp_end (n k : Nat) (f : Nat → Nat × Nat) (hk : n ≤ 2 * k + 1) (q : Nat) (hq : q < n) : swp n k f q = f (n - 1 - q) := by
  unfold swp
  by_cases h : q < k ∨ n ≤ q + k
  · rw [if_pos h]
  · rw [if_neg h, show n - 1 - q = q by omega]
set_option maxRecDepth 100000 in
set_option maxHeartbeats 4000000 in
theorem reverse_any (w : World) (g n cap e : Nat) (f : Nat → Nat × Nat) (hn : n ≤ 1000) (hcap : n ≤ cap) (h : RS w g n e f) :
    Calls Try.prog 29 #[.slice (some ⟨g, 0, none⟩) n cap] w fun o w' => o = .returned (.tuple #[]) ∧ RS w' g n e (fun j => f (n - 1 - j)) ∧ Chg [g] w w' := by
  have H := Lib.hid h
  clear h
  have hn1 : IntKind.i64.wrap ((n : Int) - 1) = (n : Int) - 1 := IntWalk.i64_in _ (by omega)
  go_enter Try.func29, Try.ntmps29
  go_wp2
  go_loopw [2, 3] (fun i j wr => ∃ k : Nat, k ≤ n ∧ i = .int .i64 (k : Nat) ∧ j = .int .i64 ((n : Int) - 1 - (k : Int)) ∧ Hid (RS wr g n e (swp n k f)) ∧ Hid (Chg [g] w wr)) (fun i _ _ => n - (intOf i).toNat)
  case atStart => exact ⟨0, by omega, rfl, by simp, Lib.hid (H.out.congr fun j hj => by unfold swp; rw [if_neg (by omega)]), Lib.hid (Chg.refl _ _)⟩
  case round =>
    clear H hn1
    obtain ⟨k, hk, rfl, rfl, HS, Hc⟩ := hrel
    by_cases hlt : 2 * k + 1 < n
    · obtain ⟨j, hj⟩ : ∃ j, k + j = n - 1 := ⟨n - 1 - k, by omega⟩
      have hje : (n : Int) - 1 - (k : Int) = (j : Int) := by omega
      rw [hje]
      have hkj : k < j := by omega
      have hjn : j < n := by omega
      have hkn : k < n := by omega
      obtain ⟨q0, q1, q2⟩ := HS.out.cell k hkn
      obtain ⟨r0, r1, r2⟩ := HS.out.cell j hjn
      have fz := HS.out.frozen
      have lg : g < wr.heap.size := lt_of_cell q0
      obtain ⟨sk, hsk⟩ : ∃ s, swp n k f k = s := ⟨_, rfl⟩
      obtain ⟨sj, hsj⟩ : ∃ s, swp n k f j = s := ⟨_, rfl⟩
      rw [hsk] at q0 q1
      rw [hsj] at r0 r1
      have Hs := Lib.hid (And.intro hsk hsj)
      have Hj := Lib.hid hj
      have hk0 : (0 : Int) ≤ (k : Int) := by omega
      have hj0 : (0 : Int) ≤ (j : Int) := by omega
      have hkj2 : (k : Int) < (j : Int) := by omega
      have f0 := fz (k * 3)
      have f1 := fz (j * 3)
      have f2 := fz (k * 3 + 1)
      have f3 := fz (j * 3 + 1)
      have f4 := fz (k * 3 + 2)
      have f5 := fz (j * 3 + 2)
      have hA : RS ((((((wr.setCell ⟨g, k * 3, none⟩ (.int .i64 (sj.1 : Int))).setCell ⟨g, k * 3 + 1, none⟩ (.int .i64 (sj.2 : Int))).setCell ⟨g, k * 3 + 2, none⟩ (.int .i64 (e : Int))).setCell ⟨g, j * 3, none⟩ (.int .i64 (sk.1 : Int))).setCell ⟨g, j * 3 + 1, none⟩ (.int .i64 (sk.2 : Int))).setCell ⟨g, j * 3 + 2, none⟩ (.int .i64 (e : Int))) g n e (swp n (k + 1) f) :=
        ((HS.out.put k hkn sj).put j hjn sk).congr fun q hq => by
          rw [← swp_step n k j f hj hkj q hq, hsk, hsj]
          by_cases h1 : q = k
          · subst h1; rw [if_neg (by omega), if_pos rfl, if_pos rfl]
          · rw [if_neg h1, if_neg h1]
      have HA := Lib.hid hA
      have hch := ((((((Hc.out.setCell (p := ⟨g, k * 3, none⟩) (Or.inl (by simp)) (.int .i64 (sj.1 : Int))).setCell (p := ⟨g, k * 3 + 1, none⟩) (Or.inl (by simp)) (.int .i64 (sj.2 : Int))).setCell (p := ⟨g, k * 3 + 2, none⟩) (Or.inl (by simp)) (.int .i64 (e : Int))).setCell (p := ⟨g, j * 3, none⟩) (Or.inl (by simp)) (.int .i64 (sk.1 : Int))).setCell (p := ⟨g, j * 3 + 1, none⟩) (Or.inl (by simp)) (.int .i64 (sk.2 : Int))).setCell (p := ⟨g, j * 3 + 2, none⟩) (Or.inl (by simp)) (.int .i64 (e : Int))).drew
      have Hch := Lib.hid hch
      clear hje hj hsk hsj fz hA hch
      go_wp2
      go_region
      go_wp2
      have hv : (j : Int) - 1 = (n : Int) - 1 - ((k + 1 : Nat) : Int) := by have := Hj.out; omega
      exact ⟨⟨k + 1, by omega, by go_num, by rw [hv], Lib.hid HA.out.drew, Hch⟩, by simp [intOf]; omega⟩
    · obtain ⟨z, hz⟩ : ∃ z : Int, (n : Int) - 1 - (k : Int) = z := ⟨_, rfl⟩
      rw [hz]
      have hzk : ¬ (k : Int) < z := by omega
      have Hz := Lib.hid hz
      clear hz
      go_wp2
      go_end0
      exact ⟨rfl, HS.out.congr (swp_end n k f (by omega)), Hc.out⟩
end Go.Proofs.Ytaciceaipmclgaa
