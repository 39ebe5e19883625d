/- Index, Contains, Equal at keys (the document's). -/
import Derived.Test.YtenjjiilcdgimaaKeys
namespace Go.Proofs.Ytenjjiilcdgimaa
open Go.RowKit
set_option linter.unusedVariables false
theorem ret_bool {b c : Bool} (h : b = c) : Ending.returned (.bool b) = .returned (.bool c) := by rw [h]
set_option maxHeartbeats 1000000 in
theorem refIndexK (p : Nat → Prop) (w : World) (v : Value) (ks : List I3) (k : I3) (hk : I3s p w v ks) (hp : ∀ g, p g → g < w.heap.size) :
    Calls Try.prog 12 #[v, i3v k] w fun e w' => e = .returned (.int .i64 (fidx (isKey k) ks)) ∧ Chg [] w w' := by
  obtain ⟨a, cap, rfl, hm, hc⟩ := hk.shape
  have Hk := Lib.hid hk
  have Hp := Lib.hid hp
  clear hk hp
  unfold maxLen at hm
  obtain ⟨k1, k2, k3⟩ := k
  unfold i3v
  have hgd := key_guard
  go_enter Try.func12, Try.ntmps12
  go_wp2
  go_loopw [9] (fun i wr => ∃ n : Nat, n ≤ ks.length ∧ i = .int .i64 (n : Nat) ∧ (∀ x ∈ ks.take n, isKey (k1, k2, k3) x = false) ∧ Chg [] (w.alloc (.cells #[.int .i64 k1, .int .i64 k2, .int .i64 k3] 24)) wr) (fun i _ => ks.length - (intOf i).toNat)
  case atStart => exact ⟨0, by omega, rfl, by simp, Chg.refl _ _⟩
  case round =>
    obtain ⟨n, hn, rfl, hnot, hcw⟩ := hrel
    have Hnot := Lib.hid hnot
    have Hcw := Lib.hid hcw
    have Hch := Lib.hid ((((Chg.refl [] w).alloc _).trans hcw) : Chg [] w wr)
    have m0 : wr.cell? ⟨w.heap.size, 0, none⟩ = some (.int .i64 k1) := (hcw.cell (p := ⟨w.heap.size, 0, none⟩) (by simp) (by simp)).trans (cell_of_heap (heap_at _ _ _ rfl) rfl)
    have m1 : wr.cell? ⟨w.heap.size, 1, none⟩ = some (.int .i64 k2) := (hcw.cell (p := ⟨w.heap.size, 1, none⟩) (by simp) (by simp)).trans (cell_of_heap (heap_at _ _ _ rfl) rfl)
    have m2 : wr.cell? ⟨w.heap.size, 2, none⟩ = some (.int .i64 k3) := (hcw.cell (p := ⟨w.heap.size, 2, none⟩) (by simp) (by simp)).trans (cell_of_heap (heap_at _ _ _ rfl) rfl)
    have lm := lt_of_cell m0
    clear hnot hcw
    by_cases hlt : n < ks.length
    · obtain ⟨g, off, rfl, _, q0, q1, q2⟩ := SlR.at (Hk.out.kept (Hch.out.p (S := fun _ => False)) (fun _ _ h => h)) n hlt (0, 0, 0)
      obtain ⟨x, hx⟩ : ∃ x, ks.getD n (0, 0, 0) = x := ⟨_, rfl⟩
      rw [hx] at q0 q1 q2
      have Hx := Lib.hid hx
      obtain ⟨x1, x2, x3⟩ := x
      simp only at q0 q1 q2
      have lg := lt_of_cell q0
      have hn1 : (n : Int) < ks.length := by omega
      have hn0 : (0 : Int) ≤ (n : Int) := by omega
      have hq := key_eql k1 k2 k3 x1 x2 x3
      clear hx
      by_cases he : k1 = x1 ∧ k2 = x2 ∧ k3 = x3
      · rw [decide_eq_true he] at hq
        have hf := fidx_some (isKey (k1, k2, k3)) ks n hlt (0, 0, 0) Hnot.out (by rw [Hx.out]; exact decide_eq_true ((i3_eq_iff (k1, k2, k3) (x1, x2, x3)).1 he))
        have Hf := Lib.hid hf
        clear hf he
        go_wp2
        go_ret
        exact ⟨by rw [Hf.out]; rfl, Hch.out.alloc _⟩
      · rw [decide_eq_false he] at hq
        have Hne := Lib.hid (show isKey (k1, k2, k3) (x1, x2, x3) = false from decide_eq_false (fun e => he ((i3_eq_iff (k1, k2, k3) (x1, x2, x3)).2 e)))
        clear he
        go_wp2
        go_roundw
        case rel =>
          refine ⟨n + 1, by omega, by go_num, fun y hy => ?_, Hcw.out.alloc _⟩
          rw [fold_take_snoc ks n hlt (0, 0, 0), List.mem_append, List.mem_singleton] at hy
          rcases hy with hy | rfl
          · exact Hnot.out y hy
          · rw [Hx.out]; exact Hne.out
        case measure => simp [intOf]; omega
    · obtain rfl : n = ks.length := by omega
      have hf := fidx_none (isKey (k1, k2, k3)) ks (by have := Hnot.out; rw [List.take_length] at this; exact this)
      have Hf := Lib.hid hf
      clear hf
      go_wp2
      go_ret
      exact ⟨by rw [Hf.out]; rfl, Hch.out⟩
theorem refContainsK (p : Nat → Prop) (w : World) (v : Value) (ks : List I3) (k : I3) (hk : I3s p w v ks) (hp : ∀ g, p g → g < w.heap.size) :
    Calls Try.prog 8 #[v, i3v k] w fun e w' => e = .returned (.bool (decide (k ∈ ks))) ∧ Chg [] w w' := by
  have hd := fidx_any (isKey k) ks
  have ha : ks.any (isKey k) = decide (k ∈ ks) := by
    rw [Bool.eq_iff_iff]
    simp [isKey]
  rw [ha] at hd
  have Hd := Lib.hid hd
  have hc0 : Chg [] w (w.alloc (.cells #[.int .i64 k.1, .int .i64 k.2.1, .int .i64 k.2.2] 24)) := (Chg.refl [] w).alloc _
  have hix := refIndexK p _ v ks k (hk.kept (hc0.p (S := fun _ => False)) (fun _ _ h => h)) (fun g hg => Nat.lt_of_lt_of_le (hp g hg) hc0.size)
  have Hix := Lib.hid hix
  have Hc0 := Lib.hid hc0
  clear hd ha hk hp hix hc0
  obtain ⟨k1, k2, k3⟩ := k
  unfold i3v
  go_enter Try.func8, Try.ntmps8
  go_wp2_with fail
  refine (Hix.out).mono ?_
  rintro e w1 ⟨rfl, c1⟩
  generalize fidx (isKey (k1, k2, k3)) ks = z at Hd
  by_cases hz : 0 ≤ z
  · have hzd : decide (0 ≤ z) = true := by simpa using hz
    have Hany := Lib.hid (show decide ((k1, k2, k3) ∈ ks) = true by rw [← Hd.out]; exact hzd)
    go_wp2
    go_ret
    exact ⟨by rw [Hany.out]; rfl, Hc0.out.trans c1⟩
  · have hzd : decide (0 ≤ z) = false := by simpa using hz
    have Hany := Lib.hid (show decide ((k1, k2, k3) ∈ ks) = false by rw [← Hd.out]; exact hzd)
    go_wp2
    go_ret
    exact ⟨by rw [Hany.out]; rfl, Hc0.out.trans c1⟩
theorem take_stepK {xs ys : List I3} {k : Nat} (hk : k < xs.length) (hl : ys.length = xs.length) (h : xs.take k = ys.take k) (he : xs.getD k (0, 0, 0) = ys.getD k (0, 0, 0)) : xs.take (k + 1) = ys.take (k + 1) := by
  have hk' : k < ys.length := by omega
  rw [List.take_succ_eq_append_getElem hk, List.take_succ_eq_append_getElem hk', h]
  simp only [List.getD_eq_getElem?_getD, List.getElem?_eq_getElem hk, List.getElem?_eq_getElem hk', Option.getD_some] at he
  rw [he]
set_option maxHeartbeats 4000000 in
theorem equalKeys_any (w : World) (p1 p2 : Nat → Prop) (v1 v2 : Value) (xs ys : List I3) (h1 : I3s p1 w v1 xs) (h2 : I3s p2 w v2 ys) :
    Calls Try.prog 14 #[v1, v2] w fun e w' => e = .returned (.bool (decide (xs = ys))) ∧ Chg [] w w' := by
  obtain ⟨a1, c1, rfl, hm, hmc⟩ := h1.shape
  obtain ⟨a2, c2, rfl, hm2, hmc2⟩ := h2.shape
  unfold maxLen at hm hm2
  by_cases hl : xs.length = ys.length
  · have hl1 : (xs.length : Int) = ys.length := by omega
    have H1 := Lib.hid h1
    have H2 := Lib.hid h2
    have Hl := Lib.hid hl
    clear h1 h2 hl
    go_enter Try.func14, Try.ntmps14
    go_wp2
    go_loopw [14] (fun i wr => ∃ k : Nat, k ≤ xs.length ∧ i = .int .i64 (k : Nat) ∧ Chg [] w wr ∧ xs.take k = ys.take k) (fun i _ => xs.length - (intOf i).toNat)
    case atStart => exact ⟨0, by omega, rfl, Chg.refl _ _, rfl⟩
    case round =>
      obtain ⟨k, hk, rfl, hcw, ht⟩ := hrel
      have Ht := Lib.hid ht
      have Hcw := Lib.hid hcw
      clear ht hcw
      by_cases hlt : k < xs.length
      · have hlt2 : k < ys.length := by have := Hl.out; omega
        have hk1 : (k : Int) < xs.length := by omega
        have hk2 : (k : Int) < ys.length := by omega
        obtain ⟨g1, o1, rfl, _, q0, q1, q2⟩ := SlR.at H1.out k hlt (0, 0, 0)
        obtain ⟨g2, o2, rfl, _, z0, z1, z2⟩ := SlR.at H2.out k hlt2 (0, 0, 0)
        replace q0 := (Hcw.out.cell (lt_of_cell q0) (by simp)).trans q0
        replace q1 := (Hcw.out.cell (lt_of_cell q1) (by simp)).trans q1
        replace q2 := (Hcw.out.cell (lt_of_cell q2) (by simp)).trans q2
        replace z0 := (Hcw.out.cell (lt_of_cell z0) (by simp)).trans z0
        replace z1 := (Hcw.out.cell (lt_of_cell z1) (by simp)).trans z1
        replace z2 := (Hcw.out.cell (lt_of_cell z2) (by simp)).trans z2
        have l1 : g1 < wr.heap.size := lt_of_cell q0
        have l2 : g2 < wr.heap.size := lt_of_cell z0
        have l11 : g1 < wr.heap.size + 1 := by omega
        have l21 : g2 < wr.heap.size + 1 := by omega
        obtain ⟨x, hx⟩ : ∃ x, xs.getD k (0, 0, 0) = x := ⟨_, rfl⟩
        obtain ⟨y, hy⟩ : ∃ y, ys.getD k (0, 0, 0) = y := ⟨_, rfl⟩
        rw [hx] at q0 q1 q2
        rw [hy] at z0 z1 z2
        obtain ⟨x1, x2, x3⟩ := x
        obtain ⟨y1, y2, y3⟩ := y
        simp only at q0 q1 q2 z0 z1 z2
        have Hx := Lib.hid hx
        have Hy := Lib.hid hy
        clear hx hy
        have hneq := fun w : World => key_neq x1 x2 x3 y1 y2 y3 w
        have hgd := key_guard
        by_cases he : x1 = y1 ∧ x2 = y2 ∧ x3 = y3
        · have hdt : decide (x1 = y1 ∧ x2 = y2 ∧ x3 = y3) = true := decide_eq_true he
          simp only [hdt] at hneq
          have He := Lib.hid he
          clear he hdt
          go_wp2_with fail
          go_region
          all_goals
            go_wp2_with fail
            go_roundw
            case rel => exact ⟨k + 1, by omega, by go_num, (Hcw.out.alloc _).drew, take_stepK hlt Hl.out.symm Ht.out (by rw [Hx.out, Hy.out, He.out.1, He.out.2.1, He.out.2.2])⟩
            case measure => simp [intOf]; omega
        · have hdt : decide (x1 = y1 ∧ x2 = y2 ∧ x3 = y3) = false := decide_eq_false he
          simp only [hdt] at hneq
          have He := Lib.hid he
          clear he hdt
          go_wp2_with fail
          go_region
          all_goals
            go_wp2_with fail
            go_ret
            refine ⟨ret_bool (decide_eq_false (fun e => He.out ?_)).symm, (Hcw.out.alloc _).drew⟩
            have h3 := Hx.out.symm.trans ((by rw [e] : xs.getD k (0, 0, 0) = ys.getD k (0, 0, 0)).trans Hy.out)
            simp only [Prod.mk.injEq] at h3
            exact h3
      · have hk1 : ¬ (k : Int) < xs.length := by omega
        go_wp2
        go_ret
        exact ⟨ret_bool (decide_eq_true (by have h3 := Ht.out; rwa [List.take_of_length_le (by omega), List.take_of_length_le (by have := Hl.out; omega)] at h3)).symm, Hcw.out⟩
  · have hl1 : ((xs.length : Int) != ys.length) = true := by simp; omega
    have Hl := Lib.hid hl
    clear hl h1 h2
    go_enter Try.func14, Try.ntmps14
    go_wp2
    go_ret
    exact ⟨ret_bool (decide_eq_false (fun e => Hl.out (by rw [e]))).symm, Chg.refl _ _⟩
end Go.Proofs.Ytenjjiilcdgimaa
