/- Keys compared: cmp.Compare, cmp.Or, depgraph.compareKeys. -/
import Derived.Test.YtenjjiilcdgimaaDgPlain
import Derived.Test.YtenjjiilcdgimaaProg
import Derived.Test.YtenjjiilcdgimaaStill
import Derived.Shelf.Small.Wraps
import Derived.Deep.DeepCutAuto
import Derived.Deep.RegionLaw
namespace Go.Proofs.Ytenjjiilcdgimaa
open Go.RowKit Go.ChangeMaps Go.MapKept Go.Shelf
set_option linter.unusedVariables false
set_option linter.unusedSimpArgs false
theorem compare_any (a b : Int) (w : World) : Calls Try.prog 38 #[.int .i64 a, .int .i64 b] w fun e w' => e = .returned (.int .i64 (cmpI a b)) ∧ w' = w := by
  have HN : ∀ x W, Calls Try.prog 51 #[.int .i64 x] W fun e w' => e = .returned (.bool false) ∧ w' = W := by
    intro x W
    have hx : (x != x) = false := by simp
    go_enter Try.func51, Try.ntmps51
    go_wp2_with fail
    go_ret
    exact ⟨rfl, rfl⟩
  have HNN := Lib.hid HN
  clear HN
  rcases cmpI_cases a b with ⟨h, e⟩ | ⟨h, e⟩ | ⟨h, e⟩
  · have He := Lib.hid e
    clear e
    go_enter Try.func38, Try.ntmps38
    go_wp2_with fail
    refine (HNN.out _ _).mono ?_
    rintro e w' ⟨rfl, rfl⟩
    go_wp2_with fail
    refine (HNN.out _ _).mono ?_
    rintro e w' ⟨rfl, rfl⟩
    go_wp2_with fail
    go_ret
    exact ⟨by rw [He.out]; rfl, rfl⟩
  · have He := Lib.hid e
    have h1 : ¬ a < b := by omega
    clear e
    go_enter Try.func38, Try.ntmps38
    go_wp2_with fail
    refine (HNN.out _ _).mono ?_
    rintro e w' ⟨rfl, rfl⟩
    go_wp2_with fail
    refine (HNN.out _ _).mono ?_
    rintro e w' ⟨rfl, rfl⟩
    go_wp2_with fail
    go_ret
    exact ⟨by rw [He.out]; rfl, rfl⟩
  · have He := Lib.hid e
    have h1 : ¬ a < b := by omega
    have h2 : ¬ b < a := by omega
    clear e h
    go_enter Try.func38, Try.ntmps38
    go_wp2_with fail
    refine (HNN.out _ _).mono ?_
    rintro e w' ⟨rfl, rfl⟩
    go_wp2_with fail
    refine (HNN.out _ _).mono ?_
    rintro e w' ⟨rfl, rfl⟩
    go_wp2_with fail
    go_ret
    exact ⟨by rw [He.out]; rfl, rfl⟩
def or3 (a b c : Int) : Int := if a ≠ 0 then a else if b ≠ 0 then b else c
theorem or_any (a b c : Int) (g : Nat) (w : World) (h0 : w.cell? ⟨g, 0, none⟩ = some (.int .i64 a)) (h1 : w.cell? ⟨g, 1, none⟩ = some (.int .i64 b)) (h2 : w.cell? ⟨g, 2, none⟩ = some (.int .i64 c)) :
    Calls Try.prog 37 #[.slice (some ⟨g, 0, none⟩) 3 3] w fun e w' => e = .returned (.int .i64 (or3 a b c)) ∧ w' = w := by
  go_enter Try.func37, Try.ntmps37
  go_wp2_with fail
  go_loopw [8] (fun jj wr => wr = w ∧ ((jj = .int .i64 0) ∨ (jj = .int .i64 1 ∧ a = 0) ∨ (jj = .int .i64 2 ∧ a = 0 ∧ b = 0) ∨ (jj = .int .i64 3 ∧ a = 0 ∧ b = 0 ∧ c = 0))) (fun jj _ => 3 - (intOf jj).toNat)
  case atStart => exact ⟨rfl, Or.inl rfl⟩
  case round =>
    obtain ⟨rfl, h⟩ := hrel
    rcases h with rfl | ⟨rfl, ha⟩ | ⟨rfl, ha, hb⟩ | ⟨rfl, ha, hb, hc⟩
    · by_cases ha : a = 0
      · have e : (a != 0) = false := by simp [ha]
        have Ha := Lib.hid ha
        clear ha
        go_wp2_with fail
        exact ⟨⟨trivial, Or.inr (Or.inl ⟨rfl, Ha.out⟩)⟩, by simp [intOf]⟩
      · have e : (a != 0) = true := by simp [ha]
        go_wp2_with fail
        go_ret
        exact ⟨by unfold or3; rw [if_pos ha]; rfl, rfl⟩
    · have Ha := Lib.hid ha
      clear ha
      by_cases hb : b = 0
      · have e : (b != 0) = false := by simp [hb]
        have Hb := Lib.hid hb
        clear hb
        go_wp2_with fail
        exact ⟨⟨trivial, Or.inr (Or.inr (Or.inl ⟨rfl, Ha.out, Hb.out⟩))⟩, by simp [intOf]⟩
      · have e : (b != 0) = true := by simp [hb]
        go_wp2_with fail
        go_ret
        exact ⟨by unfold or3; rw [if_neg (by simp [Ha.out]), if_pos hb]; rfl, rfl⟩
    · have Ha := Lib.hid ha
      have Hb := Lib.hid hb
      clear ha hb
      by_cases hc : c = 0
      · have e : (c != 0) = false := by simp [hc]
        have Hc := Lib.hid hc
        clear hc
        go_wp2_with fail
        exact ⟨⟨trivial, Or.inr (Or.inr (Or.inr ⟨rfl, Ha.out, Hb.out, Hc.out⟩))⟩, by simp [intOf]⟩
      · have e : (c != 0) = true := by simp [hc]
        go_wp2_with fail
        go_ret
        exact ⟨by unfold or3; rw [if_neg (by simp [Ha.out]), if_neg (by simp [Hb.out])]; rfl, rfl⟩
    · have Hall := Lib.hid (And.intro ha (And.intro hb hc))
      clear ha hb hc
      go_wp2_with fail
      go_ret
      exact ⟨by unfold or3; rw [if_neg (by simp [Hall.out.1]), if_neg (by simp [Hall.out.2.1]), Hall.out.2.2]; rfl, rfl⟩
theorem heap_atD (w : World) (o : Obj) (n : Nat) (h : n = w.heap.size) : (w.alloc o).drew.heap[n]? = some o := heap_at w o n h
theorem or_h (a b c : Int) (g : Nat) (w : World) {T : TypeId} (h : w.heap[g]? = some (.cells #[.int .i64 a, .int .i64 b, .int .i64 c] T (0, 0))) :
    Calls Try.prog 37 #[.slice (some ⟨g, 0, none⟩) 3 3] w fun e w' => e = .returned (.int .i64 (or3 a b c)) ∧ w' = w := or_any a b c g w (cell_of_heap h rfl) (cell_of_heap h rfl) (cell_of_heap h rfl)
set_option maxRecDepth 100000 in
set_option maxHeartbeats 4000000 in
theorem compareKeys_any (a b : I3) (w : World) : Calls Try.prog 29 #[i3v a, i3v b] w fun e w' => e = .returned (.int .i64 (cmpK a b)) ∧ Chg [] w w' := by
  obtain ⟨a0, a1, a2⟩ := a
  obtain ⟨b0, b1, b2⟩ := b
  have HC := Lib.hid compare_any
  unfold i3v
  simp only
  obtain ⟨c0, hc0⟩ : ∃ x, cmpI a0 b0 = x := ⟨_, rfl⟩
  obtain ⟨c1, hc1⟩ : ∃ x, cmpI a1 b1 = x := ⟨_, rfl⟩
  obtain ⟨c2, hc2⟩ : ∃ x, cmpI a2 b2 = x := ⟨_, rfl⟩
  have Hc := Lib.hid (show cmpK (a0, a1, a2) (b0, b1, b2) = or3 c0 c1 c2 by unfold cmpK or3; simp only [hc0, hc1, hc2])
  have H0 := Lib.hid (show ∀ W, Calls Try.prog 38 #[.int .i64 a0, .int .i64 b0] W fun e w' => e = .returned (.int .i64 c0) ∧ w' = W from fun W => by rw [← hc0]; exact compare_any _ _ W)
  have H1 := Lib.hid (show ∀ W, Calls Try.prog 38 #[.int .i64 a1, .int .i64 b1] W fun e w' => e = .returned (.int .i64 c1) ∧ w' = W from fun W => by rw [← hc1]; exact compare_any _ _ W)
  have H2 := Lib.hid (show ∀ W, Calls Try.prog 38 #[.int .i64 a2, .int .i64 b2] W fun e w' => e = .returned (.int .i64 c2) ∧ w' = W from fun W => by rw [← hc2]; exact compare_any _ _ W)
  clear hc0 hc1 hc2 HC
  obtain ⟨w1, hw1⟩ : ∃ x, x = (w.alloc (.cells #[.int .i64 a0, .int .i64 a1, .int .i64 a2] 24)).alloc (.cells #[.int .i64 b0, .int .i64 b1, .int .i64 b2] 24) := ⟨_, rfl⟩
  have hch : Chg [] w w1 := by rw [hw1]; exact ((Chg.refl [] w).alloc _).alloc _
  have hba : w1.heap[w.heap.size]? = some (.cells #[.int .i64 a0, .int .i64 a1, .int .i64 a2] 24 (0, 0)) := by rw [hw1, heap_past _ _ _ (by simp)]; exact heap_at _ _ _ rfl
  have hbb : w1.heap[w.heap.size + 1]? = some (.cells #[.int .i64 b0, .int .i64 b1, .int .i64 b2] 24 (0, 0)) := by rw [hw1]; exact heap_at _ _ _ (by simp)
  obtain ⟨na, hna⟩ : ∃ n, n = w.heap.size := ⟨_, rfl⟩
  obtain ⟨nb, hnb⟩ : ∃ n, n = w.heap.size + 1 := ⟨_, rfl⟩
  rw [← hna] at hba
  rw [← hnb] at hbb
  have x0 : w1.cell? ⟨na, 0, none⟩ = some (.int .i64 a0) := cell_of_heap hba rfl
  have x1 : w1.cell? ⟨na, 1, none⟩ = some (.int .i64 a1) := cell_of_heap hba rfl
  have x2 : w1.cell? ⟨na, 2, none⟩ = some (.int .i64 a2) := cell_of_heap hba rfl
  have y0 : w1.cell? ⟨nb, 0, none⟩ = some (.int .i64 b0) := cell_of_heap hbb rfl
  have y1 : w1.cell? ⟨nb, 1, none⟩ = some (.int .i64 b1) := cell_of_heap hbb rfl
  have y2 : w1.cell? ⟨nb, 2, none⟩ = some (.int .i64 b2) := cell_of_heap hbb rfl
  have lx := lt_of_cell x0
  have ly := lt_of_cell y0
  have Hw1 := Lib.hid hw1
  have Hch := Lib.hid hch
  have Hn := Lib.hid (And.intro hna hnb)
  clear hw1 hch hba hbb hna hnb
  go_enter Try.func29, Try.ntmps29
  go_upto_region 1 with (fail)
  rw [← Hw1.out, ← Hn.out.2, ← Hn.out.1]
  go_region_held3 (fun w' => w'.cell? ⟨na, 0, none⟩ = some (.int .i64 a0) ∧ w'.cell? ⟨na, 1, none⟩ = some (.int .i64 a1) ∧ w'.cell? ⟨na, 2, none⟩ = some (.int .i64 a2) ∧ w'.cell? ⟨nb, 0, none⟩ = some (.int .i64 b0) ∧ w'.cell? ⟨nb, 1, none⟩ = some (.int .i64 b1) ∧ w'.cell? ⟨nb, 2, none⟩ = some (.int .i64 b2))
    (first | (go_keep; done) | assumption)
    (first
      | (go_at_call 38; (with_reducible refine (H0.out _).mono ?_); rintro e w' ⟨rfl, rfl⟩)
      | (go_at_call 38; (with_reducible refine (H1.out _).mono ?_); rintro e w' ⟨rfl, rfl⟩)
      | (go_at_call 38; (with_reducible refine (H2.out _).mono ?_); rintro e w' ⟨rfl, rfl⟩)
      | (go_at_call 37; refine (or_h c0 c1 c2 w1.heap.size _ (T := 3) (heap_atD w1 _ _ rfl)).mono ?_; rintro e w' ⟨rfl, rfl⟩))
  all_goals
    try simp only [List.getElem_toArray, List.getElem_cons_zero, List.getElem_cons_succ]
    go_wp2_with fail
    go_ret
    exact ⟨by rw [Hc.out]; rfl, (Hch.out.alloc _).drew⟩
end Go.Proofs.Ytenjjiilcdgimaa
