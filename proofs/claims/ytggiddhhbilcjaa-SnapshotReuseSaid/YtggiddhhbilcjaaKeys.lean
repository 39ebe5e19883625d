/- Lists of keys: slices.Contains, rows of a call's own. -/
import Derived.Test.YtggiddhhbilcjaaKeyEq
import Derived.Test.YtggiddhhbilcjaaFidx
namespace Go.Proofs.Ytggiddhhbilcjaa
open Go.RowKit
set_option linter.unusedVariables false
def isKey (k x : I3) : Bool := decide (k = x)
theorem i3_eq_iff (k x : I3) : (k.1 = x.1 ∧ k.2.1 = x.2.1 ∧ k.2.2 = x.2.2) ↔ k = x := by
  obtain ⟨a, b, c⟩ := k
  obtain ⟨d, e, f⟩ := x
  simp [Prod.mk.injEq]
set_option maxHeartbeats 1000000 in
theorem keyIndex_any (p : Nat → Prop) (w : World) (v : Value) (ks : List I3) (k : I3) (hk : I3s p w v ks) (hp : ∀ g, p g → g < w.heap.size) :
    Calls Try.prog 91 #[v, i3v k] w fun e w' => e = .returned (.int .i64 (fidx (isKey k) ks)) ∧ Chg [] w w' := by
  obtain ⟨a, cap, rfl, hm, hc⟩ := hk.shape
  have Hk := Lib.hid hk
  have Hp := Lib.hid hp
  clear hk hp
  unfold maxLen at hm
  obtain ⟨k1, k2, k3⟩ := k
  unfold i3v
  have hgd := key_guard
  go_enter Try.func91, Try.ntmps91
  go_wp2
  go_loopw [8] (fun i wr => ∃ n : Nat, n ≤ ks.length ∧ i = .int .i64 (n : Nat) ∧ (∀ x ∈ ks.take n, isKey (k1, k2, k3) x = false) ∧ Chg [] (w.alloc (.cells #[.int .i64 k1, .int .i64 k2, .int .i64 k3] 43)) wr) (fun i _ => ks.length - (intOf i).toNat)
  case atStart => exact ⟨0, by omega, rfl, by simp, Chg.refl _ _⟩
  case round =>
    obtain ⟨n, hn, rfl, hnot, hcw⟩ := hrel
    have Hnot := Lib.hid hnot
    have Hcw := Lib.hid hcw
    have Hch := Lib.hid ((((Chg.refl [] w).alloc _).trans hcw) : Chg [] w wr)
    have m0 : wr.cell? ⟨w.heap.size, 0, none⟩ = some (.int .i64 k1) := (hcw.cell (p := ⟨w.heap.size, 0, none⟩) (by simp) (by simp)).trans (cell_of_heap (heap_at _ _ _ rfl) rfl)
    have m1 : wr.cell? ⟨w.heap.size, 1, none⟩ = some (.int .i64 k2) := (hcw.cell (p := ⟨w.heap.size, 1, none⟩) (by simp) (by simp)).trans (cell_of_heap (heap_at _ _ _ rfl) rfl)
    have m2 : wr.cell? ⟨w.heap.size, 2, none⟩ = some (.int .i64 k3) := (hcw.cell (p := ⟨w.heap.size, 2, none⟩) (by simp) (by simp)).trans (cell_of_heap (heap_at _ _ _ rfl) rfl)
    have lm := lt_of_cell m0
    clear hnot hcw
    by_cases hlt : n < ks.length
    · obtain ⟨g, off, rfl, _, q0, q1, q2⟩ := SlR.at (Hk.out.kept (Hch.out.p (S := fun _ => False)) (fun _ _ h => h)) n hlt (0, 0, 0)
      obtain ⟨x, hx⟩ : ∃ x, ks.getD n (0, 0, 0) = x := ⟨_, rfl⟩
      rw [hx] at q0 q1 q2
      have Hx := Lib.hid hx
      obtain ⟨x1, x2, x3⟩ := x
      simp only at q0 q1 q2
      have lg := lt_of_cell q0
      have hn1 : (n : Int) < ks.length := by omega
      have hn0 : (0 : Int) ≤ (n : Int) := by omega
      have hq := key_eql k1 k2 k3 x1 x2 x3
      clear hx
      by_cases he : k1 = x1 ∧ k2 = x2 ∧ k3 = x3
      · rw [decide_eq_true he] at hq
        have hf := fidx_some (isKey (k1, k2, k3)) ks n hlt (0, 0, 0) Hnot.out (by rw [Hx.out]; exact decide_eq_true ((i3_eq_iff (k1, k2, k3) (x1, x2, x3)).1 he))
        have Hf := Lib.hid hf
        clear hf he
        go_wp2
        go_region
        all_goals
          go_wp2
          go_ret
          exact ⟨by rw [Hf.out]; rfl, Hch.out.drew⟩
      · rw [decide_eq_false he] at hq
        have Hne := Lib.hid (show isKey (k1, k2, k3) (x1, x2, x3) = false from decide_eq_false (fun e => he ((i3_eq_iff (k1, k2, k3) (x1, x2, x3)).2 e)))
        clear he
        go_wp2
        go_region
        all_goals
          go_wp2
          refine ⟨⟨n + 1, by omega, by go_num, fun y hy => ?_, Hcw.out.drew⟩, by simp [intOf]; omega⟩
          rw [fold_take_snoc ks n hlt (0, 0, 0), List.mem_append, List.mem_singleton] at hy
          rcases hy with hy | rfl
          · exact Hnot.out y hy
          · rw [Hx.out]; exact Hne.out
    · obtain rfl : n = ks.length := by omega
      have hf := fidx_none (isKey (k1, k2, k3)) ks (by have := Hnot.out; rw [List.take_length] at this; exact this)
      have Hf := Lib.hid hf
      clear hf
      go_wp2
      go_ret
      exact ⟨by rw [Hf.out]; rfl, Hch.out⟩
theorem keyContains_any (p : Nat → Prop) (w : World) (v : Value) (ks : List I3) (k : I3) (hk : I3s p w v ks) (hp : ∀ g, p g → g < w.heap.size) :
    Calls Try.prog 66 #[v, i3v k] w fun e w' => e = .returned (.bool (decide (k ∈ ks))) ∧ Chg [] w w' := by
  have hd := fidx_any (isKey k) ks
  have ha : ks.any (isKey k) = decide (k ∈ ks) := by
    rw [Bool.eq_iff_iff]
    simp [isKey]
  rw [ha] at hd
  have Hd := Lib.hid hd
  have hc0 : Chg [] w (w.alloc (.cells #[.int .i64 k.1, .int .i64 k.2.1, .int .i64 k.2.2] 43)) := (Chg.refl [] w).alloc _
  have hix := keyIndex_any p _ v ks k (hk.kept (hc0.p (S := fun _ => False)) (fun _ _ h => h)) (fun g hg => Nat.lt_of_lt_of_le (hp g hg) hc0.size)
  have Hix := Lib.hid hix
  have Hc0 := Lib.hid hc0
  clear hd ha hk hp hix hc0
  obtain ⟨k1, k2, k3⟩ := k
  unfold i3v
  go_enter Try.func66, Try.ntmps66
  go_wp2_with fail
  refine (Hix.out).mono ?_
  rintro e w1 ⟨rfl, c1⟩
  generalize fidx (isKey (k1, k2, k3)) ks = z at Hd
  by_cases hz : 0 ≤ z
  · have hzd : decide (0 ≤ z) = true := by simpa using hz
    have Hany := Lib.hid (show decide ((k1, k2, k3) ∈ ks) = true by rw [← Hd.out]; exact hzd)
    go_wp2
    go_ret
    exact ⟨by rw [Hany.out]; rfl, Hc0.out.trans c1⟩
  · have hzd : decide (0 ≤ z) = false := by simpa using hz
    have Hany := Lib.hid (show decide ((k1, k2, k3) ∈ ks) = false by rw [← Hd.out]; exact hzd)
    go_wp2
    go_ret
    exact ⟨by rw [Hany.out]; rfl, Hc0.out.trans c1⟩
/-! ### rows of keys -/
def flat3 (ks : List I3) : List Value := ks.flatMap fun k => [.int .i64 k.1, .int .i64 k.2.1, .int .i64 k.2.2]
theorem flat3_len (ks : List I3) : (flat3 ks).length = ks.length * 3 := by
  induction ks with
  | nil => rfl
  | cons k r ih =>
    show ([_, _, _] ++ flat3 r).length = _
    rw [List.length_append, ih]
    simp only [List.length_cons, List.length_nil]
    omega
theorem flat3_get (ks : List I3) : ∀ j (h : j < ks.length), (flat3 ks)[j * 3]? = some (.int .i64 ks[j].1) ∧ (flat3 ks)[j * 3 + 1]? = some (.int .i64 ks[j].2.1) ∧ (flat3 ks)[j * 3 + 2]? = some (.int .i64 ks[j].2.2) := by
  induction ks with
  | nil => intro j h; simp at h
  | cons k r ih =>
    intro j h
    have e : flat3 (k :: r) = .int .i64 k.1 :: .int .i64 k.2.1 :: .int .i64 k.2.2 :: flat3 r := rfl
    rw [e]
    cases j with
    | zero => exact ⟨rfl, rfl, rfl⟩
    | succ j =>
      have h' := ih j (by simpa using h)
      have e1 : (j + 1) * 3 = j * 3 + 1 + 1 + 1 := by omega
      rw [e1]
      simp only [List.getElem?_cons_succ, List.getElem_cons_succ]
      exact h'
theorem flat3_append (ks : List I3) (k : I3) : flat3 (ks ++ [k]) = flat3 ks ++ [.int .i64 k.1, .int .i64 k.2.1, .int .i64 k.2.2] := by simp [flat3]
theorem i3s_of_own {w : World} {base : Nat} {v : Value} {ks : List I3} (h : w.ownsRow base 43 3 v ks.length (flat3 ks)) : I3s (fun g => v.ownBlock = some g) w v ks := by
  have h' := h
  rcases h.2 with ⟨rfl, h0⟩ | ⟨g, cap, cur, rfl, h1, h2, h3, h4, h5, h6⟩
  · have : ks = [] := List.eq_nil_of_length_eq_zero h0
    subst this
    exact SlR.nil _ _ _ _
  · refine ⟨_, cap, rfl, h3, h4, fun _ => ⟨g, 0, rfl, rfl, fun j hj => ?_⟩⟩
    obtain ⟨f0, f1, f2⟩ := flat3_get ks j hj
    have c0 := h'.cells (g := g) rfl _ _ f0
    have c1 := h'.cells (g := g) rfl _ _ f1
    have c2 := h'.cells (g := g) rfl _ _ f2
    rw [Addr.add_lit] at c0 c1 c2
    exact ⟨c0, c1, c2⟩
end Go.Proofs.Ytggiddhhbilcjaa
