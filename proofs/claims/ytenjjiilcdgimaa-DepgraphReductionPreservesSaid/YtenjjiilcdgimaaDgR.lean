/- slices.IndexFunc, slices.ContainsFunc at keys over depgraph's closures; ready. -/
import Derived.Test.YtenjjiilcdgimaaDgM
import Derived.Test.YtenjjiilcdgimaaFidx
namespace Go.Proofs.Ytenjjiilcdgimaa
open Go.RowKit Go.ChangeMaps Go.MapKept Go.Shelf
set_option linter.unusedVariables false
set_option linter.unusedSimpArgs false
set_option maxHeartbeats 1000000 in
theorem rdy_idx (p : Nat → Prop) (w : World) (v : Value) (ks : List I3) (cb : Nat) (f : I3 → Bool) (hk : I3s p w v ks)
    (hf : ∀ W, Chg [] w W → ∀ k0 k1 k2, (k0, k1, k2) ∈ ks → Calls Try.prog 30 #[.agg #[.int .i64 k0, .int .i64 k1, .int .i64 k2], .pointer (some ⟨cb, 0, none⟩)] W fun e w' => e = .returned (.bool (f (k0, k1, k2))) ∧ Chg [] W w') :
    Calls Try.prog 19 #[v, .func (.func 30) #[] #[.pointer (some ⟨cb, 0, none⟩)]] w fun e w' => e = .returned (.int .i64 (fidx f ks)) ∧ Chg [] w w' := by
  obtain ⟨a, cap, rfl, hm, hc⟩ := hk.shape
  have Hk := Lib.hid hk
  have Hf := Lib.hid hf
  clear hk hf
  unfold maxLen at hm
  go_enter Try.func19, Try.ntmps19
  go_wp2_with fail
  go_loopw [8] (fun i wr => ∃ n : Nat, n ≤ ks.length ∧ i = .int .i64 (n : Nat) ∧ Hid (∀ x ∈ ks.take n, f x = false) ∧ Hid (Chg [] w wr)) (fun i _ => ks.length - (intOf i).toNat)
  case atStart => exact ⟨0, by omega, rfl, Lib.hid (by simp), Lib.hid (Chg.refl _ _)⟩
  case round =>
    obtain ⟨n, hn, rfl, Hnot, Hcw⟩ := hrel
    by_cases hlt : n < ks.length
    · obtain ⟨g, off, rfl, _, q0, q1, q2⟩ := SlR.at (Hk.out.kept (Hcw.out.p (S := fun _ => False)) (fun _ _ h => h)) n hlt (0, 0, 0)
      obtain ⟨x, hx⟩ : ∃ x, ks.getD n (0, 0, 0) = x := ⟨_, rfl⟩
      have hxm : x ∈ ks := by rw [← hx]; exact getD_memb hlt _
      rw [hx] at q0 q1 q2
      have Hx := Lib.hid hx
      obtain ⟨x1, x2, x3⟩ := x
      simp only at q0 q1 q2
      have lg := lt_of_cell q0
      have hn1 : (n : Int) < ks.length := by omega
      have hn0 : (0 : Int) ≤ (n : Int) := by omega
      have Hcall := Lib.hid (Hf.out wr Hcw.out x1 x2 x3 hxm)
      obtain ⟨b, hb⟩ : ∃ b, f (x1, x2, x3) = b := ⟨_, rfl⟩
      rw [hb] at Hcall
      have Hb := Lib.hid hb
      clear hx hxm hb
      go_wp2_with fail
      refine Hcall.out.mono ?_
      rintro e w1 ⟨rfl, hc1⟩
      have H1 := Lib.hid (Hcw.out.trans hc1)
      clear hc1 q0 q1 q2 lg
      cases b
      · go_wp2_with fail
        refine ⟨⟨n + 1, by omega, by go_num, Lib.hid (fun y hy => ?_), H1⟩, by simp [intOf]; omega⟩
        rw [fold_take_snoc ks n hlt (0, 0, 0), List.mem_append, List.mem_singleton] at hy
        rcases hy with hy | rfl
        · exact Hnot.out y hy
        · rw [Hx.out]; exact Hb.out
      · have hfd := fidx_some f ks n hlt (0, 0, 0) Hnot.out (by rw [Hx.out]; exact Hb.out)
        have Hfd := Lib.hid hfd
        clear hfd
        go_wp2_with fail
        go_ret
        exact ⟨by rw [Hfd.out]; rfl, H1.out⟩
    · obtain rfl : n = ks.length := by omega
      have hfd := fidx_none f ks (by have := Hnot.out; rw [List.take_length] at this; exact this)
      have Hfd := Lib.hid hfd
      clear hfd
      go_wp2_with fail
      go_ret
      exact ⟨by rw [Hfd.out]; rfl, Hcw.out⟩
theorem rdy_cf (p : Nat → Prop) (w : World) (v : Value) (ks : List I3) (cb : Nat) (f : I3 → Bool) (hk : I3s p w v ks)
    (hf : ∀ W, Chg [] w W → ∀ k0 k1 k2, (k0, k1, k2) ∈ ks → Calls Try.prog 30 #[.agg #[.int .i64 k0, .int .i64 k1, .int .i64 k2], .pointer (some ⟨cb, 0, none⟩)] W fun e w' => e = .returned (.bool (f (k0, k1, k2))) ∧ Chg [] W w') :
    Calls Try.prog 22 #[v, .func (.func 30) #[] #[.pointer (some ⟨cb, 0, none⟩)]] w fun e w' => e = .returned (.bool (ks.any f)) ∧ Chg [] w w' := by
  have Hi := Lib.hid (rdy_idx p w v ks cb f hk hf)
  have Hd := Lib.hid (fidx_any f ks)
  clear hk hf
  go_enter Try.func22, Try.ntmps22
  go_wp2_with fail
  refine Hi.out.mono ?_
  rintro e w1 ⟨rfl, hc1⟩
  have H1 := Lib.hid hc1
  clear hc1
  generalize fidx f ks = z at Hd
  by_cases hz : 0 ≤ z
  · have hzd : decide (0 ≤ z) = true := by simpa using hz
    have Hany := Lib.hid (show ks.any f = true by rw [← Hd.out]; exact hzd)
    go_wp2_with fail
    go_ret
    exact ⟨by rw [Hany.out]; rfl, H1.out⟩
  · have hzd : decide (0 ≤ z) = false := by simpa using hz
    have Hany := Lib.hid (show ks.any f = false by rw [← Hd.out]; exact hzd)
    go_wp2_with fail
    go_ret
    exact ⟨by rw [Hany.out]; rfl, H1.out⟩
/-- not placed yet -/
def unpl (O : List I3) (k : I3) : Bool := decide (k ∉ O)
theorem unpl_any (w : World) (cb bs : Nat) (O : List I3) (k0 k1 k2 : Int) (hb : w.heap[cb]? = some (.cells #[.map (some bs)] 49 (0, 0))) (hm : MapAt Try.prog 24 i3v w bs (seenE O)) (hk : QKok (k0, k1, k2)) :
    Calls Try.prog 30 #[.agg #[.int .i64 k0, .int .i64 k1, .int .i64 k2], .pointer (some ⟨cb, 0, none⟩)] w fun e w' => e = .returned (.bool (unpl O (k0, k1, k2))) ∧ Chg [] w w' := by
  obtain ⟨w1, hw1⟩ : ∃ q, q = w.alloc (.cells #[.int .i64 k0, .int .i64 k1, .int .i64 k2] 24) := ⟨_, rfl⟩
  have hc1 : Chg [] w w1 := by rw [hw1]; exact (Chg.refl [] w).alloc _
  have p0 : w1.cell? ⟨cb, 0, none⟩ = some (.map (some bs)) := cell_of_heap ((hc1.block _ (lt_of_obj hb) (by simp)).trans hb) rfl
  have hlk := (hm.kept hc1 (by simp)).lookup qkeyed i3v_inj Try.underlying49 (qkOk hk) (zeroInt _) false
  simp only [seen_get, Bool.false_eq_true, if_false, i3v] at hlk
  have b0 : w1.cell? ⟨w.heap.size, 0, none⟩ = some (.int .i64 k0) := by rw [hw1]; exact cell_of_heap (heap_at _ _ _ rfl) rfl
  have b1 : w1.cell? ⟨w.heap.size, 1, none⟩ = some (.int .i64 k1) := by rw [hw1]; exact cell_of_heap (heap_at _ _ _ rfl) rfl
  have b2 : w1.cell? ⟨w.heap.size, 2, none⟩ = some (.int .i64 k2) := by rw [hw1]; exact cell_of_heap (heap_at _ _ _ rfl) rfl
  have Hw1 := Lib.hid hw1
  have Hc1 := Lib.hid hc1
  clear hb hm hw1 hc1
  by_cases hin : (k0, k1, k2) ∈ O
  · rw [if_pos hin] at hlk
    simp only [Option.getD_some] at hlk
    have Hin := Lib.hid hin
    clear hin
    go_enter Try.func30, Try.ntmps30
    go_upto_region 1 with (fail)
    rw [← Hw1.out]
    go_wp2_with fail
    go_ret
    exact ⟨by unfold unpl; rw [decide_eq_false (fun h => h Hin.out)]; rfl, Hc1.out⟩
  · rw [if_neg hin] at hlk
    simp only [Option.getD_none] at hlk
    have Hin := Lib.hid hin
    clear hin
    go_enter Try.func30, Try.ntmps30
    go_upto_region 1 with (fail)
    rw [← Hw1.out]
    go_wp2_with fail
    go_ret
    exact ⟨by unfold unpl; rw [decide_eq_true Hin.out]; rfl, Hc1.out⟩
end Go.Proofs.Ytenjjiilcdgimaa
