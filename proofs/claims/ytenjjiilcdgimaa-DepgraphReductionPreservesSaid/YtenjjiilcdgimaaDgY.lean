/- depgraph: TransitiveReduction. -/
import Derived.Test.YtenjjiilcdgimaaDgX
namespace Go.Proofs.Ytenjjiilcdgimaa
open Go.RowKit Go.ChangeMaps Go.MapKept Go.Shelf
set_option linter.unusedVariables false
set_option linter.unusedSimpArgs false
set_option maxHeartbeats 1000000 in
theorem red_idx (p : Nat → Prop) (w : World) (v : Value) (ks : List I3) (n7 n12 : Nat) (f : I3 → Bool) (hk : I3s p w v ks)
    (hf : ∀ W, Chg [] w W → ∀ k0 k1 k2, (k0, k1, k2) ∈ ks → Calls Try.prog 23 #[.agg #[.int .i64 k0, .int .i64 k1, .int .i64 k2], .pointer (some ⟨n7, 0, none⟩), .pointer (some ⟨n12, 0, none⟩)] W fun e w' => e = .returned (.bool (f (k0, k1, k2))) ∧ Chg [] W w') :
    Calls Try.prog 19 #[v, .func (.func 23) #[] #[.pointer (some ⟨n7, 0, none⟩), .pointer (some ⟨n12, 0, none⟩)]] w fun e w' => e = .returned (.int .i64 (fidx f ks)) ∧ Chg [] w w' := by
  obtain ⟨a, cap, rfl, hm, hc⟩ := hk.shape
  have Hk := Lib.hid hk
  have Hf := Lib.hid hf
  clear hk hf
  unfold maxLen at hm
  go_enter Try.func19, Try.ntmps19
  go_wp2_with fail
  go_loopw [8] (fun i wr => ∃ n : Nat, n ≤ ks.length ∧ i = .int .i64 (n : Nat) ∧ Hid (∀ x ∈ ks.take n, f x = false) ∧ Hid (Chg [] w wr)) (fun i _ => ks.length - (intOf i).toNat)
  case atStart => exact ⟨0, by omega, rfl, Lib.hid (by simp), Lib.hid (Chg.refl _ _)⟩
  case round =>
    obtain ⟨n, hn, rfl, Hnot, Hcw⟩ := hrel
    by_cases hlt : n < ks.length
    · obtain ⟨g, off, rfl, _, q0, q1, q2⟩ := SlR.at (Hk.out.kept (Hcw.out.p (S := fun _ => False)) (fun _ _ h => h)) n hlt (0, 0, 0)
      obtain ⟨x, hx⟩ : ∃ x, ks.getD n (0, 0, 0) = x := ⟨_, rfl⟩
      have hxm : x ∈ ks := by rw [← hx]; exact getD_memb hlt _
      rw [hx] at q0 q1 q2
      have Hx := Lib.hid hx
      obtain ⟨x1, x2, x3⟩ := x
      simp only at q0 q1 q2
      have lg := lt_of_cell q0
      have hn1 : (n : Int) < ks.length := by omega
      have hn0 : (0 : Int) ≤ (n : Int) := by omega
      have Hcall := Lib.hid (Hf.out wr Hcw.out x1 x2 x3 hxm)
      obtain ⟨b, hb⟩ : ∃ b, f (x1, x2, x3) = b := ⟨_, rfl⟩
      rw [hb] at Hcall
      have Hb := Lib.hid hb
      clear hx hxm hb
      go_wp2_with fail
      refine Hcall.out.mono ?_
      rintro e w1 ⟨rfl, hc1⟩
      have H1 := Lib.hid (Hcw.out.trans hc1)
      clear hc1 q0 q1 q2 lg
      cases b
      · go_wp2_with fail
        refine ⟨⟨n + 1, by omega, by go_num, Lib.hid (fun y hy => ?_), H1⟩, by simp [intOf]; omega⟩
        rw [fold_take_snoc ks n hlt (0, 0, 0), List.mem_append, List.mem_singleton] at hy
        rcases hy with hy | rfl
        · exact Hnot.out y hy
        · rw [Hx.out]; exact Hb.out
      · have hfd := fidx_some f ks n hlt (0, 0, 0) Hnot.out (by rw [Hx.out]; exact Hb.out)
        have Hfd := Lib.hid hfd
        clear hfd
        go_wp2_with fail
        go_ret
        exact ⟨by rw [Hfd.out]; rfl, H1.out⟩
    · obtain rfl : n = ks.length := by omega
      have hfd := fidx_none f ks (by have := Hnot.out; rw [List.take_length] at this; exact this)
      have Hfd := Lib.hid hfd
      clear hfd
      go_wp2_with fail
      go_ret
      exact ⟨by rw [Hfd.out]; rfl, Hcw.out⟩
theorem red_cf (p : Nat → Prop) (w : World) (v : Value) (ks : List I3) (n7 n12 : Nat) (f : I3 → Bool) (hk : I3s p w v ks)
    (hf : ∀ W, Chg [] w W → ∀ k0 k1 k2, (k0, k1, k2) ∈ ks → Calls Try.prog 23 #[.agg #[.int .i64 k0, .int .i64 k1, .int .i64 k2], .pointer (some ⟨n7, 0, none⟩), .pointer (some ⟨n12, 0, none⟩)] W fun e w' => e = .returned (.bool (f (k0, k1, k2))) ∧ Chg [] W w') :
    Calls Try.prog 22 #[v, .func (.func 23) #[] #[.pointer (some ⟨n7, 0, none⟩), .pointer (some ⟨n12, 0, none⟩)]] w fun e w' => e = .returned (.bool (ks.any f)) ∧ Chg [] w w' := by
  have Hi := Lib.hid (red_idx p w v ks n7 n12 f hk hf)
  have Hd := Lib.hid (fidx_any f ks)
  clear hk hf
  go_enter Try.func22, Try.ntmps22
  go_wp2_with fail
  refine Hi.out.mono ?_
  rintro e w1 ⟨rfl, hc1⟩
  have H1 := Lib.hid hc1
  clear hc1
  generalize fidx f ks = z at Hd
  by_cases hz : 0 ≤ z
  · have hzd : decide (0 ≤ z) = true := by simpa using hz
    have Hany := Lib.hid (show ks.any f = true by rw [← Hd.out]; exact hzd)
    go_wp2_with fail
    go_ret
    exact ⟨by rw [Hany.out]; rfl, H1.out⟩
  · have hzd : decide (0 ≤ z) = false := by simpa using hz
    have Hany := Lib.hid (show ks.any f = false by rw [← Hd.out]; exact hzd)
    go_wp2_with fail
    go_ret
    exact ⟨by rw [Hany.out]; rfl, H1.out⟩
theorem i3s_lt {p : Nat → Prop} {w : World} {v : Value} {l : List I3} (h : I3s p w v l) : I3s (fun g => p g ∧ g < w.heap.size) w v l := by
  obtain ⟨a, cap, rfl, h1, h2, h3⟩ := h
  refine ⟨a, cap, rfl, h1, h2, fun h0 => ?_⟩
  obtain ⟨g, off, rfl, hp, hc⟩ := h3 h0
  exact ⟨g, off, rfl, ⟨hp, lt_of_cell (hc 0 h0).1⟩, hc⟩
/-- what lies below the keys -/
def belL (D : GL) (k : I3) : List I3 := ((aget D k).map (·.2)).getD []
set_option maxRecDepth 100000 in
theorem imp1_any (w : World) (n7 n12 bl : Nat) (D : GL) (p : Nat → Prop) (v : Value) (l : List I3) (k0 k1 k2 f0 f1 f2 t0 t1 t2 : Int) (h7 : w.heap[n7]? = some (.cells #[.map (some bl)] 50 (0, 0)))
    (h12 : w.heap[n12]? = some (.cells #[.int .i64 f0, .int .i64 f1, .int .i64 f2, .int .i64 t0, .int .i64 t1, .int .i64 t2] 37 (0, 0))) (hm : MapAt Try.prog 24 i3v w bl (glE D)) (hk : QKok (k0, k1, k2)) (hD : aget D (k0, k1, k2) = some (v, l)) (hi : I3s p w v l) :
    Calls Try.prog 23 #[.agg #[.int .i64 k0, .int .i64 k1, .int .i64 k2], .pointer (some ⟨n7, 0, none⟩), .pointer (some ⟨n12, 0, none⟩)] w fun e w' => e = .returned (.bool (decide ((t0, t1, t2) ∈ belL D (k0, k1, k2)))) ∧ Chg [] w w' := by
  rw [show belL D (k0, k1, k2) = l by unfold belL; rw [hD]; rfl]
  obtain ⟨w1, hw1⟩ : ∃ q, q = w.alloc (.cells #[.int .i64 k0, .int .i64 k1, .int .i64 k2] 24) := ⟨_, rfl⟩
  obtain ⟨nb, hnb⟩ : ∃ n, n = w.heap.size := ⟨_, rfl⟩
  have hc1 : Chg [] w w1 := by rw [hw1]; exact (Chg.refl [] w).alloc _
  have hb1 : w1.heap[nb]? = some (kObj (k0, k1, k2)) := by rw [hw1, hnb]; exact heap_at _ _ _ rfl
  have H := Lib.hid (And.intro hc1 (And.intro hb1 (And.intro ((hc1.block _ (lt_of_obj h7) (by simp)).trans h7) (And.intro ((hc1.block _ (lt_of_obj h12) (by simp)).trans h12) (And.intro (hm.kept hc1 (by simp)) (i3s_same hi hc1))))))
  have HW := Lib.hid (And.intro hw1 hnb)
  have Hk := Lib.hid (And.intro hk hD)
  clear hc1 hb1 h7 h12 hm hi hw1 hnb hk hD
  go_enter Try.func23, Try.ntmps23
  go_upto_region 1 with (fail)
  rw [← HW.out.1, ← HW.out.2]
  refine wp_region_readsQ 5 (by kernel_rfl) (by kernel_rfl) ?_
  intro wd hwd
  simp only [List.take_succ_cons, List.take_zero, List.drop_succ_cons, List.drop_zero]
  have hcd : Chg [] w1 wd := by rw [hwd]; exact (Chg.refl [] w1).drew
  obtain ⟨hc1, hb1, h7, h12, hm, hi⟩ := H.out
  obtain ⟨b0, b1, b2⟩ := kCellsAt ((hcd.block _ (lt_of_obj hb1) (by simp)).trans hb1)
  have p7 : wd.cell? ⟨n7, 0, none⟩ = some (.map (some bl)) := cell_of_heap ((hcd.block _ (lt_of_obj h7) (by simp)).trans h7) rfl
  obtain ⟨x0, x1, x2, x3, x4, x5⟩ := edCc ((hcd.block _ (lt_of_obj h12) (by simp)).trans h12)
  have lb := lt_of_cell b0
  have l7 := lt_of_cell p7
  have lx := lt_of_cell x0
  have hlk := (hm.kept hcd (by simp)).lookup qkeyed i3v_inj Try.underlying50 (qkOk Hk.out.1) (zeroKs wd) false
  rw [glE_get, Hk.out.2] at hlk
  simp only [Bool.false_eq_true, if_false, i3v, Option.map_some, Option.getD_some] at hlk
  have hcn := keyContains_any _ wd v l (t0, t1, t2) (i3s_lt (i3s_same hi hcd)) (fun g hg => hg.2)
  simp only [i3v] at hcn
  have Hcn := Lib.hid hcn
  have Hc := Lib.hid (hc1.trans hcd)
  obtain ⟨av, cv, rfl, _, _⟩ := hi.shape
  clear hwd hcd hc1 hb1 h7 h12 hm hi hcn H Hk HW
  repeat go_big_quiet_step (fail)
  refine wpQuiet_nil ?_
  go_wp2_with fail
  refine Hcn.out.mono ?_
  rintro e w3 ⟨rfl, hc3⟩
  have H3 := Lib.hid (Hc.out.trans hc3)
  clear hc3
  go_wp2_with fail
  go_ret
  exact ⟨rfl, H3.out⟩
end Go.Proofs.Ytenjjiilcdgimaa
