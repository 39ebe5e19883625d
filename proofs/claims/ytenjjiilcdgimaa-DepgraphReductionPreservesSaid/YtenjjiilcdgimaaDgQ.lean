/- DepgraphConverse. -/
import Derived.Test.YtenjjiilcdgimaaDgP
namespace Go.Proofs.Ytenjjiilcdgimaa
open Go.RowKit Go.ChangeMaps Go.MapKept Go.Shelf
set_option linter.unusedVariables false
set_option linter.unusedSimpArgs false
theorem EdP.take {p : Nat → Prop} {w : World} {a : Option Addr} {n cap : Nat} {E : List Ed} (h : EdP p w (.slice a n cap) E) (k : Nat) (hk : k ≤ E.length) : EdP p w (.slice a k cap) (E.take k) := by
  obtain ⟨a', cap', hv, h1, h2, h3⟩ := h
  simp only [Value.slice.injEq] at hv
  obtain ⟨rfl, rfl, rfl⟩ := hv
  have hl : (E.take k).length = k := by simp; omega
  refine ⟨a, cap, by rw [hl], by omega, h2, fun h0 => ?_⟩
  obtain ⟨g, off, rfl, hp, hc⟩ := h3 (by omega)
  refine ⟨g, off, rfl, hp, fun j hj => ?_⟩
  rw [List.getElem_take]
  exact hc j (by omega)
theorem EdOk.take {E : List Ed} (h : EdOk E) (k : Nat) : EdOk (E.take k) := fun e he => h e (List.mem_of_mem_take he)
def TrueC (w : World) (e : Ending) (w' : World) : Prop := e = .returned (.bool true) ∧ Chg [] w w'
theorem rev_mem_iff {E : List Ed} {x y : I3} {l m : List I3} (h : IsDeps E x l) (k : IsDeps (rev E) y m) : decide (y ∈ l) = decide (x ∈ m) := by
  rw [Bool.eq_iff_iff, decide_eq_true_iff, decide_eq_true_iff, h.2, k.2, reach_rev_iff]
set_option maxRecDepth 100000 in
set_option maxHeartbeats 8000000 in
theorem converse_any (w : World) (p : Nat → Prop) (v : Value) (E0 : List Ed) (x y : I3) (h0 : EdP p w v E0) (hok0 : EdOk E0) (hx : QKok x) (hy : QKok y) :
    Calls Try.prog 3 #[v, i3v x, i3v y] w fun e w' => e = .returned (.bool true) ∧ Chg [] w w' := by
  obtain ⟨a, cap, rfl, hml, hcp⟩ := SlR.shape h0
  obtain ⟨n, hn⟩ : ∃ n, n = min E0.length 60 := ⟨_, rfl⟩
  have hmi : min (E0.length : Int) 60 = (n : Int) := by omega
  have hnl : n ≤ E0.length := by omega
  obtain ⟨E, hE⟩ : ∃ E, E = E0.take n := ⟨_, rfl⟩
  have hl : E.length ≤ 100 := by rw [hE, List.length_take]; omega
  have hel : E.length = n := by rw [hE, List.length_take]; omega
  have hed : EdP p w (.slice a n cap) E := by rw [hE]; exact h0.take n hnl
  have hok : EdOk E := by rw [hE]; exact hok0.take n
  obtain ⟨x0, x1, x2⟩ := x
  obtain ⟨y0, y1, y2⟩ := y
  obtain ⟨w1, hw1⟩ : ∃ q, q = (w.alloc (kObj (x0, x1, x2))).alloc (kObj (y0, y1, y2)) := ⟨_, rfl⟩
  obtain ⟨nx, hnx⟩ : ∃ n, n = w.heap.size := ⟨_, rfl⟩
  obtain ⟨ny, hny⟩ : ∃ n, n = w.heap.size + 1 := ⟨_, rfl⟩
  have hc1 : Chg [] w w1 := by rw [hw1]; exact ((Chg.refl [] w).alloc _).alloc _
  have hbx : w1.heap[nx]? = some (kObj (x0, x1, x2)) := by rw [hw1, hnx]; exact (heap_past _ _ _ (by simp)).trans (heap_at _ _ _ rfl)
  have hby : w1.heap[ny]? = some (kObj (y0, y1, y2)) := by rw [hw1, hny]; exact heap_at _ _ _ (by simp)
  have hnc : n ≤ cap := by omega
  unfold kObj at hw1
  have HW := Lib.hid (And.intro hw1 (And.intro hnx hny))
  have Hb := Lib.hid (And.intro hbx hby)
  have Hc1 := Lib.hid hc1
  have He := Lib.hid (And.intro (hed.same hc1) (And.intro hl (And.intro hok (And.intro hx hy))))
  unfold maxLen at hml
  clear h0 hok0 hn hE hl hel hed hok hx hy hw1 hnx hny hc1 hbx hby
  unfold i3v
  simp only
  go_enter Try.func3, Try.ntmps3
  go_wp2_with fail
  rw [← HW.out.1, ← HW.out.2.2, ← HW.out.2.1]
  refine (graphExample_any w1).mono ?_
  rintro e w2 ⟨rfl, hc2⟩
  obtain ⟨a0, a1, a2⟩ := kCellsAt ((hc2.block _ (lt_of_obj Hb.out.1) (by simp)).trans Hb.out.1)
  have lx := lt_of_cell a0
  have Hc2 := Lib.hid hc2
  clear hc2
  have HD := Lib.hid (show ∀ W, Chg [] w2 W → ∀ k0 k1 k2, QKok (k0, k1, k2) → Calls Try.prog 7 #[.slice a n cap, .agg #[.int .i64 k0, .int .i64 k1, .int .i64 k2]] W (RchPost W E (k0, k1, k2)) from
    fun W hW k0 k1 k2 hk => deps_any p W _ E (k0, k1, k2) (He.out.1.same (Hc2.out.trans hW)) He.out.2.1 He.out.2.2.1 hk)
  have HT := Lib.hid (show ∀ W, Chg [] w2 W → Calls Try.prog 9 #[.slice a n cap, .agg #[.int .i64 y0, .int .i64 y1, .int .i64 y2]] W (RchPost W (rev E) (y0, y1, y2)) from
    fun W hW => depts_any p W _ E (y0, y1, y2) (He.out.1.same (Hc2.out.trans hW)) He.out.2.1 He.out.2.2.1 He.out.2.2.2.2)
  go_wp2_with fail
  refine (HD.out w2 (Chg.refl _ _) x0 x1 x2 He.out.2.2.2.1).mono ?_
  rintro e w3 ⟨v3, l3, rfl, hi3, hd3, hc3⟩
  have h13 := Hc2.out.trans hc3
  obtain ⟨b0, b1, b2⟩ := kCellsAt ((h13.block _ (lt_of_obj Hb.out.1) (by simp)).trans Hb.out.1)
  obtain ⟨c0, c1, c2⟩ := kCellsAt ((h13.block _ (lt_of_obj Hb.out.2) (by simp)).trans Hb.out.2)
  have lx3 := lt_of_cell b0
  have ly3 := lt_of_cell c0
  obtain ⟨av, cv, rfl, hvl, hvc⟩ := hi3.shape
  have H3 := Lib.hid (And.intro hi3 (And.intro hd3 (And.intro hc3 h13)))
  clear hi3 hd3 hc3 h13
  have HC := Lib.hid (show ∀ W, Chg [] w3 W → ∀ k0 k1 k2, Calls Try.prog 8 #[.slice av l3.length cv, .agg #[.int .i64 k0, .int .i64 k1, .int .i64 k2]] W fun e w' => e = .returned (.bool (decide ((k0, k1, k2) ∈ l3))) ∧ Chg [] W w' from
    fun W hW k0 k1 k2 => refContainsK _ W _ l3 (k0, k1, k2) (i3s_same H3.out.1 hW) (fun g hg => Nat.lt_of_lt_of_le hg.2 hW.size))
  obtain ⟨bb, hbb⟩ : ∃ b, b = decide ((y0, y1, y2) ∈ l3) := ⟨_, rfl⟩
  have Hbb := Lib.hid hbb
  unfold maxLen at hvl
  clear hbb
  clear a0 a1 a2
  go_upto_region 5 with (fail)
  go_region_held3 (fun W => W.cell? ⟨nx, 0, none⟩ = some (.int .i64 x0) ∧ W.cell? ⟨nx, 1, none⟩ = some (.int .i64 x1) ∧ W.cell? ⟨nx, 2, none⟩ = some (.int .i64 x2) ∧ W.cell? ⟨ny, 0, none⟩ = some (.int .i64 y0) ∧ W.cell? ⟨ny, 1, none⟩ = some (.int .i64 y1) ∧ W.cell? ⟨ny, 2, none⟩ = some (.int .i64 y2))
    (first | (go_keep; done) | (exact ⟨p0, p1, p2, q0, q1, q2⟩) | (exact ⟨r0, r1, r2, s0, s1, s2⟩) | (exact ⟨t0, t1, t2, u0, u1, u2⟩))
    (first
      | (go_at_call 8; (with_reducible refine (HC.out _ ?_ y0 y1 y2).mono ?_); (first | exact (Chg.refl [] w3).drew | fail); rintro e w4 ⟨rfl, hc⟩; rw [← Hbb.out]; have C4 := Lib.hid ((Chg.refl [] w3).drew.trans hc); clear hc; obtain ⟨p0, p1, p2⟩ := kCellsAt (((H3.out.2.2.2.trans C4.out).block _ (lt_of_obj Hb.out.1) (by simp)).trans Hb.out.1); obtain ⟨q0, q1, q2⟩ := kCellsAt (((H3.out.2.2.2.trans C4.out).block _ (lt_of_obj Hb.out.2) (by simp)).trans Hb.out.2))
      | (go_at_call 9; (with_reducible refine (HT.out _ ?_).mono ?_); (first | exact H3.out.2.2.1.trans C4.out | fail); rintro e w5 ⟨v5, l5, rfl, hi5, hd5, hc⟩; have C5 := Lib.hid (C4.out.trans hc); have H5 := Lib.hid (And.intro hi5 hd5); clear hc hi5 hd5; obtain ⟨r0, r1, r2⟩ := kCellsAt (((H3.out.2.2.2.trans C5.out).block _ (lt_of_obj Hb.out.1) (by simp)).trans Hb.out.1); obtain ⟨s0, s1, s2⟩ := kCellsAt (((H3.out.2.2.2.trans C5.out).block _ (lt_of_obj Hb.out.2) (by simp)).trans Hb.out.2); have HC5 := Lib.hid (refContainsK _ w5 v5 l5 (x0, x1, x2) H5.out.1 (fun g hg => hg.2)); rw [← rev_mem_iff H3.out.2.1 H5.out.2, ← Hbb.out] at HC5; unfold i3v at HC5; simp only at HC5)
      | (go_at_call 8; (with_reducible refine HC5.out.mono ?_); rintro e w6 ⟨rfl, hc⟩; have C6 := Lib.hid (C5.out.trans hc); clear hc; obtain ⟨t0, t1, t2⟩ := kCellsAt (((H3.out.2.2.2.trans C6.out).block _ (lt_of_obj Hb.out.1) (by simp)).trans Hb.out.1); obtain ⟨u0, u1, u2⟩ := kCellsAt (((H3.out.2.2.2.trans C6.out).block _ (lt_of_obj Hb.out.2) (by simp)).trans Hb.out.2)))
  clear b0 b1 b2 c0 c1 c2 p0 p1 p2 q0 q1 q2 r0 r1 r2 s0 s1 s2 t0 t1 t2 u0 u1 u2 lx3 ly3 lx HC5 Hbb H5
  go_wp2_with fail
  go_loopw [33] (fun i wr => ∃ j : Nat, j ≤ l3.length ∧ i = .int .i64 (j : Nat) ∧ Hid (Chg [] w3 wr)) (fun i _ => l3.length - (intOf i).toNat)
  case atStart => exact ⟨0, by omega, rfl, C6⟩
  case round =>
    obtain ⟨j, hj, rfl, Hcw⟩ := hrel
    by_cases hlt : j < l3.length
    · have hj1 : (j : Int) < l3.length := by omega
      obtain ⟨g, off, rfl, _, q0, q1, q2⟩ := SlR.at (i3s_same H3.out.1 Hcw.out) j hlt (0, 0, 0)
      obtain ⟨k, hk⟩ : ∃ k, l3.getD j (0, 0, 0) = k := ⟨_, rfl⟩
      have hkm : k ∈ l3 := by rw [← hk]; exact getD_memb hlt _
      rw [hk] at q0 q1 q2
      obtain ⟨k0, k1, k2⟩ := k
      simp only at q0 q1 q2
      have lq := lt_of_cell q0
      have hkr := (H3.out.2.1.2 _).1 hkm
      have hkok := reach_ok He.out.2.2.1 hkr
      obtain ⟨w7, hw7⟩ : ∃ q, q = wr.alloc (.cells #[.int .i64 k0, .int .i64 k1, .int .i64 k2] 24) := ⟨_, rfl⟩
      have hc7 : Chg [] wr w7 := by rw [hw7]; exact (Chg.refl [] wr).alloc _
      have Hd := Lib.hid (HD.out w7 (H3.out.2.2.1.trans (Hcw.out.trans hc7)) k0 k1 k2 hkok)
      have Hkr := Lib.hid hkr
      have H7 := Lib.hid (And.intro hw7 (Hcw.out.trans hc7))
      clear hk hkm hkr hkok hw7 hc7
      go_wp2_with fail
      rw [← H7.out.1]
      refine Hd.out.mono ?_
      rintro e w8 ⟨v8, l8, rfl, hi8, hd8, hc8⟩
      obtain ⟨a8, c8, rfl, hvl8, hvc8⟩ := hi8.shape
      unfold maxLen at hvl8
      have H8 := Lib.hid (And.intro hi8 (And.intro hd8 (H7.out.2.trans hc8)))
      clear hi8 hd8 hc8 q0 q1 q2 lq Hd
      go_wp2_with fail
      go_loopw [41] (fun i wr2 => ∃ m : Nat, m ≤ l8.length ∧ i = .int .i64 (m : Nat) ∧ Hid (Chg [] w8 wr2)) (fun i _ => l8.length - (intOf i).toNat)
      case atStart => exact ⟨0, by omega, rfl, Lib.hid (Chg.refl _ _)⟩
      case round =>
        obtain ⟨m, hm, rfl, Hcm⟩ := hrel
        by_cases hlt2 : m < l8.length
        · have hm1 : (m : Int) < l8.length := by omega
          obtain ⟨g2, off2, rfl, _, q0, q1, q2⟩ := SlR.at (i3s_same H8.out.1 Hcm.out) m hlt2 (0, 0, 0)
          obtain ⟨d, hd⟩ : ∃ d, l8.getD m (0, 0, 0) = d := ⟨_, rfl⟩
          have hdm : d ∈ l8 := by rw [← hd]; exact getD_memb hlt2 _
          rw [hd] at q0 q1 q2
          obtain ⟨d0, d1, d2⟩ := d
          simp only at q0 q1 q2
          have lq := lt_of_cell q0
          have hdl : (d0, d1, d2) ∈ l3 := (H3.out.2.1.2 _).2 (Hkr.out.trans ((H8.out.2.1.2 _).1 hdm))
          obtain ⟨w9, hw9⟩ : ∃ q, q = wr.alloc (.cells #[.int .i64 d0, .int .i64 d1, .int .i64 d2] 24) := ⟨_, rfl⟩
          have hc9 : Chg [] w8 w9 := Hcm.out.trans (by rw [hw9]; exact (Chg.refl [] wr).alloc _)
          have hcn := HC.out w9 (H8.out.2.2.trans hc9) d0 d1 d2
          rw [decide_eq_true hdl] at hcn
          have Hcn := Lib.hid hcn
          have H9 := Lib.hid (And.intro hw9 hc9)
          clear hd hdm hdl hw9 hc9 hcn
          go_wp2_with fail
          rw [← H9.out.1]
          refine Hcn.out.mono ?_
          rintro e w10 ⟨rfl, hc10⟩
          have H10 := Lib.hid (H9.out.2.trans hc10)
          clear hc10 q0 q1 q2 lq
          go_wp2_with fail
          exact ⟨⟨m + 1, by omega, by go_num, H10⟩, by simp [intOf]; omega⟩
        · have hm1 : ¬ (m : Int) < l8.length := by omega
          go_wp2_with fail
          exact ⟨⟨j + 1, by omega, by go_num, Lib.hid (H8.out.2.2.trans Hcm.out)⟩, by simp [intOf]; omega⟩
    · have hj1 : ¬ (j : Int) < l3.length := by omega
      go_wp2_with fail
      refine (graphExample_any wr).mono ?_
      rintro e w7 ⟨rfl, hc7⟩
      have H7 := Lib.hid (H3.out.2.2.2.trans (Hcw.out.trans hc7))
      clear hc7
      go_wp2_with fail
      go_ret
      exact ⟨rfl, Hc1.out.trans H7.out⟩
end Go.Proofs.Ytenjjiilcdgimaa
