/- depgraph: Dependencies, Dependents; Index, Contains, Equal at keys. -/
import Derived.Test.YtenjjiilcdgimaaDgM
import Derived.Test.YtenjjiilcdgimaaKeys
namespace Go.Proofs.Ytenjjiilcdgimaa
open Go.RowKit Go.ChangeMaps Go.MapKept Go.Shelf
set_option linter.unusedVariables false
set_option linter.unusedSimpArgs false
set_option maxRecDepth 100000 in
set_option maxHeartbeats 4000000 in
theorem deps_any (p : Nat → Prop) (w : World) (v : Value) (E : List Ed) (x : I3) (h : EdP p w v E) (hl : E.length ≤ 100) (hok : EdOk E) (hx : QKok x) :
    Calls Try.prog 7 #[v, i3v x] w (RchPost w E x) := by
  obtain ⟨x0, x1, x2⟩ := x
  obtain ⟨w1, hw1⟩ : ∃ q, q = w.alloc (kObj (x0, x1, x2)) := ⟨_, rfl⟩
  obtain ⟨nb, hnb⟩ : ∃ n, n = w.heap.size := ⟨_, rfl⟩
  have hc1 : Chg [] w w1 := by rw [hw1]; exact (Chg.refl [] w).alloc _
  have hb1 : w1.heap[nb]? = some (kObj (x0, x1, x2)) := by rw [hw1, hnb]; exact heap_at _ _ _ rfl
  have hng := newGraph_any p w1.drew v E false ((h.same hc1).same ((Chg.refl [] w1).drew)) hl hok
  obtain ⟨b0, b1, b2⟩ := kCellsAt hb1
  have lb := lt_of_cell b0
  obtain ⟨a, cap, rfl, _, _⟩ := SlR.shape h
  have hre : (revIf false E).length ≤ 100 := by rw [revIf_len]; exact hl
  have hrok := revIf_ok hok false
  have Hx := Lib.hid (And.intro hre (And.intro hrok hx))
  unfold kObj at hw1
  have Hw1 := Lib.hid (And.intro hw1 hnb)
  have Hc1 := Lib.hid hc1
  have Hb1 := Lib.hid hb1
  have Hng := Lib.hid hng
  clear h hok hx hw1 hnb hc1 hb1 hng hl hre hrok
  unfold i3v
  simp only
  go_enter Try.func7, Try.ntmps7
  go_upto_region 1 with (fail)
  rw [← Hw1.out.1, ← Hw1.out.2]
  go_region_held3 (fun w' => w'.cell? ⟨nb, 0, none⟩ = some (.int .i64 x0) ∧ w'.cell? ⟨nb, 1, none⟩ = some (.int .i64 x1) ∧ w'.cell? ⟨nb, 2, none⟩ = some (.int .i64 x2))
    (first | (go_keep; done) | (exact ⟨q0, q1, q2⟩) | (exact ⟨r0, r1, r2⟩))
    (first
      | (go_at_call 17; (with_reducible refine Hng.out.mono ?_); rintro e w2 ⟨gb, bm, L, kv, rfl, hG⟩; obtain ⟨q0, q1, q2⟩ := kCellsAt ((hG.chg.block _ (lt_of_obj Hb1.out) (by simp)).trans Hb1.out); have hr := reachable_any w2 _ gb bm _ L kv (x0, x1, x2) hG.at_ hG.list Hx.out.1 Hx.out.2.1 Hx.out.2.2; simp only [i3v] at hr; have Hr := Lib.hid hr; clear hr; have Hg := Lib.hid hG.chg; clear hG)
      | (go_at_call 18; (with_reducible refine Hr.out.mono ?_); rintro e w3 ⟨v', l, rfl, hi, hd, hc⟩; obtain ⟨r0, r1, r2⟩ := kCellsAt (((Hg.out.trans hc).block _ (lt_of_obj Hb1.out) (by simp)).trans Hb1.out); have Hi := Lib.hid (And.intro hi (And.intro hd hc)); clear hi hd hc))
  all_goals
    go_wp2_with fail
    go_ret
    have hg : Chg [] w w2 := Hc1.out.trans ((Chg.refl [] w1).drew.trans Hg.out)
    exact ⟨_, l, rfl, Hi.out.1.imp fun g hg' => ⟨Nat.le_trans hg.size hg'.1, hg'.2⟩, Hi.out.2.1, hg.trans Hi.out.2.2⟩
set_option maxRecDepth 100000 in
set_option maxHeartbeats 4000000 in
theorem depts_any (p : Nat → Prop) (w : World) (v : Value) (E : List Ed) (x : I3) (h : EdP p w v E) (hl : E.length ≤ 100) (hok : EdOk E) (hx : QKok x) :
    Calls Try.prog 9 #[v, i3v x] w (RchPost w (rev E) x) := by
  obtain ⟨x0, x1, x2⟩ := x
  obtain ⟨w1, hw1⟩ : ∃ q, q = w.alloc (kObj (x0, x1, x2)) := ⟨_, rfl⟩
  obtain ⟨nb, hnb⟩ : ∃ n, n = w.heap.size := ⟨_, rfl⟩
  have hc1 : Chg [] w w1 := by rw [hw1]; exact (Chg.refl [] w).alloc _
  have hb1 : w1.heap[nb]? = some (kObj (x0, x1, x2)) := by rw [hw1, hnb]; exact heap_at _ _ _ rfl
  have hng := newGraph_any p w1.drew v E true ((h.same hc1).same ((Chg.refl [] w1).drew)) hl hok
  obtain ⟨b0, b1, b2⟩ := kCellsAt hb1
  have lb := lt_of_cell b0
  obtain ⟨a, cap, rfl, _, _⟩ := SlR.shape h
  have hre : (revIf true E).length ≤ 100 := by rw [revIf_len]; exact hl
  have hrok := revIf_ok hok true
  have Hx := Lib.hid (And.intro hre (And.intro hrok hx))
  unfold kObj at hw1
  have Hw1 := Lib.hid (And.intro hw1 hnb)
  have Hc1 := Lib.hid hc1
  have Hb1 := Lib.hid hb1
  have Hng := Lib.hid hng
  clear h hok hx hw1 hnb hc1 hb1 hng hl hre hrok
  unfold i3v
  simp only
  go_enter Try.func9, Try.ntmps9
  go_upto_region 1 with (fail)
  rw [← Hw1.out.1, ← Hw1.out.2]
  go_region_held3 (fun w' => w'.cell? ⟨nb, 0, none⟩ = some (.int .i64 x0) ∧ w'.cell? ⟨nb, 1, none⟩ = some (.int .i64 x1) ∧ w'.cell? ⟨nb, 2, none⟩ = some (.int .i64 x2))
    (first | (go_keep; done) | (exact ⟨q0, q1, q2⟩) | (exact ⟨r0, r1, r2⟩))
    (first
      | (go_at_call 17; (with_reducible refine Hng.out.mono ?_); rintro e w2 ⟨gb, bm, L, kv, rfl, hG⟩; obtain ⟨q0, q1, q2⟩ := kCellsAt ((hG.chg.block _ (lt_of_obj Hb1.out) (by simp)).trans Hb1.out); have hr := reachable_any w2 _ gb bm _ L kv (x0, x1, x2) hG.at_ hG.list Hx.out.1 Hx.out.2.1 Hx.out.2.2; simp only [i3v] at hr; have Hr := Lib.hid hr; clear hr; have Hg := Lib.hid hG.chg; clear hG)
      | (go_at_call 18; (with_reducible refine Hr.out.mono ?_); rintro e w3 ⟨v', l, rfl, hi, hd, hc⟩; obtain ⟨r0, r1, r2⟩ := kCellsAt (((Hg.out.trans hc).block _ (lt_of_obj Hb1.out) (by simp)).trans Hb1.out); have Hi := Lib.hid (And.intro hi (And.intro hd hc)); clear hi hd hc))
  all_goals
    go_wp2_with fail
    go_ret
    have hg : Chg [] w w2 := Hc1.out.trans ((Chg.refl [] w1).drew.trans Hg.out)
    exact ⟨_, l, rfl, Hi.out.1.imp fun g hg' => ⟨Nat.le_trans hg.size hg'.1, hg'.2⟩, Hi.out.2.1, hg.trans Hi.out.2.2⟩
end Go.Proofs.Ytenjjiilcdgimaa
