/- depgraph: ready. -/
import Derived.Test.YtenjjiilcdgimaaDgR
namespace Go.Proofs.Ytenjjiilcdgimaa
open Go.RowKit Go.ChangeMaps Go.MapKept Go.Shelf
set_option linter.unusedVariables false
set_option linter.unusedSimpArgs false
theorem rdy_not (E : List Ed) (O : List I3) (k : I3) (h : k ∈ O) : decide (Rdy E O k) = false := decide_eq_false fun hr => hr.1 h
theorem rdy_yes (E : List Ed) (O : List I3) (k : I3) (h : k ∉ O) : decide (Rdy E O k) = !((nx E k).any (unpl O)) := by
  rw [Bool.eq_iff_iff, decide_eq_true_iff]
  simp only [Rdy, Bool.not_eq_true', List.any_eq_false, unpl, Bool.not_eq_true, decide_eq_false_iff_not, Decidable.not_not]
  exact ⟨fun hr => hr.2, fun hr => ⟨h, hr⟩⟩
set_option maxRecDepth 100000 in
set_option maxHeartbeats 8000000 in
theorem ready_any (w : World) (B gb bm : Nat) (E : List Ed) (L : GL) (kv : Value) (bs : Nat) (O : List I3) (k0 k1 k2 : Int) (h : GrAt w B gb bm L kv (ks E)) (hL : ∀ y, glL L y = nx E y) (hok : EdOk E) (hk : QKok (k0, k1, k2)) (hm : MapAt Try.prog 24 i3v w bs (seenE O)) :
    Calls Try.prog 21 #[.pointer (some ⟨gb, 0, none⟩), .agg #[.int .i64 k0, .int .i64 k1, .int .i64 k2], .map (some bs)] w fun e w' => e = .returned (.bool (decide (Rdy E O (k0, k1, k2)))) ∧ Chg [] w w' := by
  obtain ⟨w1, hw1⟩ : ∃ q, q = (w.alloc (.cells #[.int .i64 k0, .int .i64 k1, .int .i64 k2] 24)).alloc (.cells #[.map (some bs)] 49) := ⟨_, rfl⟩
  obtain ⟨nk, hnk⟩ : ∃ n, n = w.heap.size := ⟨_, rfl⟩
  obtain ⟨cb, hcb⟩ : ∃ n, n = w.heap.size + 1 := ⟨_, rfl⟩
  have hc1 : Chg [] w w1 := by rw [hw1]; exact ((Chg.refl [] w).alloc _).alloc _
  have hbk : w1.heap[nk]? = some (kObj (k0, k1, k2)) := by rw [hw1, hnk]; exact (heap_past _ _ _ (by simp)).trans (heap_at _ _ _ rfl)
  have hbc : w1.heap[cb]? = some (.cells #[.map (some bs)] 49 (0, 0)) := by rw [hw1, hcb]; exact heap_at _ _ _ (by simp)
  have hG := h.same hc1
  have hM := hm.kept hc1 (by simp)
  have HW := Lib.hid (And.intro hw1 (And.intro hnk hcb))
  have Hc1 := Lib.hid hc1
  have Hb := Lib.hid (And.intro hbk (And.intro hbc (And.intro hG (And.intro hM (And.intro hok hk)))))
  clear hw1 hnk hcb hc1 hbk hbc h hG hm hM hok hk
  go_enter Try.func21, Try.ntmps21
  go_upto_region 2 with (fail)
  rw [← HW.out.1, ← HW.out.2.2, ← HW.out.2.1]
  refine wp_region_readsQ 12 (by kernel_rfl) (by kernel_rfl) ?_
  intro wd hwd
  simp only [List.take_succ_cons, List.take_zero, List.drop_succ_cons, List.drop_zero]
  have hcd : Chg [] w1 wd := by rw [hwd]; exact (Chg.refl [] w1).drew
  obtain ⟨hbk, hbc, hG, hM, hok, hk⟩ := Hb.out
  have hG := hG.same hcd
  have hM := hM.kept hcd (by simp)
  have hbc := (hcd.block _ (lt_of_obj hbc) (by simp)).trans hbc
  obtain ⟨b0, b1, b2⟩ := kCellsAt ((hcd.block _ (lt_of_obj hbk) (by simp)).trans hbk)
  have c0 : wd.cell? ⟨cb, 0, none⟩ = some (.map (some bs)) := cell_of_heap hbc rfl
  have g0 : wd.cell? ⟨gb, 0, none⟩ = some (.map (some bm)) := cell_of_heap hG.box rfl
  have lb := lt_of_cell b0
  have lc := lt_of_cell c0
  have lg := lt_of_cell g0
  have hlk := hM.lookup qkeyed i3v_inj Try.underlying49 (qkOk hk) (zeroInt _) false
  simp only [seen_get, Bool.false_eq_true, if_false, i3v] at hlk
  have hlg := hG.look (k0, k1, k2) hk
  simp only [i3v] at hlg
  have Hd := Lib.hid (And.intro hcd (And.intro hbc (And.intro hG (And.intro hM (And.intro hok hk)))))
  clear hwd hcd hbk hbc hG hM hok hk Hb
  by_cases hin : (k0, k1, k2) ∈ O
  · rw [if_pos hin] at hlk
    simp only [Option.getD_some] at hlk
    have Hin := Lib.hid (rdy_not E O (k0, k1, k2) hin)
    clear hin
    repeat go_big_quiet_step (fail)
    refine wpQuiet_nil ?_
    go_wp2_with fail
    go_ret
    exact ⟨by rw [Hin.out]; rfl, Hc1.out.trans Hd.out.1⟩
  · rw [if_neg hin] at hlk
    simp only [Option.getD_none] at hlk
    have Hin := Lib.hid (rdy_yes E O (k0, k1, k2) hin)
    clear hin
    have hrow := (Hd.out.2.2.1.row (k0, k1, k2)).i3s
    rw [hL] at hrow
    have Hcf := Lib.hid (rdy_cf _ wd _ (nx E (k0, k1, k2)) cb (unpl O) hrow (fun W hW y0 y1 y2 hy => unpl_any W cb bs O y0 y1 y2 ((hW.block _ (lt_of_obj Hd.out.2.1) (by simp)).trans Hd.out.2.1) (Hd.out.2.2.2.1.kept hW (by simp)) (nx_ok Hd.out.2.2.2.2.1 _ _ hy)))
    clear hrow
    obtain ⟨bb, hbb⟩ : ∃ b, b = (nx E (k0, k1, k2)).any (unpl O) := ⟨_, rfl⟩
    rw [← hbb] at Hcf Hin
    clear hbb
    repeat go_big_quiet_step (fail)
    refine wpQuiet_nil ?_
    go_wp2_with fail
    refine Hcf.out.mono ?_
    rintro e w3 ⟨rfl, hc3⟩
    have H3 := Lib.hid hc3
    clear hc3
    go_wp2_with fail
    go_ret
    exact ⟨by rw [Hin.out]; rfl, Hc1.out.trans (Hd.out.1.trans H3.out)⟩
end Go.Proofs.Ytenjjiilcdgimaa
