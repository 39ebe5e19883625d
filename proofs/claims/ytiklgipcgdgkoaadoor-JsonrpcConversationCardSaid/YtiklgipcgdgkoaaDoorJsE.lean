/- Protocol messages: toObject (printed by wip/gen_jsc.py). -/
import Derived.Test.YtiklgipcgdgkoaaDoorJsC
namespace Go.Proofs.YtiklgipcgdgkoaaDoor.Jv
open Go.RowKit Go.ChangeMaps Go.MapKept
set_option linter.unusedVariables false
set_option linter.unusedSimpArgs false
theorem toObj5_end {mb : Nat} {i : Int} {w W : World} {n0 : Nat} {n2 : Nat} {n6 : Nat} {n8 : Nat}
    (h0 : W.heap[n0]? = some (.cells #[.string ⟨#[109, 101, 116, 104, 111, 100]⟩, .string ⟨#[112, 97, 114, 97, 109, 115]⟩] 9 (0, 0)))
    (h2 : W.heap[n2]? = some (.cells #[.string ⟨#[105, 100]⟩] 9 (0, 0)))
    (h6 : W.heap[n6]? = some (.cells #[.int .i64 2, .int .i64 i, .string ⟨#[]⟩, .slice none 0 0, .slice none 0 0] 25 (0, 0)))
    (h8 : W.heap[n8]? = some (.cells #[.int .i64 3, .int .i64 0, .string ⟨#[36, 47, 99, 97, 110, 99, 101, 108]⟩, .slice none 0 0, .slice none 0 0, .int .i64 5, .int .i64 0, .string ⟨#[]⟩, .slice (some ⟨n2, 0, none⟩) 1 1, .slice (some ⟨n6, 0, none⟩) 1 1] 25 (0, 0)))
    (g0 : mb ≤ n0)
    (g2 : mb ≤ n2)
    (g6 : mb ≤ n6)
    (g8 : mb ≤ n8)
    (hm : mb = w.heap.size) (hc : Chg [] w W) : ToPost (.mk 5 0 ⟨#[]⟩ [⟨#[109, 101, 116, 104, 111, 100]⟩, ⟨#[112, 97, 114, 97, 109, 115]⟩] [(.mk 3 0 ⟨#[36, 47, 99, 97, 110, 99, 101, 108]⟩ [] []), (.mk 5 0 ⟨#[]⟩ [⟨#[105, 100]⟩] [(.mk 2 i ⟨#[]⟩ [] [])])]) w (.returned (.agg #[.int .i64 5, .int .i64 0, .string ⟨#[]⟩, .slice (some ⟨n0, 0, none⟩) 2 2, .slice (some ⟨n8, 0, none⟩) 2 2])) W := by
  exact ⟨_, rfl, JN.mk (nms_2 h0 (by omega) (by decide) (by decide)) (els_2 (lt_of_obj h8) (by omega) (rd_leaf (cell_of_heap h8 rfl) (cell_of_heap h8 rfl) (cell_of_heap h8 rfl) (cell_of_heap h8 rfl) (cell_of_heap h8 rfl) (by decide)) (rd_obj (cell_of_heap h8 rfl) (cell_of_heap h8 rfl) (cell_of_heap h8 rfl) (cell_of_heap h8 rfl) (cell_of_heap h8 rfl) (nms_1 h2 (by omega) (by decide)) (els_1 (lt_of_obj h6) (by omega) (rd_leaf (cell_of_heap h6 rfl) (cell_of_heap h6 rfl) (cell_of_heap h6 rfl) (cell_of_heap h6 rfl) (cell_of_heap h6 rfl) (by decide))))) (by decide), hc⟩
set_option maxRecDepth 100000 in
set_option maxHeartbeats 64000000 in
theorem toObj5 (i : Int) (w : World) : Calls Tryd.prog 33 #[mV 5 i 0 ⟨#[]⟩] w (ToPost (.mk 5 0 ⟨#[]⟩ [⟨#[109, 101, 116, 104, 111, 100]⟩, ⟨#[112, 97, 114, 97, 109, 115]⟩] [(.mk 3 0 ⟨#[36, 47, 99, 97, 110, 99, 101, 108]⟩ [] []), (.mk 5 0 ⟨#[]⟩ [⟨#[105, 100]⟩] [(.mk 2 i ⟨#[]⟩ [] [])])]) w) := by
  unfold mV
  obtain ⟨w1, hw1⟩ : ∃ x, x = (w.alloc (.cells #[.int .i64 5, .int .i64 i, .int .i64 0, .string ⟨#[]⟩, .int .i64 0, .int .i64 0, .string ⟨#[]⟩, .slice none 0 0, .slice none 0 0] 27)).alloc (.cells #[.int .i64 0, .int .i64 0, .string ⟨#[]⟩, .slice none 0 0, .slice none 0 0] 25) := ⟨_, rfl⟩
  obtain ⟨mb, hmb⟩ : ∃ x, x = w.heap.size := ⟨_, rfl⟩
  have hc1 : Chg [] w w1 := by rw [hw1]; exact ((Chg.refl _ _).alloc _).alloc _
  have hm1 : w1.heap[mb]? = some (.cells #[.int .i64 5, .int .i64 i, .int .i64 0, .string ⟨#[]⟩, .int .i64 0, .int .i64 0, .string ⟨#[]⟩, .slice none 0 0, .slice none 0 0] 27 (0, 0)) := by
    rw [hw1, hmb, heap_past _ _ _ (by simp)]
    exact heap_at _ _ _ rfl
  have hr1 : w1.heap[mb + 1]? = some (.cells #[.int .i64 0, .int .i64 0, .string ⟨#[]⟩, .slice none 0 0, .slice none 0 0] 25 (0, 0)) := by
    rw [hw1, hmb]
    exact heap_at _ _ _ (by simp)
  have Hmb := Lib.hid hmb
  have HcA := Lib.hid hc1
  have Hm1 := Lib.hid hm1
  have Hr1 := Lib.hid hr1
  clear hc1 hm1 hr1
  go_enter Tryd.func33, Tryd.ntmps33
  go_wp2_with fail
  rw [← hw1, ← hmb]
  clear hw1 hmb
  refine (clone_zero w1).mono ?_
  rintro e w2 ⟨rfl, hc2⟩
  obtain ⟨w3, hw3⟩ : ∃ x, x = w2.alloc (.cells #[.int .i64 0, .int .i64 0, .string ⟨#[]⟩, .slice none 0 0, .slice none 0 0] 25) := ⟨_, rfl⟩
  obtain ⟨bb, hbb⟩ : ∃ x, x = w2.heap.size := ⟨_, rfl⟩
  have hc3 : Chg [] w1 w3 := by rw [hw3]; exact hc2.alloc _
  have hb3 : w3.heap[bb]? = some (.cells #[.int .i64 0, .int .i64 0, .string ⟨#[]⟩, .slice none 0 0, .slice none 0 0] 25 (0, 0)) := by rw [hw3, hbb]; exact heap_at _ _ _ rfl
  obtain ⟨m0, m1, m2, m3, m4, m5, m6, m7, m8⟩ := msg_cells mb Hm1.out hc3
  have hr3 := (hc3.block (mb + 1) (lt_of_obj Hr1.out) (by simp)).trans Hr1.out
  have Hr3 := Lib.hid hr3
  have HS : Hid (∀ W, Chg [] w3 W → W.cell? ⟨mb, 1, none⟩ = some (.int .i64 i) ∧ W.cell? ⟨mb, 2, none⟩ = some (.int .i64 0) ∧ W.cell? ⟨mb, 3, none⟩ = some (.string ⟨#[]⟩) ∧ W.cell? ⟨bb, 0, none⟩ = some (.int .i64 0) ∧ W.cell? ⟨bb, 1, none⟩ = some (.int .i64 0) ∧ W.cell? ⟨bb, 2, none⟩ = some (.string ⟨#[]⟩) ∧ W.cell? ⟨bb, 3, none⟩ = some (.slice none 0 0) ∧ W.cell? ⟨bb, 4, none⟩ = some (.slice none 0 0)) := Lib.hid (fun W hW => by
    obtain ⟨b0, b1, b2, b3, b4⟩ := box_kept bb hb3 hW
    exact ⟨(hW.cell (lt_of_cell m1) (by simp)).trans m1, (hW.cell (lt_of_cell m2) (by simp)).trans m2, (hW.cell (lt_of_cell m3) (by simp)).trans m3, b0, b1, b2, b3, b4⟩)
  have HcB := Lib.hid hc3
  clear hc2 hc3 hb3 hr3
  go_upto_region 2 with fail
  rw [← hw3, ← hbb]
  clear hw3 hbb
  go_upto_region 11 with fail
  clear m0 m1 m2 m3 m4 m5 m6 m7 m8
  refine wp_region_U (fun W => W.cell? ⟨mb, 1, none⟩ = some (.int .i64 i) ∧ W.cell? ⟨mb, 2, none⟩ = some (.int .i64 0) ∧ W.cell? ⟨mb, 3, none⟩ = some (.string ⟨#[]⟩) ∧ W.cell? ⟨bb, 0, none⟩ = some (.int .i64 0) ∧ W.cell? ⟨bb, 1, none⟩ = some (.int .i64 0) ∧ W.cell? ⟨bb, 2, none⟩ = some (.string ⟨#[]⟩) ∧ W.cell? ⟨bb, 3, none⟩ = some (.slice none 0 0) ∧ W.cell? ⟨bb, 4, none⟩ = some (.slice none 0 0)) (fun _ => True) 10 (by kernel_rfl) ?_
  intro W0 hwd
  have Hc0 : Hid (Chg [] w3 W0) := Lib.hid (by rw [hwd]; exact (Chg.refl _ _).drew)
  clear hwd
  have hS := HS.out _ Hc0.out
  refine anyU_pure (i := 3) (v := .pointer (some ⟨mb, 1, none⟩)) rfl (by kernel_rfl) (fun _ _ _ h => h) (Or.inl ⟨by rfl, fun w' hS => by go_simp⟩) (fun _ => hS) trivial ?_
  simp only [Act.put, List.setIfInBounds_toArray, List.set_cons_zero, List.set_cons_succ]
  refine anyU_take (i := 4) (v := .int .i64 i) rfl (by kernel_rfl) (fun _ _ _ h => h) (Or.inl ⟨by rfl, fun w' hS => by go_simp⟩) hS trivial ?_
  simp only [Act.put, List.setIfInBounds_toArray, List.set_cons_zero, List.set_cons_succ]
  refine anyU_three (k := 0) (k' := 1) (k'' := 2) (by kernel_rfl) rfl rfl rfl (fun K hK => ?_) (fun K hK => ?_) (fun K hK => ?_) 
  · skip
    go_simp
    obtain ⟨W1, hX⟩ : ∃ x, x = W0.alloc (.cells #[.string ⟨#[109, 101, 116, 104, 111, 100]⟩, .string ⟨#[112, 97, 114, 97, 109, 115]⟩] 9) := ⟨_, rfl⟩
    obtain ⟨n0, hn⟩ : ∃ x, x = W0.heap.size := ⟨_, rfl⟩
    have hcx : Chg [] W0 W1 := by rw [hX]; exact (Chg.refl _ _).alloc _
    have hbx : W1.heap[n0]? = some (.cells #[.string ⟨#[109, 101, 116, 104, 111, 100]⟩, .string ⟨#[112, 97, 114, 97, 109, 115]⟩] 9 (0, 0)) := by rw [hX, hn]; exact heap_at _ _ _ rfl
    have Hge0 : Hid (mb ≤ n0) := Lib.hid (by have h1 := (HcA.out.trans (HcB.out.trans Hc0.out)).size; have h2 := Hmb.out; omega)
    have Hgt0 : Hid (mb + 1 < n0) := Lib.hid (by have h1 := Hc0.out.size; have h2 := lt_of_obj Hr3.out; omega)
    rw [← hX, ← hn]
    clear hX hn
    have Hc1 := Lib.hid (Hc0.out.trans hcx)
    have Hn0 := Lib.hid hbx
    clear hbx
    have hS := HS.out _ Hc1.out
    refine hK _ _ (fun _ => hS) trivial ?_
    clear hK K hcx
    refine anyU_two (k := 1) (k' := 2) (by kernel_rfl) rfl rfl (fun K hK => ?_) (fun K hK => ?_) 
    · skip
      go_simp
      refine (textV_any ⟨#[36, 47, 99, 97, 110, 99, 101, 108]⟩ W1).mono ?_
      rintro e W2 ⟨rfl, hcx⟩
      have Hc2 := Lib.hid (Hc1.out.trans hcx)
      have Hn0 := Lib.hid ((hcx.block n0 (lt_of_obj Hn0.out) (by simp)).trans Hn0.out)
      have hS := HS.out _ Hc2.out
      refine hK _ _ (fun _ => hS) trivial ?_
      clear hK K hcx
      refine anyU_two (k := 2) (k' := 5) (by kernel_rfl) rfl rfl (fun K hK => ?_) (fun K hK => ?_) 
      · skip
        go_simp
        obtain ⟨W3, hX⟩ : ∃ x, x = W2.alloc (.cells #[.string ⟨#[105, 100]⟩] 9) := ⟨_, rfl⟩
        obtain ⟨n2, hn⟩ : ∃ x, x = W2.heap.size := ⟨_, rfl⟩
        have hcx : Chg [] W2 W3 := by rw [hX]; exact (Chg.refl _ _).alloc _
        have hbx : W3.heap[n2]? = some (.cells #[.string ⟨#[105, 100]⟩] 9 (0, 0)) := by rw [hX, hn]; exact heap_at _ _ _ rfl
        have Hge2 : Hid (mb ≤ n2) := Lib.hid (by have h1 := (HcA.out.trans (HcB.out.trans Hc2.out)).size; have h2 := Hmb.out; omega)
        have Hgt2 : Hid (mb + 1 < n2) := Lib.hid (by have h1 := Hc2.out.size; have h2 := lt_of_obj Hr3.out; omega)
        rw [← hX, ← hn]
        clear hX hn
        have Hc3 := Lib.hid (Hc2.out.trans hcx)
        have Hn0 := Lib.hid ((hcx.block n0 (lt_of_obj Hn0.out) (by simp)).trans Hn0.out)
        have Hn2 := Lib.hid hbx
        clear hbx
        have hS := HS.out _ Hc3.out
        refine hK _ _ (fun _ => hS) trivial ?_
        clear hK K hcx
        refine anyU_one (k := 5) (by kernel_rfl) rfl (fun K hK => ?_)
        go_simp
        refine (number_any i W3).mono ?_
        rintro e W4 ⟨rfl, hcx⟩
        have Hc4 := Lib.hid (Hc3.out.trans hcx)
        have Hn0 := Lib.hid ((hcx.block n0 (lt_of_obj Hn0.out) (by simp)).trans Hn0.out)
        have Hn2 := Lib.hid ((hcx.block n2 (lt_of_obj Hn2.out) (by simp)).trans Hn2.out)
        have hS := HS.out _ Hc4.out
        refine hK _ _ (fun _ => hS) trivial ?_
        clear hK K hcx
        refine anyU_one (k := 6) (by kernel_rfl) rfl (fun K hK => ?_)
        go_simp
        obtain ⟨W5, hX⟩ : ∃ x, x = W4.alloc (.cells #[.int .i64 2, .int .i64 i, .string ⟨#[]⟩, .slice none 0 0, .slice none 0 0] 25) := ⟨_, rfl⟩
        obtain ⟨n6, hn⟩ : ∃ x, x = W4.heap.size := ⟨_, rfl⟩
        have hcx : Chg [] W4 W5 := by rw [hX]; exact (Chg.refl _ _).alloc _
        have hbx : W5.heap[n6]? = some (.cells #[.int .i64 2, .int .i64 i, .string ⟨#[]⟩, .slice none 0 0, .slice none 0 0] 25 (0, 0)) := by rw [hX, hn]; exact heap_at _ _ _ rfl
        have Hge6 : Hid (mb ≤ n6) := Lib.hid (by have h1 := (HcA.out.trans (HcB.out.trans Hc4.out)).size; have h2 := Hmb.out; omega)
        have Hgt6 : Hid (mb + 1 < n6) := Lib.hid (by have h1 := Hc4.out.size; have h2 := lt_of_obj Hr3.out; omega)
        rw [← hX, ← hn]
        clear hX hn
        have Hc5 := Lib.hid (Hc4.out.trans hcx)
        have Hn0 := Lib.hid ((hcx.block n0 (lt_of_obj Hn0.out) (by simp)).trans Hn0.out)
        have Hn2 := Lib.hid ((hcx.block n2 (lt_of_obj Hn2.out) (by simp)).trans Hn2.out)
        have Hn6 := Lib.hid hbx
        clear hbx
        have hS := HS.out _ Hc5.out
        refine hK _ _ (fun _ => hS) trivial ?_
        clear hK K hcx
        refine anyU_one (k := 7) (by kernel_rfl) rfl (fun K hK => ?_)
        go_simp
        refine (object_any (some ⟨n2, 0, none⟩) (some ⟨n6, 0, none⟩) 1 1 1 1 W5).mono ?_
        rintro e W6 ⟨rfl, hcx⟩
        have Hc6 := Lib.hid (Hc5.out.trans hcx)
        have Hn0 := Lib.hid ((hcx.block n0 (lt_of_obj Hn0.out) (by simp)).trans Hn0.out)
        have Hn2 := Lib.hid ((hcx.block n2 (lt_of_obj Hn2.out) (by simp)).trans Hn2.out)
        have Hn6 := Lib.hid ((hcx.block n6 (lt_of_obj Hn6.out) (by simp)).trans Hn6.out)
        have hS := HS.out _ Hc6.out
        refine hK _ _ (fun _ => hS) trivial ?_
        clear hK K hcx
        refine anyU_one (k := 8) (by kernel_rfl) rfl (fun K hK => ?_)
        go_simp
        obtain ⟨W7, hX⟩ : ∃ x, x = W6.alloc (.cells #[.int .i64 3, .int .i64 0, .string ⟨#[36, 47, 99, 97, 110, 99, 101, 108]⟩, .slice none 0 0, .slice none 0 0, .int .i64 5, .int .i64 0, .string ⟨#[]⟩, .slice (some ⟨n2, 0, none⟩) 1 1, .slice (some ⟨n6, 0, none⟩) 1 1] 25) := ⟨_, rfl⟩
        obtain ⟨n8, hn⟩ : ∃ x, x = W6.heap.size := ⟨_, rfl⟩
        have hcx : Chg [] W6 W7 := by rw [hX]; exact (Chg.refl _ _).alloc _
        have hbx : W7.heap[n8]? = some (.cells #[.int .i64 3, .int .i64 0, .string ⟨#[36, 47, 99, 97, 110, 99, 101, 108]⟩, .slice none 0 0, .slice none 0 0, .int .i64 5, .int .i64 0, .string ⟨#[]⟩, .slice (some ⟨n2, 0, none⟩) 1 1, .slice (some ⟨n6, 0, none⟩) 1 1] 25 (0, 0)) := by rw [hX, hn]; exact heap_at _ _ _ rfl
        have Hge8 : Hid (mb ≤ n8) := Lib.hid (by have h1 := (HcA.out.trans (HcB.out.trans Hc6.out)).size; have h2 := Hmb.out; omega)
        have Hgt8 : Hid (mb + 1 < n8) := Lib.hid (by have h1 := Hc6.out.size; have h2 := lt_of_obj Hr3.out; omega)
        rw [← hX, ← hn]
        clear hX hn
        have Hc7 := Lib.hid (Hc6.out.trans hcx)
        have Hn0 := Lib.hid ((hcx.block n0 (lt_of_obj Hn0.out) (by simp)).trans Hn0.out)
        have Hn2 := Lib.hid ((hcx.block n2 (lt_of_obj Hn2.out) (by simp)).trans Hn2.out)
        have Hn6 := Lib.hid ((hcx.block n6 (lt_of_obj Hn6.out) (by simp)).trans Hn6.out)
        have Hn8 := Lib.hid hbx
        clear hbx
        have hS := HS.out _ Hc7.out
        refine hK _ _ (fun _ => hS) trivial ?_
        clear hK K hcx
        refine anyU_one (k := 9) (by kernel_rfl) rfl (fun K hK => ?_)
        go_simp
        refine (object_any (some ⟨n0, 0, none⟩) (some ⟨n8, 0, none⟩) 2 2 2 2 W7).mono ?_
        rintro e W8 ⟨rfl, hcx⟩
        have Hc8 := Lib.hid (Hc7.out.trans hcx)
        have Hn0 := Lib.hid ((hcx.block n0 (lt_of_obj Hn0.out) (by simp)).trans Hn0.out)
        have Hn2 := Lib.hid ((hcx.block n2 (lt_of_obj Hn2.out) (by simp)).trans Hn2.out)
        have Hn6 := Lib.hid ((hcx.block n6 (lt_of_obj Hn6.out) (by simp)).trans Hn6.out)
        have Hn8 := Lib.hid ((hcx.block n8 (lt_of_obj Hn8.out) (by simp)).trans Hn8.out)
        have hS := HS.out _ Hc8.out
        refine hK _ _ (fun _ => hS) trivial ?_
        clear hK K hcx
        refine anyU_one (k := 10) (by kernel_rfl) rfl (fun K hK => ?_)
        have hrx := (Hc8.out.block (mb + 1) (lt_of_obj Hr3.out) (by simp)).trans Hr3.out
        obtain ⟨r0, r1, r2, r3, r4⟩ := box_kept (mb + 1) hrx (Chg.refl [] W8)
        have fr := fun i => frozen_of_heap (i := i) hrx
        have lr := lt_of_cell r0
        go_simp
        refine hK _ _ (fun h => by simp at h) trivial ?_
        clear hK K hS
        refine anyU_done (by kernel_rfl) ?_
        go_wp2_with fail
        refine bodyPost_ret (v := .agg #[.int .i64 5, .int .i64 0, .string ⟨#[]⟩, .slice (some ⟨n0, 0, none⟩) 2 2, .slice (some ⟨n8, 0, none⟩) 2 2]) (by simp [results, Tryd.results33, go_sem, r0, r1, r2, r3, r4]) rfl ?_
        have hcs := st5_chg W8 (mb + 1) 0 ⟨5, 0, ⟨#[]⟩, some ⟨n0, 0, none⟩, 2, 2, some ⟨n8, 0, none⟩, 2, 2⟩
        exact toObj5_end ((hcs.block n0 (lt_of_obj Hn0.out) (by have h2 := Hgt0.out; simp; omega)).trans Hn0.out) ((hcs.block n2 (lt_of_obj Hn2.out) (by have h2 := Hgt2.out; simp; omega)).trans Hn2.out) ((hcs.block n6 (lt_of_obj Hn6.out) (by have h2 := Hgt6.out; simp; omega)).trans Hn6.out) ((hcs.block n8 (lt_of_obj Hn8.out) (by have h2 := Hgt8.out; simp; omega)).trans Hn8.out) Hge0.out Hge2.out Hge6.out Hge8.out Hmb.out ((HcA.out.trans (HcB.out.trans Hc8.out)).comp hcs fun g hg => Or.inr (by have := List.mem_singleton.1 hg; have := Hmb.out; omega))
      · skip
        go_simp
        refine (number_any i W2).mono ?_
        rintro e W3 ⟨rfl, hcx⟩
        have Hc3 := Lib.hid (Hc2.out.trans hcx)
        have Hn0 := Lib.hid ((hcx.block n0 (lt_of_obj Hn0.out) (by simp)).trans Hn0.out)
        have hS := HS.out _ Hc3.out
        refine hK _ _ (fun _ => hS) trivial ?_
        clear hK K hcx
        refine anyU_two (k := 2) (k' := 6) (by kernel_rfl) rfl rfl (fun K hK => ?_) (fun K hK => ?_) 
        · skip
          go_simp
          obtain ⟨W4, hX⟩ : ∃ x, x = W3.alloc (.cells #[.string ⟨#[105, 100]⟩] 9) := ⟨_, rfl⟩
          obtain ⟨n2, hn⟩ : ∃ x, x = W3.heap.size := ⟨_, rfl⟩
          have hcx : Chg [] W3 W4 := by rw [hX]; exact (Chg.refl _ _).alloc _
          have hbx : W4.heap[n2]? = some (.cells #[.string ⟨#[105, 100]⟩] 9 (0, 0)) := by rw [hX, hn]; exact heap_at _ _ _ rfl
          have Hge2 : Hid (mb ≤ n2) := Lib.hid (by have h1 := (HcA.out.trans (HcB.out.trans Hc3.out)).size; have h2 := Hmb.out; omega)
          have Hgt2 : Hid (mb + 1 < n2) := Lib.hid (by have h1 := Hc3.out.size; have h2 := lt_of_obj Hr3.out; omega)
          rw [← hX, ← hn]
          clear hX hn
          have Hc4 := Lib.hid (Hc3.out.trans hcx)
          have Hn0 := Lib.hid ((hcx.block n0 (lt_of_obj Hn0.out) (by simp)).trans Hn0.out)
          have Hn2 := Lib.hid hbx
          clear hbx
          have hS := HS.out _ Hc4.out
          refine hK _ _ (fun _ => hS) trivial ?_
          clear hK K hcx
          refine anyU_one (k := 6) (by kernel_rfl) rfl (fun K hK => ?_)
          go_simp
          obtain ⟨W5, hX⟩ : ∃ x, x = W4.alloc (.cells #[.int .i64 2, .int .i64 i, .string ⟨#[]⟩, .slice none 0 0, .slice none 0 0] 25) := ⟨_, rfl⟩
          obtain ⟨n6, hn⟩ : ∃ x, x = W4.heap.size := ⟨_, rfl⟩
          have hcx : Chg [] W4 W5 := by rw [hX]; exact (Chg.refl _ _).alloc _
          have hbx : W5.heap[n6]? = some (.cells #[.int .i64 2, .int .i64 i, .string ⟨#[]⟩, .slice none 0 0, .slice none 0 0] 25 (0, 0)) := by rw [hX, hn]; exact heap_at _ _ _ rfl
          have Hge6 : Hid (mb ≤ n6) := Lib.hid (by have h1 := (HcA.out.trans (HcB.out.trans Hc4.out)).size; have h2 := Hmb.out; omega)
          have Hgt6 : Hid (mb + 1 < n6) := Lib.hid (by have h1 := Hc4.out.size; have h2 := lt_of_obj Hr3.out; omega)
          rw [← hX, ← hn]
          clear hX hn
          have Hc5 := Lib.hid (Hc4.out.trans hcx)
          have Hn0 := Lib.hid ((hcx.block n0 (lt_of_obj Hn0.out) (by simp)).trans Hn0.out)
          have Hn2 := Lib.hid ((hcx.block n2 (lt_of_obj Hn2.out) (by simp)).trans Hn2.out)
          have Hn6 := Lib.hid hbx
          clear hbx
          have hS := HS.out _ Hc5.out
          refine hK _ _ (fun _ => hS) trivial ?_
          clear hK K hcx
          refine anyU_one (k := 7) (by kernel_rfl) rfl (fun K hK => ?_)
          go_simp
          refine (object_any (some ⟨n2, 0, none⟩) (some ⟨n6, 0, none⟩) 1 1 1 1 W5).mono ?_
          rintro e W6 ⟨rfl, hcx⟩
          have Hc6 := Lib.hid (Hc5.out.trans hcx)
          have Hn0 := Lib.hid ((hcx.block n0 (lt_of_obj Hn0.out) (by simp)).trans Hn0.out)
          have Hn2 := Lib.hid ((hcx.block n2 (lt_of_obj Hn2.out) (by simp)).trans Hn2.out)
          have Hn6 := Lib.hid ((hcx.block n6 (lt_of_obj Hn6.out) (by simp)).trans Hn6.out)
          have hS := HS.out _ Hc6.out
          refine hK _ _ (fun _ => hS) trivial ?_
          clear hK K hcx
          refine anyU_one (k := 8) (by kernel_rfl) rfl (fun K hK => ?_)
          go_simp
          obtain ⟨W7, hX⟩ : ∃ x, x = W6.alloc (.cells #[.int .i64 3, .int .i64 0, .string ⟨#[36, 47, 99, 97, 110, 99, 101, 108]⟩, .slice none 0 0, .slice none 0 0, .int .i64 5, .int .i64 0, .string ⟨#[]⟩, .slice (some ⟨n2, 0, none⟩) 1 1, .slice (some ⟨n6, 0, none⟩) 1 1] 25) := ⟨_, rfl⟩
          obtain ⟨n8, hn⟩ : ∃ x, x = W6.heap.size := ⟨_, rfl⟩
          have hcx : Chg [] W6 W7 := by rw [hX]; exact (Chg.refl _ _).alloc _
          have hbx : W7.heap[n8]? = some (.cells #[.int .i64 3, .int .i64 0, .string ⟨#[36, 47, 99, 97, 110, 99, 101, 108]⟩, .slice none 0 0, .slice none 0 0, .int .i64 5, .int .i64 0, .string ⟨#[]⟩, .slice (some ⟨n2, 0, none⟩) 1 1, .slice (some ⟨n6, 0, none⟩) 1 1] 25 (0, 0)) := by rw [hX, hn]; exact heap_at _ _ _ rfl
          have Hge8 : Hid (mb ≤ n8) := Lib.hid (by have h1 := (HcA.out.trans (HcB.out.trans Hc6.out)).size; have h2 := Hmb.out; omega)
          have Hgt8 : Hid (mb + 1 < n8) := Lib.hid (by have h1 := Hc6.out.size; have h2 := lt_of_obj Hr3.out; omega)
          rw [← hX, ← hn]
          clear hX hn
          have Hc7 := Lib.hid (Hc6.out.trans hcx)
          have Hn0 := Lib.hid ((hcx.block n0 (lt_of_obj Hn0.out) (by simp)).trans Hn0.out)
          have Hn2 := Lib.hid ((hcx.block n2 (lt_of_obj Hn2.out) (by simp)).trans Hn2.out)
          have Hn6 := Lib.hid ((hcx.block n6 (lt_of_obj Hn6.out) (by simp)).trans Hn6.out)
          have Hn8 := Lib.hid hbx
          clear hbx
          have hS := HS.out _ Hc7.out
          refine hK _ _ (fun _ => hS) trivial ?_
          clear hK K hcx
          refine anyU_one (k := 9) (by kernel_rfl) rfl (fun K hK => ?_)
          go_simp
          refine (object_any (some ⟨n0, 0, none⟩) (some ⟨n8, 0, none⟩) 2 2 2 2 W7).mono ?_
          rintro e W8 ⟨rfl, hcx⟩
          have Hc8 := Lib.hid (Hc7.out.trans hcx)
          have Hn0 := Lib.hid ((hcx.block n0 (lt_of_obj Hn0.out) (by simp)).trans Hn0.out)
          have Hn2 := Lib.hid ((hcx.block n2 (lt_of_obj Hn2.out) (by simp)).trans Hn2.out)
          have Hn6 := Lib.hid ((hcx.block n6 (lt_of_obj Hn6.out) (by simp)).trans Hn6.out)
          have Hn8 := Lib.hid ((hcx.block n8 (lt_of_obj Hn8.out) (by simp)).trans Hn8.out)
          have hS := HS.out _ Hc8.out
          refine hK _ _ (fun _ => hS) trivial ?_
          clear hK K hcx
          refine anyU_one (k := 10) (by kernel_rfl) rfl (fun K hK => ?_)
          have hrx := (Hc8.out.block (mb + 1) (lt_of_obj Hr3.out) (by simp)).trans Hr3.out
          obtain ⟨r0, r1, r2, r3, r4⟩ := box_kept (mb + 1) hrx (Chg.refl [] W8)
          have fr := fun i => frozen_of_heap (i := i) hrx
          have lr := lt_of_cell r0
          go_simp
          refine hK _ _ (fun h => by simp at h) trivial ?_
          clear hK K hS
          refine anyU_done (by kernel_rfl) ?_
          go_wp2_with fail
          refine bodyPost_ret (v := .agg #[.int .i64 5, .int .i64 0, .string ⟨#[]⟩, .slice (some ⟨n0, 0, none⟩) 2 2, .slice (some ⟨n8, 0, none⟩) 2 2]) (by simp [results, Tryd.results33, go_sem, r0, r1, r2, r3, r4]) rfl ?_
          have hcs := st5_chg W8 (mb + 1) 0 ⟨5, 0, ⟨#[]⟩, some ⟨n0, 0, none⟩, 2, 2, some ⟨n8, 0, none⟩, 2, 2⟩
          exact toObj5_end ((hcs.block n0 (lt_of_obj Hn0.out) (by have h2 := Hgt0.out; simp; omega)).trans Hn0.out) ((hcs.block n2 (lt_of_obj Hn2.out) (by have h2 := Hgt2.out; simp; omega)).trans Hn2.out) ((hcs.block n6 (lt_of_obj Hn6.out) (by have h2 := Hgt6.out; simp; omega)).trans Hn6.out) ((hcs.block n8 (lt_of_obj Hn8.out) (by have h2 := Hgt8.out; simp; omega)).trans Hn8.out) Hge0.out Hge2.out Hge6.out Hge8.out Hmb.out ((HcA.out.trans (HcB.out.trans Hc8.out)).comp hcs fun g hg => Or.inr (by have := List.mem_singleton.1 hg; have := Hmb.out; omega))
        · skip
          go_simp
          obtain ⟨W4, hX⟩ : ∃ x, x = W3.alloc (.cells #[.int .i64 2, .int .i64 i, .string ⟨#[]⟩, .slice none 0 0, .slice none 0 0] 25) := ⟨_, rfl⟩
          obtain ⟨n6, hn⟩ : ∃ x, x = W3.heap.size := ⟨_, rfl⟩
          have hcx : Chg [] W3 W4 := by rw [hX]; exact (Chg.refl _ _).alloc _
          have hbx : W4.heap[n6]? = some (.cells #[.int .i64 2, .int .i64 i, .string ⟨#[]⟩, .slice none 0 0, .slice none 0 0] 25 (0, 0)) := by rw [hX, hn]; exact heap_at _ _ _ rfl
          have Hge6 : Hid (mb ≤ n6) := Lib.hid (by have h1 := (HcA.out.trans (HcB.out.trans Hc3.out)).size; have h2 := Hmb.out; omega)
          have Hgt6 : Hid (mb + 1 < n6) := Lib.hid (by have h1 := Hc3.out.size; have h2 := lt_of_obj Hr3.out; omega)
          rw [← hX, ← hn]
          clear hX hn
          have Hc4 := Lib.hid (Hc3.out.trans hcx)
          have Hn0 := Lib.hid ((hcx.block n0 (lt_of_obj Hn0.out) (by simp)).trans Hn0.out)
          have Hn6 := Lib.hid hbx
          clear hbx
          have hS := HS.out _ Hc4.out
          refine hK _ _ (fun _ => hS) trivial ?_
          clear hK K hcx
          refine anyU_one (k := 2) (by kernel_rfl) rfl (fun K hK => ?_)
          go_simp
          obtain ⟨W5, hX⟩ : ∃ x, x = W4.alloc (.cells #[.string ⟨#[105, 100]⟩] 9) := ⟨_, rfl⟩
          obtain ⟨n2, hn⟩ : ∃ x, x = W4.heap.size := ⟨_, rfl⟩
          have hcx : Chg [] W4 W5 := by rw [hX]; exact (Chg.refl _ _).alloc _
          have hbx : W5.heap[n2]? = some (.cells #[.string ⟨#[105, 100]⟩] 9 (0, 0)) := by rw [hX, hn]; exact heap_at _ _ _ rfl
          have Hge2 : Hid (mb ≤ n2) := Lib.hid (by have h1 := (HcA.out.trans (HcB.out.trans Hc4.out)).size; have h2 := Hmb.out; omega)
          have Hgt2 : Hid (mb + 1 < n2) := Lib.hid (by have h1 := Hc4.out.size; have h2 := lt_of_obj Hr3.out; omega)
          rw [← hX, ← hn]
          clear hX hn
          have Hc5 := Lib.hid (Hc4.out.trans hcx)
          have Hn0 := Lib.hid ((hcx.block n0 (lt_of_obj Hn0.out) (by simp)).trans Hn0.out)
          have Hn6 := Lib.hid ((hcx.block n6 (lt_of_obj Hn6.out) (by simp)).trans Hn6.out)
          have Hn2 := Lib.hid hbx
          clear hbx
          have hS := HS.out _ Hc5.out
          refine hK _ _ (fun _ => hS) trivial ?_
          clear hK K hcx
          refine anyU_one (k := 7) (by kernel_rfl) rfl (fun K hK => ?_)
          go_simp
          refine (object_any (some ⟨n2, 0, none⟩) (some ⟨n6, 0, none⟩) 1 1 1 1 W5).mono ?_
          rintro e W6 ⟨rfl, hcx⟩
          have Hc6 := Lib.hid (Hc5.out.trans hcx)
          have Hn0 := Lib.hid ((hcx.block n0 (lt_of_obj Hn0.out) (by simp)).trans Hn0.out)
          have Hn6 := Lib.hid ((hcx.block n6 (lt_of_obj Hn6.out) (by simp)).trans Hn6.out)
          have Hn2 := Lib.hid ((hcx.block n2 (lt_of_obj Hn2.out) (by simp)).trans Hn2.out)
          have hS := HS.out _ Hc6.out
          refine hK _ _ (fun _ => hS) trivial ?_
          clear hK K hcx
          refine anyU_one (k := 8) (by kernel_rfl) rfl (fun K hK => ?_)
          go_simp
          obtain ⟨W7, hX⟩ : ∃ x, x = W6.alloc (.cells #[.int .i64 3, .int .i64 0, .string ⟨#[36, 47, 99, 97, 110, 99, 101, 108]⟩, .slice none 0 0, .slice none 0 0, .int .i64 5, .int .i64 0, .string ⟨#[]⟩, .slice (some ⟨n2, 0, none⟩) 1 1, .slice (some ⟨n6, 0, none⟩) 1 1] 25) := ⟨_, rfl⟩
          obtain ⟨n8, hn⟩ : ∃ x, x = W6.heap.size := ⟨_, rfl⟩
          have hcx : Chg [] W6 W7 := by rw [hX]; exact (Chg.refl _ _).alloc _
          have hbx : W7.heap[n8]? = some (.cells #[.int .i64 3, .int .i64 0, .string ⟨#[36, 47, 99, 97, 110, 99, 101, 108]⟩, .slice none 0 0, .slice none 0 0, .int .i64 5, .int .i64 0, .string ⟨#[]⟩, .slice (some ⟨n2, 0, none⟩) 1 1, .slice (some ⟨n6, 0, none⟩) 1 1] 25 (0, 0)) := by rw [hX, hn]; exact heap_at _ _ _ rfl
          have Hge8 : Hid (mb ≤ n8) := Lib.hid (by have h1 := (HcA.out.trans (HcB.out.trans Hc6.out)).size; have h2 := Hmb.out; omega)
          have Hgt8 : Hid (mb + 1 < n8) := Lib.hid (by have h1 := Hc6.out.size; have h2 := lt_of_obj Hr3.out; omega)
          rw [← hX, ← hn]
          clear hX hn
          have Hc7 := Lib.hid (Hc6.out.trans hcx)
          have Hn0 := Lib.hid ((hcx.block n0 (lt_of_obj Hn0.out) (by simp)).trans Hn0.out)
          have Hn6 := Lib.hid ((hcx.block n6 (lt_of_obj Hn6.out) (by simp)).trans Hn6.out)
          have Hn2 := Lib.hid ((hcx.block n2 (lt_of_obj Hn2.out) (by simp)).trans Hn2.out)
          have Hn8 := Lib.hid hbx
          clear hbx
          have hS := HS.out _ Hc7.out
          refine hK _ _ (fun _ => hS) trivial ?_
          clear hK K hcx
          refine anyU_one (k := 9) (by kernel_rfl) rfl (fun K hK => ?_)
          go_simp
          refine (object_any (some ⟨n0, 0, none⟩) (some ⟨n8, 0, none⟩) 2 2 2 2 W7).mono ?_
          rintro e W8 ⟨rfl, hcx⟩
          have Hc8 := Lib.hid (Hc7.out.trans hcx)
          have Hn0 := Lib.hid ((hcx.block n0 (lt_of_obj Hn0.out) (by simp)).trans Hn0.out)
          have Hn6 := Lib.hid ((hcx.block n6 (lt_of_obj Hn6.out) (by simp)).trans Hn6.out)
          have Hn2 := Lib.hid ((hcx.block n2 (lt_of_obj Hn2.out) (by simp)).trans Hn2.out)
          have Hn8 := Lib.hid ((hcx.block n8 (lt_of_obj Hn8.out) (by simp)).trans Hn8.out)
          have hS := HS.out _ Hc8.out
          refine hK _ _ (fun _ => hS) trivial ?_
          clear hK K hcx
          refine anyU_one (k := 10) (by kernel_rfl) rfl (fun K hK => ?_)
          have hrx := (Hc8.out.block (mb + 1) (lt_of_obj Hr3.out) (by simp)).trans Hr3.out
          obtain ⟨r0, r1, r2, r3, r4⟩ := box_kept (mb + 1) hrx (Chg.refl [] W8)
          have fr := fun i => frozen_of_heap (i := i) hrx
          have lr := lt_of_cell r0
          go_simp
          refine hK _ _ (fun h => by simp at h) trivial ?_
          clear hK K hS
          refine anyU_done (by kernel_rfl) ?_
          go_wp2_with fail
          refine bodyPost_ret (v := .agg #[.int .i64 5, .int .i64 0, .string ⟨#[]⟩, .slice (some ⟨n0, 0, none⟩) 2 2, .slice (some ⟨n8, 0, none⟩) 2 2]) (by simp [results, Tryd.results33, go_sem, r0, r1, r2, r3, r4]) rfl ?_
          have hcs := st5_chg W8 (mb + 1) 0 ⟨5, 0, ⟨#[]⟩, some ⟨n0, 0, none⟩, 2, 2, some ⟨n8, 0, none⟩, 2, 2⟩
          exact toObj5_end ((hcs.block n0 (lt_of_obj Hn0.out) (by have h2 := Hgt0.out; simp; omega)).trans Hn0.out) ((hcs.block n2 (lt_of_obj Hn2.out) (by have h2 := Hgt2.out; simp; omega)).trans Hn2.out) ((hcs.block n6 (lt_of_obj Hn6.out) (by have h2 := Hgt6.out; simp; omega)).trans Hn6.out) ((hcs.block n8 (lt_of_obj Hn8.out) (by have h2 := Hgt8.out; simp; omega)).trans Hn8.out) Hge0.out Hge2.out Hge6.out Hge8.out Hmb.out ((HcA.out.trans (HcB.out.trans Hc8.out)).comp hcs fun g hg => Or.inr (by have := List.mem_singleton.1 hg; have := Hmb.out; omega))
    · skip
      go_simp
      obtain ⟨W2, hX⟩ : ∃ x, x = W1.alloc (.cells #[.string ⟨#[105, 100]⟩] 9) := ⟨_, rfl⟩
      obtain ⟨n2, hn⟩ : ∃ x, x = W1.heap.size := ⟨_, rfl⟩
      have hcx : Chg [] W1 W2 := by rw [hX]; exact (Chg.refl _ _).alloc _
      have hbx : W2.heap[n2]? = some (.cells #[.string ⟨#[105, 100]⟩] 9 (0, 0)) := by rw [hX, hn]; exact heap_at _ _ _ rfl
      have Hge2 : Hid (mb ≤ n2) := Lib.hid (by have h1 := (HcA.out.trans (HcB.out.trans Hc1.out)).size; have h2 := Hmb.out; omega)
      have Hgt2 : Hid (mb + 1 < n2) := Lib.hid (by have h1 := Hc1.out.size; have h2 := lt_of_obj Hr3.out; omega)
      rw [← hX, ← hn]
      clear hX hn
      have Hc2 := Lib.hid (Hc1.out.trans hcx)
      have Hn0 := Lib.hid ((hcx.block n0 (lt_of_obj Hn0.out) (by simp)).trans Hn0.out)
      have Hn2 := Lib.hid hbx
      clear hbx
      have hS := HS.out _ Hc2.out
      refine hK _ _ (fun _ => hS) trivial ?_
      clear hK K hcx
      refine anyU_one (k := 1) (by kernel_rfl) rfl (fun K hK => ?_)
      go_simp
      refine (textV_any ⟨#[36, 47, 99, 97, 110, 99, 101, 108]⟩ W2).mono ?_
      rintro e W3 ⟨rfl, hcx⟩
      have Hc3 := Lib.hid (Hc2.out.trans hcx)
      have Hn0 := Lib.hid ((hcx.block n0 (lt_of_obj Hn0.out) (by simp)).trans Hn0.out)
      have Hn2 := Lib.hid ((hcx.block n2 (lt_of_obj Hn2.out) (by simp)).trans Hn2.out)
      have hS := HS.out _ Hc3.out
      refine hK _ _ (fun _ => hS) trivial ?_
      clear hK K hcx
      refine anyU_one (k := 5) (by kernel_rfl) rfl (fun K hK => ?_)
      go_simp
      refine (number_any i W3).mono ?_
      rintro e W4 ⟨rfl, hcx⟩
      have Hc4 := Lib.hid (Hc3.out.trans hcx)
      have Hn0 := Lib.hid ((hcx.block n0 (lt_of_obj Hn0.out) (by simp)).trans Hn0.out)
      have Hn2 := Lib.hid ((hcx.block n2 (lt_of_obj Hn2.out) (by simp)).trans Hn2.out)
      have hS := HS.out _ Hc4.out
      refine hK _ _ (fun _ => hS) trivial ?_
      clear hK K hcx
      refine anyU_one (k := 6) (by kernel_rfl) rfl (fun K hK => ?_)
      go_simp
      obtain ⟨W5, hX⟩ : ∃ x, x = W4.alloc (.cells #[.int .i64 2, .int .i64 i, .string ⟨#[]⟩, .slice none 0 0, .slice none 0 0] 25) := ⟨_, rfl⟩
      obtain ⟨n6, hn⟩ : ∃ x, x = W4.heap.size := ⟨_, rfl⟩
      have hcx : Chg [] W4 W5 := by rw [hX]; exact (Chg.refl _ _).alloc _
      have hbx : W5.heap[n6]? = some (.cells #[.int .i64 2, .int .i64 i, .string ⟨#[]⟩, .slice none 0 0, .slice none 0 0] 25 (0, 0)) := by rw [hX, hn]; exact heap_at _ _ _ rfl
      have Hge6 : Hid (mb ≤ n6) := Lib.hid (by have h1 := (HcA.out.trans (HcB.out.trans Hc4.out)).size; have h2 := Hmb.out; omega)
      have Hgt6 : Hid (mb + 1 < n6) := Lib.hid (by have h1 := Hc4.out.size; have h2 := lt_of_obj Hr3.out; omega)
      rw [← hX, ← hn]
      clear hX hn
      have Hc5 := Lib.hid (Hc4.out.trans hcx)
      have Hn0 := Lib.hid ((hcx.block n0 (lt_of_obj Hn0.out) (by simp)).trans Hn0.out)
      have Hn2 := Lib.hid ((hcx.block n2 (lt_of_obj Hn2.out) (by simp)).trans Hn2.out)
      have Hn6 := Lib.hid hbx
      clear hbx
      have hS := HS.out _ Hc5.out
      refine hK _ _ (fun _ => hS) trivial ?_
      clear hK K hcx
      refine anyU_one (k := 7) (by kernel_rfl) rfl (fun K hK => ?_)
      go_simp
      refine (object_any (some ⟨n2, 0, none⟩) (some ⟨n6, 0, none⟩) 1 1 1 1 W5).mono ?_
      rintro e W6 ⟨rfl, hcx⟩
      have Hc6 := Lib.hid (Hc5.out.trans hcx)
      have Hn0 := Lib.hid ((hcx.block n0 (lt_of_obj Hn0.out) (by simp)).trans Hn0.out)
      have Hn2 := Lib.hid ((hcx.block n2 (lt_of_obj Hn2.out) (by simp)).trans Hn2.out)
      have Hn6 := Lib.hid ((hcx.block n6 (lt_of_obj Hn6.out) (by simp)).trans Hn6.out)
      have hS := HS.out _ Hc6.out
      refine hK _ _ (fun _ => hS) trivial ?_
      clear hK K hcx
      refine anyU_one (k := 8) (by kernel_rfl) rfl (fun K hK => ?_)
      go_simp
      obtain ⟨W7, hX⟩ : ∃ x, x = W6.alloc (.cells #[.int .i64 3, .int .i64 0, .string ⟨#[36, 47, 99, 97, 110, 99, 101, 108]⟩, .slice none 0 0, .slice none 0 0, .int .i64 5, .int .i64 0, .string ⟨#[]⟩, .slice (some ⟨n2, 0, none⟩) 1 1, .slice (some ⟨n6, 0, none⟩) 1 1] 25) := ⟨_, rfl⟩
      obtain ⟨n8, hn⟩ : ∃ x, x = W6.heap.size := ⟨_, rfl⟩
      have hcx : Chg [] W6 W7 := by rw [hX]; exact (Chg.refl _ _).alloc _
      have hbx : W7.heap[n8]? = some (.cells #[.int .i64 3, .int .i64 0, .string ⟨#[36, 47, 99, 97, 110, 99, 101, 108]⟩, .slice none 0 0, .slice none 0 0, .int .i64 5, .int .i64 0, .string ⟨#[]⟩, .slice (some ⟨n2, 0, none⟩) 1 1, .slice (some ⟨n6, 0, none⟩) 1 1] 25 (0, 0)) := by rw [hX, hn]; exact heap_at _ _ _ rfl
      have Hge8 : Hid (mb ≤ n8) := Lib.hid (by have h1 := (HcA.out.trans (HcB.out.trans Hc6.out)).size; have h2 := Hmb.out; omega)
      have Hgt8 : Hid (mb + 1 < n8) := Lib.hid (by have h1 := Hc6.out.size; have h2 := lt_of_obj Hr3.out; omega)
      rw [← hX, ← hn]
      clear hX hn
      have Hc7 := Lib.hid (Hc6.out.trans hcx)
      have Hn0 := Lib.hid ((hcx.block n0 (lt_of_obj Hn0.out) (by simp)).trans Hn0.out)
      have Hn2 := Lib.hid ((hcx.block n2 (lt_of_obj Hn2.out) (by simp)).trans Hn2.out)
      have Hn6 := Lib.hid ((hcx.block n6 (lt_of_obj Hn6.out) (by simp)).trans Hn6.out)
      have Hn8 := Lib.hid hbx
      clear hbx
      have hS := HS.out _ Hc7.out
      refine hK _ _ (fun _ => hS) trivial ?_
      clear hK K hcx
      refine anyU_one (k := 9) (by kernel_rfl) rfl (fun K hK => ?_)
      go_simp
      refine (object_any (some ⟨n0, 0, none⟩) (some ⟨n8, 0, none⟩) 2 2 2 2 W7).mono ?_
      rintro e W8 ⟨rfl, hcx⟩
      have Hc8 := Lib.hid (Hc7.out.trans hcx)
      have Hn0 := Lib.hid ((hcx.block n0 (lt_of_obj Hn0.out) (by simp)).trans Hn0.out)
      have Hn2 := Lib.hid ((hcx.block n2 (lt_of_obj Hn2.out) (by simp)).trans Hn2.out)
      have Hn6 := Lib.hid ((hcx.block n6 (lt_of_obj Hn6.out) (by simp)).trans Hn6.out)
      have Hn8 := Lib.hid ((hcx.block n8 (lt_of_obj Hn8.out) (by simp)).trans Hn8.out)
      have hS := HS.out _ Hc8.out
      refine hK _ _ (fun _ => hS) trivial ?_
      clear hK K hcx
      refine anyU_one (k := 10) (by kernel_rfl) rfl (fun K hK => ?_)
      have hrx := (Hc8.out.block (mb + 1) (lt_of_obj Hr3.out) (by simp)).trans Hr3.out
      obtain ⟨r0, r1, r2, r3, r4⟩ := box_kept (mb + 1) hrx (Chg.refl [] W8)
      have fr := fun i => frozen_of_heap (i := i) hrx
      have lr := lt_of_cell r0
      go_simp
      refine hK _ _ (fun h => by simp at h) trivial ?_
      clear hK K hS
      refine anyU_done (by kernel_rfl) ?_
      go_wp2_with fail
      refine bodyPost_ret (v := .agg #[.int .i64 5, .int .i64 0, .string ⟨#[]⟩, .slice (some ⟨n0, 0, none⟩) 2 2, .slice (some ⟨n8, 0, none⟩) 2 2]) (by simp [results, Tryd.results33, go_sem, r0, r1, r2, r3, r4]) rfl ?_
      have hcs := st5_chg W8 (mb + 1) 0 ⟨5, 0, ⟨#[]⟩, some ⟨n0, 0, none⟩, 2, 2, some ⟨n8, 0, none⟩, 2, 2⟩
      exact toObj5_end ((hcs.block n0 (lt_of_obj Hn0.out) (by have h2 := Hgt0.out; simp; omega)).trans Hn0.out) ((hcs.block n2 (lt_of_obj Hn2.out) (by have h2 := Hgt2.out; simp; omega)).trans Hn2.out) ((hcs.block n6 (lt_of_obj Hn6.out) (by have h2 := Hgt6.out; simp; omega)).trans Hn6.out) ((hcs.block n8 (lt_of_obj Hn8.out) (by have h2 := Hgt8.out; simp; omega)).trans Hn8.out) Hge0.out Hge2.out Hge6.out Hge8.out Hmb.out ((HcA.out.trans (HcB.out.trans Hc8.out)).comp hcs fun g hg => Or.inr (by have := List.mem_singleton.1 hg; have := Hmb.out; omega))
  · skip
    go_simp
    refine (textV_any ⟨#[36, 47, 99, 97, 110, 99, 101, 108]⟩ W0).mono ?_
    rintro e W1 ⟨rfl, hcx⟩
    have Hc1 := Lib.hid (Hc0.out.trans hcx)
    have hS := HS.out _ Hc1.out
    refine hK _ _ (fun _ => hS) trivial ?_
    clear hK K hcx
    refine anyU_three (k := 0) (k' := 2) (k'' := 5) (by kernel_rfl) rfl rfl rfl (fun K hK => ?_) (fun K hK => ?_) (fun K hK => ?_) 
    · skip
      go_simp
      obtain ⟨W2, hX⟩ : ∃ x, x = W1.alloc (.cells #[.string ⟨#[109, 101, 116, 104, 111, 100]⟩, .string ⟨#[112, 97, 114, 97, 109, 115]⟩] 9) := ⟨_, rfl⟩
      obtain ⟨n0, hn⟩ : ∃ x, x = W1.heap.size := ⟨_, rfl⟩
      have hcx : Chg [] W1 W2 := by rw [hX]; exact (Chg.refl _ _).alloc _
      have hbx : W2.heap[n0]? = some (.cells #[.string ⟨#[109, 101, 116, 104, 111, 100]⟩, .string ⟨#[112, 97, 114, 97, 109, 115]⟩] 9 (0, 0)) := by rw [hX, hn]; exact heap_at _ _ _ rfl
      have Hge0 : Hid (mb ≤ n0) := Lib.hid (by have h1 := (HcA.out.trans (HcB.out.trans Hc1.out)).size; have h2 := Hmb.out; omega)
      have Hgt0 : Hid (mb + 1 < n0) := Lib.hid (by have h1 := Hc1.out.size; have h2 := lt_of_obj Hr3.out; omega)
      rw [← hX, ← hn]
      clear hX hn
      have Hc2 := Lib.hid (Hc1.out.trans hcx)
      have Hn0 := Lib.hid hbx
      clear hbx
      have hS := HS.out _ Hc2.out
      refine hK _ _ (fun _ => hS) trivial ?_
      clear hK K hcx
      refine anyU_two (k := 2) (k' := 5) (by kernel_rfl) rfl rfl (fun K hK => ?_) (fun K hK => ?_) 
      · skip
        go_simp
        obtain ⟨W3, hX⟩ : ∃ x, x = W2.alloc (.cells #[.string ⟨#[105, 100]⟩] 9) := ⟨_, rfl⟩
        obtain ⟨n2, hn⟩ : ∃ x, x = W2.heap.size := ⟨_, rfl⟩
        have hcx : Chg [] W2 W3 := by rw [hX]; exact (Chg.refl _ _).alloc _
        have hbx : W3.heap[n2]? = some (.cells #[.string ⟨#[105, 100]⟩] 9 (0, 0)) := by rw [hX, hn]; exact heap_at _ _ _ rfl
        have Hge2 : Hid (mb ≤ n2) := Lib.hid (by have h1 := (HcA.out.trans (HcB.out.trans Hc2.out)).size; have h2 := Hmb.out; omega)
        have Hgt2 : Hid (mb + 1 < n2) := Lib.hid (by have h1 := Hc2.out.size; have h2 := lt_of_obj Hr3.out; omega)
        rw [← hX, ← hn]
        clear hX hn
        have Hc3 := Lib.hid (Hc2.out.trans hcx)
        have Hn0 := Lib.hid ((hcx.block n0 (lt_of_obj Hn0.out) (by simp)).trans Hn0.out)
        have Hn2 := Lib.hid hbx
        clear hbx
        have hS := HS.out _ Hc3.out
        refine hK _ _ (fun _ => hS) trivial ?_
        clear hK K hcx
        refine anyU_one (k := 5) (by kernel_rfl) rfl (fun K hK => ?_)
        go_simp
        refine (number_any i W3).mono ?_
        rintro e W4 ⟨rfl, hcx⟩
        have Hc4 := Lib.hid (Hc3.out.trans hcx)
        have Hn0 := Lib.hid ((hcx.block n0 (lt_of_obj Hn0.out) (by simp)).trans Hn0.out)
        have Hn2 := Lib.hid ((hcx.block n2 (lt_of_obj Hn2.out) (by simp)).trans Hn2.out)
        have hS := HS.out _ Hc4.out
        refine hK _ _ (fun _ => hS) trivial ?_
        clear hK K hcx
        refine anyU_one (k := 6) (by kernel_rfl) rfl (fun K hK => ?_)
        go_simp
        obtain ⟨W5, hX⟩ : ∃ x, x = W4.alloc (.cells #[.int .i64 2, .int .i64 i, .string ⟨#[]⟩, .slice none 0 0, .slice none 0 0] 25) := ⟨_, rfl⟩
        obtain ⟨n6, hn⟩ : ∃ x, x = W4.heap.size := ⟨_, rfl⟩
        have hcx : Chg [] W4 W5 := by rw [hX]; exact (Chg.refl _ _).alloc _
        have hbx : W5.heap[n6]? = some (.cells #[.int .i64 2, .int .i64 i, .string ⟨#[]⟩, .slice none 0 0, .slice none 0 0] 25 (0, 0)) := by rw [hX, hn]; exact heap_at _ _ _ rfl
        have Hge6 : Hid (mb ≤ n6) := Lib.hid (by have h1 := (HcA.out.trans (HcB.out.trans Hc4.out)).size; have h2 := Hmb.out; omega)
        have Hgt6 : Hid (mb + 1 < n6) := Lib.hid (by have h1 := Hc4.out.size; have h2 := lt_of_obj Hr3.out; omega)
        rw [← hX, ← hn]
        clear hX hn
        have Hc5 := Lib.hid (Hc4.out.trans hcx)
        have Hn0 := Lib.hid ((hcx.block n0 (lt_of_obj Hn0.out) (by simp)).trans Hn0.out)
        have Hn2 := Lib.hid ((hcx.block n2 (lt_of_obj Hn2.out) (by simp)).trans Hn2.out)
        have Hn6 := Lib.hid hbx
        clear hbx
        have hS := HS.out _ Hc5.out
        refine hK _ _ (fun _ => hS) trivial ?_
        clear hK K hcx
        refine anyU_one (k := 7) (by kernel_rfl) rfl (fun K hK => ?_)
        go_simp
        refine (object_any (some ⟨n2, 0, none⟩) (some ⟨n6, 0, none⟩) 1 1 1 1 W5).mono ?_
        rintro e W6 ⟨rfl, hcx⟩
        have Hc6 := Lib.hid (Hc5.out.trans hcx)
        have Hn0 := Lib.hid ((hcx.block n0 (lt_of_obj Hn0.out) (by simp)).trans Hn0.out)
        have Hn2 := Lib.hid ((hcx.block n2 (lt_of_obj Hn2.out) (by simp)).trans Hn2.out)
        have Hn6 := Lib.hid ((hcx.block n6 (lt_of_obj Hn6.out) (by simp)).trans Hn6.out)
        have hS := HS.out _ Hc6.out
        refine hK _ _ (fun _ => hS) trivial ?_
        clear hK K hcx
        refine anyU_one (k := 8) (by kernel_rfl) rfl (fun K hK => ?_)
        go_simp
        obtain ⟨W7, hX⟩ : ∃ x, x = W6.alloc (.cells #[.int .i64 3, .int .i64 0, .string ⟨#[36, 47, 99, 97, 110, 99, 101, 108]⟩, .slice none 0 0, .slice none 0 0, .int .i64 5, .int .i64 0, .string ⟨#[]⟩, .slice (some ⟨n2, 0, none⟩) 1 1, .slice (some ⟨n6, 0, none⟩) 1 1] 25) := ⟨_, rfl⟩
        obtain ⟨n8, hn⟩ : ∃ x, x = W6.heap.size := ⟨_, rfl⟩
        have hcx : Chg [] W6 W7 := by rw [hX]; exact (Chg.refl _ _).alloc _
        have hbx : W7.heap[n8]? = some (.cells #[.int .i64 3, .int .i64 0, .string ⟨#[36, 47, 99, 97, 110, 99, 101, 108]⟩, .slice none 0 0, .slice none 0 0, .int .i64 5, .int .i64 0, .string ⟨#[]⟩, .slice (some ⟨n2, 0, none⟩) 1 1, .slice (some ⟨n6, 0, none⟩) 1 1] 25 (0, 0)) := by rw [hX, hn]; exact heap_at _ _ _ rfl
        have Hge8 : Hid (mb ≤ n8) := Lib.hid (by have h1 := (HcA.out.trans (HcB.out.trans Hc6.out)).size; have h2 := Hmb.out; omega)
        have Hgt8 : Hid (mb + 1 < n8) := Lib.hid (by have h1 := Hc6.out.size; have h2 := lt_of_obj Hr3.out; omega)
        rw [← hX, ← hn]
        clear hX hn
        have Hc7 := Lib.hid (Hc6.out.trans hcx)
        have Hn0 := Lib.hid ((hcx.block n0 (lt_of_obj Hn0.out) (by simp)).trans Hn0.out)
        have Hn2 := Lib.hid ((hcx.block n2 (lt_of_obj Hn2.out) (by simp)).trans Hn2.out)
        have Hn6 := Lib.hid ((hcx.block n6 (lt_of_obj Hn6.out) (by simp)).trans Hn6.out)
        have Hn8 := Lib.hid hbx
        clear hbx
        have hS := HS.out _ Hc7.out
        refine hK _ _ (fun _ => hS) trivial ?_
        clear hK K hcx
        refine anyU_one (k := 9) (by kernel_rfl) rfl (fun K hK => ?_)
        go_simp
        refine (object_any (some ⟨n0, 0, none⟩) (some ⟨n8, 0, none⟩) 2 2 2 2 W7).mono ?_
        rintro e W8 ⟨rfl, hcx⟩
        have Hc8 := Lib.hid (Hc7.out.trans hcx)
        have Hn0 := Lib.hid ((hcx.block n0 (lt_of_obj Hn0.out) (by simp)).trans Hn0.out)
        have Hn2 := Lib.hid ((hcx.block n2 (lt_of_obj Hn2.out) (by simp)).trans Hn2.out)
        have Hn6 := Lib.hid ((hcx.block n6 (lt_of_obj Hn6.out) (by simp)).trans Hn6.out)
        have Hn8 := Lib.hid ((hcx.block n8 (lt_of_obj Hn8.out) (by simp)).trans Hn8.out)
        have hS := HS.out _ Hc8.out
        refine hK _ _ (fun _ => hS) trivial ?_
        clear hK K hcx
        refine anyU_one (k := 10) (by kernel_rfl) rfl (fun K hK => ?_)
        have hrx := (Hc8.out.block (mb + 1) (lt_of_obj Hr3.out) (by simp)).trans Hr3.out
        obtain ⟨r0, r1, r2, r3, r4⟩ := box_kept (mb + 1) hrx (Chg.refl [] W8)
        have fr := fun i => frozen_of_heap (i := i) hrx
        have lr := lt_of_cell r0
        go_simp
        refine hK _ _ (fun h => by simp at h) trivial ?_
        clear hK K hS
        refine anyU_done (by kernel_rfl) ?_
        go_wp2_with fail
        refine bodyPost_ret (v := .agg #[.int .i64 5, .int .i64 0, .string ⟨#[]⟩, .slice (some ⟨n0, 0, none⟩) 2 2, .slice (some ⟨n8, 0, none⟩) 2 2]) (by simp [results, Tryd.results33, go_sem, r0, r1, r2, r3, r4]) rfl ?_
        have hcs := st5_chg W8 (mb + 1) 0 ⟨5, 0, ⟨#[]⟩, some ⟨n0, 0, none⟩, 2, 2, some ⟨n8, 0, none⟩, 2, 2⟩
        exact toObj5_end ((hcs.block n0 (lt_of_obj Hn0.out) (by have h2 := Hgt0.out; simp; omega)).trans Hn0.out) ((hcs.block n2 (lt_of_obj Hn2.out) (by have h2 := Hgt2.out; simp; omega)).trans Hn2.out) ((hcs.block n6 (lt_of_obj Hn6.out) (by have h2 := Hgt6.out; simp; omega)).trans Hn6.out) ((hcs.block n8 (lt_of_obj Hn8.out) (by have h2 := Hgt8.out; simp; omega)).trans Hn8.out) Hge0.out Hge2.out Hge6.out Hge8.out Hmb.out ((HcA.out.trans (HcB.out.trans Hc8.out)).comp hcs fun g hg => Or.inr (by have := List.mem_singleton.1 hg; have := Hmb.out; omega))
      · skip
        go_simp
        refine (number_any i W2).mono ?_
        rintro e W3 ⟨rfl, hcx⟩
        have Hc3 := Lib.hid (Hc2.out.trans hcx)
        have Hn0 := Lib.hid ((hcx.block n0 (lt_of_obj Hn0.out) (by simp)).trans Hn0.out)
        have hS := HS.out _ Hc3.out
        refine hK _ _ (fun _ => hS) trivial ?_
        clear hK K hcx
        refine anyU_two (k := 2) (k' := 6) (by kernel_rfl) rfl rfl (fun K hK => ?_) (fun K hK => ?_) 
        · skip
          go_simp
          obtain ⟨W4, hX⟩ : ∃ x, x = W3.alloc (.cells #[.string ⟨#[105, 100]⟩] 9) := ⟨_, rfl⟩
          obtain ⟨n2, hn⟩ : ∃ x, x = W3.heap.size := ⟨_, rfl⟩
          have hcx : Chg [] W3 W4 := by rw [hX]; exact (Chg.refl _ _).alloc _
          have hbx : W4.heap[n2]? = some (.cells #[.string ⟨#[105, 100]⟩] 9 (0, 0)) := by rw [hX, hn]; exact heap_at _ _ _ rfl
          have Hge2 : Hid (mb ≤ n2) := Lib.hid (by have h1 := (HcA.out.trans (HcB.out.trans Hc3.out)).size; have h2 := Hmb.out; omega)
          have Hgt2 : Hid (mb + 1 < n2) := Lib.hid (by have h1 := Hc3.out.size; have h2 := lt_of_obj Hr3.out; omega)
          rw [← hX, ← hn]
          clear hX hn
          have Hc4 := Lib.hid (Hc3.out.trans hcx)
          have Hn0 := Lib.hid ((hcx.block n0 (lt_of_obj Hn0.out) (by simp)).trans Hn0.out)
          have Hn2 := Lib.hid hbx
          clear hbx
          have hS := HS.out _ Hc4.out
          refine hK _ _ (fun _ => hS) trivial ?_
          clear hK K hcx
          refine anyU_one (k := 6) (by kernel_rfl) rfl (fun K hK => ?_)
          go_simp
          obtain ⟨W5, hX⟩ : ∃ x, x = W4.alloc (.cells #[.int .i64 2, .int .i64 i, .string ⟨#[]⟩, .slice none 0 0, .slice none 0 0] 25) := ⟨_, rfl⟩
          obtain ⟨n6, hn⟩ : ∃ x, x = W4.heap.size := ⟨_, rfl⟩
          have hcx : Chg [] W4 W5 := by rw [hX]; exact (Chg.refl _ _).alloc _
          have hbx : W5.heap[n6]? = some (.cells #[.int .i64 2, .int .i64 i, .string ⟨#[]⟩, .slice none 0 0, .slice none 0 0] 25 (0, 0)) := by rw [hX, hn]; exact heap_at _ _ _ rfl
          have Hge6 : Hid (mb ≤ n6) := Lib.hid (by have h1 := (HcA.out.trans (HcB.out.trans Hc4.out)).size; have h2 := Hmb.out; omega)
          have Hgt6 : Hid (mb + 1 < n6) := Lib.hid (by have h1 := Hc4.out.size; have h2 := lt_of_obj Hr3.out; omega)
          rw [← hX, ← hn]
          clear hX hn
          have Hc5 := Lib.hid (Hc4.out.trans hcx)
          have Hn0 := Lib.hid ((hcx.block n0 (lt_of_obj Hn0.out) (by simp)).trans Hn0.out)
          have Hn2 := Lib.hid ((hcx.block n2 (lt_of_obj Hn2.out) (by simp)).trans Hn2.out)
          have Hn6 := Lib.hid hbx
          clear hbx
          have hS := HS.out _ Hc5.out
          refine hK _ _ (fun _ => hS) trivial ?_
          clear hK K hcx
          refine anyU_one (k := 7) (by kernel_rfl) rfl (fun K hK => ?_)
          go_simp
          refine (object_any (some ⟨n2, 0, none⟩) (some ⟨n6, 0, none⟩) 1 1 1 1 W5).mono ?_
          rintro e W6 ⟨rfl, hcx⟩
          have Hc6 := Lib.hid (Hc5.out.trans hcx)
          have Hn0 := Lib.hid ((hcx.block n0 (lt_of_obj Hn0.out) (by simp)).trans Hn0.out)
          have Hn2 := Lib.hid ((hcx.block n2 (lt_of_obj Hn2.out) (by simp)).trans Hn2.out)
          have Hn6 := Lib.hid ((hcx.block n6 (lt_of_obj Hn6.out) (by simp)).trans Hn6.out)
          have hS := HS.out _ Hc6.out
          refine hK _ _ (fun _ => hS) trivial ?_
          clear hK K hcx
          refine anyU_one (k := 8) (by kernel_rfl) rfl (fun K hK => ?_)
          go_simp
          obtain ⟨W7, hX⟩ : ∃ x, x = W6.alloc (.cells #[.int .i64 3, .int .i64 0, .string ⟨#[36, 47, 99, 97, 110, 99, 101, 108]⟩, .slice none 0 0, .slice none 0 0, .int .i64 5, .int .i64 0, .string ⟨#[]⟩, .slice (some ⟨n2, 0, none⟩) 1 1, .slice (some ⟨n6, 0, none⟩) 1 1] 25) := ⟨_, rfl⟩
          obtain ⟨n8, hn⟩ : ∃ x, x = W6.heap.size := ⟨_, rfl⟩
          have hcx : Chg [] W6 W7 := by rw [hX]; exact (Chg.refl _ _).alloc _
          have hbx : W7.heap[n8]? = some (.cells #[.int .i64 3, .int .i64 0, .string ⟨#[36, 47, 99, 97, 110, 99, 101, 108]⟩, .slice none 0 0, .slice none 0 0, .int .i64 5, .int .i64 0, .string ⟨#[]⟩, .slice (some ⟨n2, 0, none⟩) 1 1, .slice (some ⟨n6, 0, none⟩) 1 1] 25 (0, 0)) := by rw [hX, hn]; exact heap_at _ _ _ rfl
          have Hge8 : Hid (mb ≤ n8) := Lib.hid (by have h1 := (HcA.out.trans (HcB.out.trans Hc6.out)).size; have h2 := Hmb.out; omega)
          have Hgt8 : Hid (mb + 1 < n8) := Lib.hid (by have h1 := Hc6.out.size; have h2 := lt_of_obj Hr3.out; omega)
          rw [← hX, ← hn]
          clear hX hn
          have Hc7 := Lib.hid (Hc6.out.trans hcx)
          have Hn0 := Lib.hid ((hcx.block n0 (lt_of_obj Hn0.out) (by simp)).trans Hn0.out)
          have Hn2 := Lib.hid ((hcx.block n2 (lt_of_obj Hn2.out) (by simp)).trans Hn2.out)
          have Hn6 := Lib.hid ((hcx.block n6 (lt_of_obj Hn6.out) (by simp)).trans Hn6.out)
          have Hn8 := Lib.hid hbx
          clear hbx
          have hS := HS.out _ Hc7.out
          refine hK _ _ (fun _ => hS) trivial ?_
          clear hK K hcx
          refine anyU_one (k := 9) (by kernel_rfl) rfl (fun K hK => ?_)
          go_simp
          refine (object_any (some ⟨n0, 0, none⟩) (some ⟨n8, 0, none⟩) 2 2 2 2 W7).mono ?_
          rintro e W8 ⟨rfl, hcx⟩
          have Hc8 := Lib.hid (Hc7.out.trans hcx)
          have Hn0 := Lib.hid ((hcx.block n0 (lt_of_obj Hn0.out) (by simp)).trans Hn0.out)
          have Hn2 := Lib.hid ((hcx.block n2 (lt_of_obj Hn2.out) (by simp)).trans Hn2.out)
          have Hn6 := Lib.hid ((hcx.block n6 (lt_of_obj Hn6.out) (by simp)).trans Hn6.out)
          have Hn8 := Lib.hid ((hcx.block n8 (lt_of_obj Hn8.out) (by simp)).trans Hn8.out)
          have hS := HS.out _ Hc8.out
          refine hK _ _ (fun _ => hS) trivial ?_
          clear hK K hcx
          refine anyU_one (k := 10) (by kernel_rfl) rfl (fun K hK => ?_)
          have hrx := (Hc8.out.block (mb + 1) (lt_of_obj Hr3.out) (by simp)).trans Hr3.out
          obtain ⟨r0, r1, r2, r3, r4⟩ := box_kept (mb + 1) hrx (Chg.refl [] W8)
          have fr := fun i => frozen_of_heap (i := i) hrx
          have lr := lt_of_cell r0
          go_simp
          refine hK _ _ (fun h => by simp at h) trivial ?_
          clear hK K hS
          refine anyU_done (by kernel_rfl) ?_
          go_wp2_with fail
          refine bodyPost_ret (v := .agg #[.int .i64 5, .int .i64 0, .string ⟨#[]⟩, .slice (some ⟨n0, 0, none⟩) 2 2, .slice (some ⟨n8, 0, none⟩) 2 2]) (by simp [results, Tryd.results33, go_sem, r0, r1, r2, r3, r4]) rfl ?_
          have hcs := st5_chg W8 (mb + 1) 0 ⟨5, 0, ⟨#[]⟩, some ⟨n0, 0, none⟩, 2, 2, some ⟨n8, 0, none⟩, 2, 2⟩
          exact toObj5_end ((hcs.block n0 (lt_of_obj Hn0.out) (by have h2 := Hgt0.out; simp; omega)).trans Hn0.out) ((hcs.block n2 (lt_of_obj Hn2.out) (by have h2 := Hgt2.out; simp; omega)).trans Hn2.out) ((hcs.block n6 (lt_of_obj Hn6.out) (by have h2 := Hgt6.out; simp; omega)).trans Hn6.out) ((hcs.block n8 (lt_of_obj Hn8.out) (by have h2 := Hgt8.out; simp; omega)).trans Hn8.out) Hge0.out Hge2.out Hge6.out Hge8.out Hmb.out ((HcA.out.trans (HcB.out.trans Hc8.out)).comp hcs fun g hg => Or.inr (by have := List.mem_singleton.1 hg; have := Hmb.out; omega))
        · skip
          go_simp
          obtain ⟨W4, hX⟩ : ∃ x, x = W3.alloc (.cells #[.int .i64 2, .int .i64 i, .string ⟨#[]⟩, .slice none 0 0, .slice none 0 0] 25) := ⟨_, rfl⟩
          obtain ⟨n6, hn⟩ : ∃ x, x = W3.heap.size := ⟨_, rfl⟩
          have hcx : Chg [] W3 W4 := by rw [hX]; exact (Chg.refl _ _).alloc _
          have hbx : W4.heap[n6]? = some (.cells #[.int .i64 2, .int .i64 i, .string ⟨#[]⟩, .slice none 0 0, .slice none 0 0] 25 (0, 0)) := by rw [hX, hn]; exact heap_at _ _ _ rfl
          have Hge6 : Hid (mb ≤ n6) := Lib.hid (by have h1 := (HcA.out.trans (HcB.out.trans Hc3.out)).size; have h2 := Hmb.out; omega)
          have Hgt6 : Hid (mb + 1 < n6) := Lib.hid (by have h1 := Hc3.out.size; have h2 := lt_of_obj Hr3.out; omega)
          rw [← hX, ← hn]
          clear hX hn
          have Hc4 := Lib.hid (Hc3.out.trans hcx)
          have Hn0 := Lib.hid ((hcx.block n0 (lt_of_obj Hn0.out) (by simp)).trans Hn0.out)
          have Hn6 := Lib.hid hbx
          clear hbx
          have hS := HS.out _ Hc4.out
          refine hK _ _ (fun _ => hS) trivial ?_
          clear hK K hcx
          refine anyU_one (k := 2) (by kernel_rfl) rfl (fun K hK => ?_)
          go_simp
          obtain ⟨W5, hX⟩ : ∃ x, x = W4.alloc (.cells #[.string ⟨#[105, 100]⟩] 9) := ⟨_, rfl⟩
          obtain ⟨n2, hn⟩ : ∃ x, x = W4.heap.size := ⟨_, rfl⟩
          have hcx : Chg [] W4 W5 := by rw [hX]; exact (Chg.refl _ _).alloc _
          have hbx : W5.heap[n2]? = some (.cells #[.string ⟨#[105, 100]⟩] 9 (0, 0)) := by rw [hX, hn]; exact heap_at _ _ _ rfl
          have Hge2 : Hid (mb ≤ n2) := Lib.hid (by have h1 := (HcA.out.trans (HcB.out.trans Hc4.out)).size; have h2 := Hmb.out; omega)
          have Hgt2 : Hid (mb + 1 < n2) := Lib.hid (by have h1 := Hc4.out.size; have h2 := lt_of_obj Hr3.out; omega)
          rw [← hX, ← hn]
          clear hX hn
          have Hc5 := Lib.hid (Hc4.out.trans hcx)
          have Hn0 := Lib.hid ((hcx.block n0 (lt_of_obj Hn0.out) (by simp)).trans Hn0.out)
          have Hn6 := Lib.hid ((hcx.block n6 (lt_of_obj Hn6.out) (by simp)).trans Hn6.out)
          have Hn2 := Lib.hid hbx
          clear hbx
          have hS := HS.out _ Hc5.out
          refine hK _ _ (fun _ => hS) trivial ?_
          clear hK K hcx
          refine anyU_one (k := 7) (by kernel_rfl) rfl (fun K hK => ?_)
          go_simp
          refine (object_any (some ⟨n2, 0, none⟩) (some ⟨n6, 0, none⟩) 1 1 1 1 W5).mono ?_
          rintro e W6 ⟨rfl, hcx⟩
          have Hc6 := Lib.hid (Hc5.out.trans hcx)
          have Hn0 := Lib.hid ((hcx.block n0 (lt_of_obj Hn0.out) (by simp)).trans Hn0.out)
          have Hn6 := Lib.hid ((hcx.block n6 (lt_of_obj Hn6.out) (by simp)).trans Hn6.out)
          have Hn2 := Lib.hid ((hcx.block n2 (lt_of_obj Hn2.out) (by simp)).trans Hn2.out)
          have hS := HS.out _ Hc6.out
          refine hK _ _ (fun _ => hS) trivial ?_
          clear hK K hcx
          refine anyU_one (k := 8) (by kernel_rfl) rfl (fun K hK => ?_)
          go_simp
          obtain ⟨W7, hX⟩ : ∃ x, x = W6.alloc (.cells #[.int .i64 3, .int .i64 0, .string ⟨#[36, 47, 99, 97, 110, 99, 101, 108]⟩, .slice none 0 0, .slice none 0 0, .int .i64 5, .int .i64 0, .string ⟨#[]⟩, .slice (some ⟨n2, 0, none⟩) 1 1, .slice (some ⟨n6, 0, none⟩) 1 1] 25) := ⟨_, rfl⟩
          obtain ⟨n8, hn⟩ : ∃ x, x = W6.heap.size := ⟨_, rfl⟩
          have hcx : Chg [] W6 W7 := by rw [hX]; exact (Chg.refl _ _).alloc _
          have hbx : W7.heap[n8]? = some (.cells #[.int .i64 3, .int .i64 0, .string ⟨#[36, 47, 99, 97, 110, 99, 101, 108]⟩, .slice none 0 0, .slice none 0 0, .int .i64 5, .int .i64 0, .string ⟨#[]⟩, .slice (some ⟨n2, 0, none⟩) 1 1, .slice (some ⟨n6, 0, none⟩) 1 1] 25 (0, 0)) := by rw [hX, hn]; exact heap_at _ _ _ rfl
          have Hge8 : Hid (mb ≤ n8) := Lib.hid (by have h1 := (HcA.out.trans (HcB.out.trans Hc6.out)).size; have h2 := Hmb.out; omega)
          have Hgt8 : Hid (mb + 1 < n8) := Lib.hid (by have h1 := Hc6.out.size; have h2 := lt_of_obj Hr3.out; omega)
          rw [← hX, ← hn]
          clear hX hn
          have Hc7 := Lib.hid (Hc6.out.trans hcx)
          have Hn0 := Lib.hid ((hcx.block n0 (lt_of_obj Hn0.out) (by simp)).trans Hn0.out)
          have Hn6 := Lib.hid ((hcx.block n6 (lt_of_obj Hn6.out) (by simp)).trans Hn6.out)
          have Hn2 := Lib.hid ((hcx.block n2 (lt_of_obj Hn2.out) (by simp)).trans Hn2.out)
          have Hn8 := Lib.hid hbx
          clear hbx
          have hS := HS.out _ Hc7.out
          refine hK _ _ (fun _ => hS) trivial ?_
          clear hK K hcx
          refine anyU_one (k := 9) (by kernel_rfl) rfl (fun K hK => ?_)
          go_simp
          refine (object_any (some ⟨n0, 0, none⟩) (some ⟨n8, 0, none⟩) 2 2 2 2 W7).mono ?_
          rintro e W8 ⟨rfl, hcx⟩
          have Hc8 := Lib.hid (Hc7.out.trans hcx)
          have Hn0 := Lib.hid ((hcx.block n0 (lt_of_obj Hn0.out) (by simp)).trans Hn0.out)
          have Hn6 := Lib.hid ((hcx.block n6 (lt_of_obj Hn6.out) (by simp)).trans Hn6.out)
          have Hn2 := Lib.hid ((hcx.block n2 (lt_of_obj Hn2.out) (by simp)).trans Hn2.out)
          have Hn8 := Lib.hid ((hcx.block n8 (lt_of_obj Hn8.out) (by simp)).trans Hn8.out)
          have hS := HS.out _ Hc8.out
          refine hK _ _ (fun _ => hS) trivial ?_
          clear hK K hcx
          refine anyU_one (k := 10) (by kernel_rfl) rfl (fun K hK => ?_)
          have hrx := (Hc8.out.block (mb + 1) (lt_of_obj Hr3.out) (by simp)).trans Hr3.out
          obtain ⟨r0, r1, r2, r3, r4⟩ := box_kept (mb + 1) hrx (Chg.refl [] W8)
          have fr := fun i => frozen_of_heap (i := i) hrx
          have lr := lt_of_cell r0
          go_simp
          refine hK _ _ (fun h => by simp at h) trivial ?_
          clear hK K hS
          refine anyU_done (by kernel_rfl) ?_
          go_wp2_with fail
          refine bodyPost_ret (v := .agg #[.int .i64 5, .int .i64 0, .string ⟨#[]⟩, .slice (some ⟨n0, 0, none⟩) 2 2, .slice (some ⟨n8, 0, none⟩) 2 2]) (by simp [results, Tryd.results33, go_sem, r0, r1, r2, r3, r4]) rfl ?_
          have hcs := st5_chg W8 (mb + 1) 0 ⟨5, 0, ⟨#[]⟩, some ⟨n0, 0, none⟩, 2, 2, some ⟨n8, 0, none⟩, 2, 2⟩
          exact toObj5_end ((hcs.block n0 (lt_of_obj Hn0.out) (by have h2 := Hgt0.out; simp; omega)).trans Hn0.out) ((hcs.block n2 (lt_of_obj Hn2.out) (by have h2 := Hgt2.out; simp; omega)).trans Hn2.out) ((hcs.block n6 (lt_of_obj Hn6.out) (by have h2 := Hgt6.out; simp; omega)).trans Hn6.out) ((hcs.block n8 (lt_of_obj Hn8.out) (by have h2 := Hgt8.out; simp; omega)).trans Hn8.out) Hge0.out Hge2.out Hge6.out Hge8.out Hmb.out ((HcA.out.trans (HcB.out.trans Hc8.out)).comp hcs fun g hg => Or.inr (by have := List.mem_singleton.1 hg; have := Hmb.out; omega))
    · skip
      go_simp
      obtain ⟨W2, hX⟩ : ∃ x, x = W1.alloc (.cells #[.string ⟨#[105, 100]⟩] 9) := ⟨_, rfl⟩
      obtain ⟨n2, hn⟩ : ∃ x, x = W1.heap.size := ⟨_, rfl⟩
      have hcx : Chg [] W1 W2 := by rw [hX]; exact (Chg.refl _ _).alloc _
      have hbx : W2.heap[n2]? = some (.cells #[.string ⟨#[105, 100]⟩] 9 (0, 0)) := by rw [hX, hn]; exact heap_at _ _ _ rfl
      have Hge2 : Hid (mb ≤ n2) := Lib.hid (by have h1 := (HcA.out.trans (HcB.out.trans Hc1.out)).size; have h2 := Hmb.out; omega)
      have Hgt2 : Hid (mb + 1 < n2) := Lib.hid (by have h1 := Hc1.out.size; have h2 := lt_of_obj Hr3.out; omega)
      rw [← hX, ← hn]
      clear hX hn
      have Hc2 := Lib.hid (Hc1.out.trans hcx)
      have Hn2 := Lib.hid hbx
      clear hbx
      have hS := HS.out _ Hc2.out
      refine hK _ _ (fun _ => hS) trivial ?_
      clear hK K hcx
      refine anyU_two (k := 0) (k' := 5) (by kernel_rfl) rfl rfl (fun K hK => ?_) (fun K hK => ?_) 
      · skip
        go_simp
        obtain ⟨W3, hX⟩ : ∃ x, x = W2.alloc (.cells #[.string ⟨#[109, 101, 116, 104, 111, 100]⟩, .string ⟨#[112, 97, 114, 97, 109, 115]⟩] 9) := ⟨_, rfl⟩
        obtain ⟨n0, hn⟩ : ∃ x, x = W2.heap.size := ⟨_, rfl⟩
        have hcx : Chg [] W2 W3 := by rw [hX]; exact (Chg.refl _ _).alloc _
        have hbx : W3.heap[n0]? = some (.cells #[.string ⟨#[109, 101, 116, 104, 111, 100]⟩, .string ⟨#[112, 97, 114, 97, 109, 115]⟩] 9 (0, 0)) := by rw [hX, hn]; exact heap_at _ _ _ rfl
        have Hge0 : Hid (mb ≤ n0) := Lib.hid (by have h1 := (HcA.out.trans (HcB.out.trans Hc2.out)).size; have h2 := Hmb.out; omega)
        have Hgt0 : Hid (mb + 1 < n0) := Lib.hid (by have h1 := Hc2.out.size; have h2 := lt_of_obj Hr3.out; omega)
        rw [← hX, ← hn]
        clear hX hn
        have Hc3 := Lib.hid (Hc2.out.trans hcx)
        have Hn2 := Lib.hid ((hcx.block n2 (lt_of_obj Hn2.out) (by simp)).trans Hn2.out)
        have Hn0 := Lib.hid hbx
        clear hbx
        have hS := HS.out _ Hc3.out
        refine hK _ _ (fun _ => hS) trivial ?_
        clear hK K hcx
        refine anyU_one (k := 5) (by kernel_rfl) rfl (fun K hK => ?_)
        go_simp
        refine (number_any i W3).mono ?_
        rintro e W4 ⟨rfl, hcx⟩
        have Hc4 := Lib.hid (Hc3.out.trans hcx)
        have Hn2 := Lib.hid ((hcx.block n2 (lt_of_obj Hn2.out) (by simp)).trans Hn2.out)
        have Hn0 := Lib.hid ((hcx.block n0 (lt_of_obj Hn0.out) (by simp)).trans Hn0.out)
        have hS := HS.out _ Hc4.out
        refine hK _ _ (fun _ => hS) trivial ?_
        clear hK K hcx
        refine anyU_one (k := 6) (by kernel_rfl) rfl (fun K hK => ?_)
        go_simp
        obtain ⟨W5, hX⟩ : ∃ x, x = W4.alloc (.cells #[.int .i64 2, .int .i64 i, .string ⟨#[]⟩, .slice none 0 0, .slice none 0 0] 25) := ⟨_, rfl⟩
        obtain ⟨n6, hn⟩ : ∃ x, x = W4.heap.size := ⟨_, rfl⟩
        have hcx : Chg [] W4 W5 := by rw [hX]; exact (Chg.refl _ _).alloc _
        have hbx : W5.heap[n6]? = some (.cells #[.int .i64 2, .int .i64 i, .string ⟨#[]⟩, .slice none 0 0, .slice none 0 0] 25 (0, 0)) := by rw [hX, hn]; exact heap_at _ _ _ rfl
        have Hge6 : Hid (mb ≤ n6) := Lib.hid (by have h1 := (HcA.out.trans (HcB.out.trans Hc4.out)).size; have h2 := Hmb.out; omega)
        have Hgt6 : Hid (mb + 1 < n6) := Lib.hid (by have h1 := Hc4.out.size; have h2 := lt_of_obj Hr3.out; omega)
        rw [← hX, ← hn]
        clear hX hn
        have Hc5 := Lib.hid (Hc4.out.trans hcx)
        have Hn2 := Lib.hid ((hcx.block n2 (lt_of_obj Hn2.out) (by simp)).trans Hn2.out)
        have Hn0 := Lib.hid ((hcx.block n0 (lt_of_obj Hn0.out) (by simp)).trans Hn0.out)
        have Hn6 := Lib.hid hbx
        clear hbx
        have hS := HS.out _ Hc5.out
        refine hK _ _ (fun _ => hS) trivial ?_
        clear hK K hcx
        refine anyU_one (k := 7) (by kernel_rfl) rfl (fun K hK => ?_)
        go_simp
        refine (object_any (some ⟨n2, 0, none⟩) (some ⟨n6, 0, none⟩) 1 1 1 1 W5).mono ?_
        rintro e W6 ⟨rfl, hcx⟩
        have Hc6 := Lib.hid (Hc5.out.trans hcx)
        have Hn2 := Lib.hid ((hcx.block n2 (lt_of_obj Hn2.out) (by simp)).trans Hn2.out)
        have Hn0 := Lib.hid ((hcx.block n0 (lt_of_obj Hn0.out) (by simp)).trans Hn0.out)
        have Hn6 := Lib.hid ((hcx.block n6 (lt_of_obj Hn6.out) (by simp)).trans Hn6.out)
        have hS := HS.out _ Hc6.out
        refine hK _ _ (fun _ => hS) trivial ?_
        clear hK K hcx
        refine anyU_one (k := 8) (by kernel_rfl) rfl (fun K hK => ?_)
        go_simp
        obtain ⟨W7, hX⟩ : ∃ x, x = W6.alloc (.cells #[.int .i64 3, .int .i64 0, .string ⟨#[36, 47, 99, 97, 110, 99, 101, 108]⟩, .slice none 0 0, .slice none 0 0, .int .i64 5, .int .i64 0, .string ⟨#[]⟩, .slice (some ⟨n2, 0, none⟩) 1 1, .slice (some ⟨n6, 0, none⟩) 1 1] 25) := ⟨_, rfl⟩
        obtain ⟨n8, hn⟩ : ∃ x, x = W6.heap.size := ⟨_, rfl⟩
        have hcx : Chg [] W6 W7 := by rw [hX]; exact (Chg.refl _ _).alloc _
        have hbx : W7.heap[n8]? = some (.cells #[.int .i64 3, .int .i64 0, .string ⟨#[36, 47, 99, 97, 110, 99, 101, 108]⟩, .slice none 0 0, .slice none 0 0, .int .i64 5, .int .i64 0, .string ⟨#[]⟩, .slice (some ⟨n2, 0, none⟩) 1 1, .slice (some ⟨n6, 0, none⟩) 1 1] 25 (0, 0)) := by rw [hX, hn]; exact heap_at _ _ _ rfl
        have Hge8 : Hid (mb ≤ n8) := Lib.hid (by have h1 := (HcA.out.trans (HcB.out.trans Hc6.out)).size; have h2 := Hmb.out; omega)
        have Hgt8 : Hid (mb + 1 < n8) := Lib.hid (by have h1 := Hc6.out.size; have h2 := lt_of_obj Hr3.out; omega)
        rw [← hX, ← hn]
        clear hX hn
        have Hc7 := Lib.hid (Hc6.out.trans hcx)
        have Hn2 := Lib.hid ((hcx.block n2 (lt_of_obj Hn2.out) (by simp)).trans Hn2.out)
        have Hn0 := Lib.hid ((hcx.block n0 (lt_of_obj Hn0.out) (by simp)).trans Hn0.out)
        have Hn6 := Lib.hid ((hcx.block n6 (lt_of_obj Hn6.out) (by simp)).trans Hn6.out)
        have Hn8 := Lib.hid hbx
        clear hbx
        have hS := HS.out _ Hc7.out
        refine hK _ _ (fun _ => hS) trivial ?_
        clear hK K hcx
        refine anyU_one (k := 9) (by kernel_rfl) rfl (fun K hK => ?_)
        go_simp
        refine (object_any (some ⟨n0, 0, none⟩) (some ⟨n8, 0, none⟩) 2 2 2 2 W7).mono ?_
        rintro e W8 ⟨rfl, hcx⟩
        have Hc8 := Lib.hid (Hc7.out.trans hcx)
        have Hn2 := Lib.hid ((hcx.block n2 (lt_of_obj Hn2.out) (by simp)).trans Hn2.out)
        have Hn0 := Lib.hid ((hcx.block n0 (lt_of_obj Hn0.out) (by simp)).trans Hn0.out)
        have Hn6 := Lib.hid ((hcx.block n6 (lt_of_obj Hn6.out) (by simp)).trans Hn6.out)
        have Hn8 := Lib.hid ((hcx.block n8 (lt_of_obj Hn8.out) (by simp)).trans Hn8.out)
        have hS := HS.out _ Hc8.out
        refine hK _ _ (fun _ => hS) trivial ?_
        clear hK K hcx
        refine anyU_one (k := 10) (by kernel_rfl) rfl (fun K hK => ?_)
        have hrx := (Hc8.out.block (mb + 1) (lt_of_obj Hr3.out) (by simp)).trans Hr3.out
        obtain ⟨r0, r1, r2, r3, r4⟩ := box_kept (mb + 1) hrx (Chg.refl [] W8)
        have fr := fun i => frozen_of_heap (i := i) hrx
        have lr := lt_of_cell r0
        go_simp
        refine hK _ _ (fun h => by simp at h) trivial ?_
        clear hK K hS
        refine anyU_done (by kernel_rfl) ?_
        go_wp2_with fail
        refine bodyPost_ret (v := .agg #[.int .i64 5, .int .i64 0, .string ⟨#[]⟩, .slice (some ⟨n0, 0, none⟩) 2 2, .slice (some ⟨n8, 0, none⟩) 2 2]) (by simp [results, Tryd.results33, go_sem, r0, r1, r2, r3, r4]) rfl ?_
        have hcs := st5_chg W8 (mb + 1) 0 ⟨5, 0, ⟨#[]⟩, some ⟨n0, 0, none⟩, 2, 2, some ⟨n8, 0, none⟩, 2, 2⟩
        exact toObj5_end ((hcs.block n0 (lt_of_obj Hn0.out) (by have h2 := Hgt0.out; simp; omega)).trans Hn0.out) ((hcs.block n2 (lt_of_obj Hn2.out) (by have h2 := Hgt2.out; simp; omega)).trans Hn2.out) ((hcs.block n6 (lt_of_obj Hn6.out) (by have h2 := Hgt6.out; simp; omega)).trans Hn6.out) ((hcs.block n8 (lt_of_obj Hn8.out) (by have h2 := Hgt8.out; simp; omega)).trans Hn8.out) Hge0.out Hge2.out Hge6.out Hge8.out Hmb.out ((HcA.out.trans (HcB.out.trans Hc8.out)).comp hcs fun g hg => Or.inr (by have := List.mem_singleton.1 hg; have := Hmb.out; omega))
      · skip
        go_simp
        refine (number_any i W2).mono ?_
        rintro e W3 ⟨rfl, hcx⟩
        have Hc3 := Lib.hid (Hc2.out.trans hcx)
        have Hn2 := Lib.hid ((hcx.block n2 (lt_of_obj Hn2.out) (by simp)).trans Hn2.out)
        have hS := HS.out _ Hc3.out
        refine hK _ _ (fun _ => hS) trivial ?_
        clear hK K hcx
        refine anyU_two (k := 0) (k' := 6) (by kernel_rfl) rfl rfl (fun K hK => ?_) (fun K hK => ?_) 
        · skip
          go_simp
          obtain ⟨W4, hX⟩ : ∃ x, x = W3.alloc (.cells #[.string ⟨#[109, 101, 116, 104, 111, 100]⟩, .string ⟨#[112, 97, 114, 97, 109, 115]⟩] 9) := ⟨_, rfl⟩
          obtain ⟨n0, hn⟩ : ∃ x, x = W3.heap.size := ⟨_, rfl⟩
          have hcx : Chg [] W3 W4 := by rw [hX]; exact (Chg.refl _ _).alloc _
          have hbx : W4.heap[n0]? = some (.cells #[.string ⟨#[109, 101, 116, 104, 111, 100]⟩, .string ⟨#[112, 97, 114, 97, 109, 115]⟩] 9 (0, 0)) := by rw [hX, hn]; exact heap_at _ _ _ rfl
          have Hge0 : Hid (mb ≤ n0) := Lib.hid (by have h1 := (HcA.out.trans (HcB.out.trans Hc3.out)).size; have h2 := Hmb.out; omega)
          have Hgt0 : Hid (mb + 1 < n0) := Lib.hid (by have h1 := Hc3.out.size; have h2 := lt_of_obj Hr3.out; omega)
          rw [← hX, ← hn]
          clear hX hn
          have Hc4 := Lib.hid (Hc3.out.trans hcx)
          have Hn2 := Lib.hid ((hcx.block n2 (lt_of_obj Hn2.out) (by simp)).trans Hn2.out)
          have Hn0 := Lib.hid hbx
          clear hbx
          have hS := HS.out _ Hc4.out
          refine hK _ _ (fun _ => hS) trivial ?_
          clear hK K hcx
          refine anyU_one (k := 6) (by kernel_rfl) rfl (fun K hK => ?_)
          go_simp
          obtain ⟨W5, hX⟩ : ∃ x, x = W4.alloc (.cells #[.int .i64 2, .int .i64 i, .string ⟨#[]⟩, .slice none 0 0, .slice none 0 0] 25) := ⟨_, rfl⟩
          obtain ⟨n6, hn⟩ : ∃ x, x = W4.heap.size := ⟨_, rfl⟩
          have hcx : Chg [] W4 W5 := by rw [hX]; exact (Chg.refl _ _).alloc _
          have hbx : W5.heap[n6]? = some (.cells #[.int .i64 2, .int .i64 i, .string ⟨#[]⟩, .slice none 0 0, .slice none 0 0] 25 (0, 0)) := by rw [hX, hn]; exact heap_at _ _ _ rfl
          have Hge6 : Hid (mb ≤ n6) := Lib.hid (by have h1 := (HcA.out.trans (HcB.out.trans Hc4.out)).size; have h2 := Hmb.out; omega)
          have Hgt6 : Hid (mb + 1 < n6) := Lib.hid (by have h1 := Hc4.out.size; have h2 := lt_of_obj Hr3.out; omega)
          rw [← hX, ← hn]
          clear hX hn
          have Hc5 := Lib.hid (Hc4.out.trans hcx)
          have Hn2 := Lib.hid ((hcx.block n2 (lt_of_obj Hn2.out) (by simp)).trans Hn2.out)
          have Hn0 := Lib.hid ((hcx.block n0 (lt_of_obj Hn0.out) (by simp)).trans Hn0.out)
          have Hn6 := Lib.hid hbx
          clear hbx
          have hS := HS.out _ Hc5.out
          refine hK _ _ (fun _ => hS) trivial ?_
          clear hK K hcx
          refine anyU_one (k := 7) (by kernel_rfl) rfl (fun K hK => ?_)
          go_simp
          refine (object_any (some ⟨n2, 0, none⟩) (some ⟨n6, 0, none⟩) 1 1 1 1 W5).mono ?_
          rintro e W6 ⟨rfl, hcx⟩
          have Hc6 := Lib.hid (Hc5.out.trans hcx)
          have Hn2 := Lib.hid ((hcx.block n2 (lt_of_obj Hn2.out) (by simp)).trans Hn2.out)
          have Hn0 := Lib.hid ((hcx.block n0 (lt_of_obj Hn0.out) (by simp)).trans Hn0.out)
          have Hn6 := Lib.hid ((hcx.block n6 (lt_of_obj Hn6.out) (by simp)).trans Hn6.out)
          have hS := HS.out _ Hc6.out
          refine hK _ _ (fun _ => hS) trivial ?_
          clear hK K hcx
          refine anyU_one (k := 8) (by kernel_rfl) rfl (fun K hK => ?_)
          go_simp
          obtain ⟨W7, hX⟩ : ∃ x, x = W6.alloc (.cells #[.int .i64 3, .int .i64 0, .string ⟨#[36, 47, 99, 97, 110, 99, 101, 108]⟩, .slice none 0 0, .slice none 0 0, .int .i64 5, .int .i64 0, .string ⟨#[]⟩, .slice (some ⟨n2, 0, none⟩) 1 1, .slice (some ⟨n6, 0, none⟩) 1 1] 25) := ⟨_, rfl⟩
          obtain ⟨n8, hn⟩ : ∃ x, x = W6.heap.size := ⟨_, rfl⟩
          have hcx : Chg [] W6 W7 := by rw [hX]; exact (Chg.refl _ _).alloc _
          have hbx : W7.heap[n8]? = some (.cells #[.int .i64 3, .int .i64 0, .string ⟨#[36, 47, 99, 97, 110, 99, 101, 108]⟩, .slice none 0 0, .slice none 0 0, .int .i64 5, .int .i64 0, .string ⟨#[]⟩, .slice (some ⟨n2, 0, none⟩) 1 1, .slice (some ⟨n6, 0, none⟩) 1 1] 25 (0, 0)) := by rw [hX, hn]; exact heap_at _ _ _ rfl
          have Hge8 : Hid (mb ≤ n8) := Lib.hid (by have h1 := (HcA.out.trans (HcB.out.trans Hc6.out)).size; have h2 := Hmb.out; omega)
          have Hgt8 : Hid (mb + 1 < n8) := Lib.hid (by have h1 := Hc6.out.size; have h2 := lt_of_obj Hr3.out; omega)
          rw [← hX, ← hn]
          clear hX hn
          have Hc7 := Lib.hid (Hc6.out.trans hcx)
          have Hn2 := Lib.hid ((hcx.block n2 (lt_of_obj Hn2.out) (by simp)).trans Hn2.out)
          have Hn0 := Lib.hid ((hcx.block n0 (lt_of_obj Hn0.out) (by simp)).trans Hn0.out)
          have Hn6 := Lib.hid ((hcx.block n6 (lt_of_obj Hn6.out) (by simp)).trans Hn6.out)
          have Hn8 := Lib.hid hbx
          clear hbx
          have hS := HS.out _ Hc7.out
          refine hK _ _ (fun _ => hS) trivial ?_
          clear hK K hcx
          refine anyU_one (k := 9) (by kernel_rfl) rfl (fun K hK => ?_)
          go_simp
          refine (object_any (some ⟨n0, 0, none⟩) (some ⟨n8, 0, none⟩) 2 2 2 2 W7).mono ?_
          rintro e W8 ⟨rfl, hcx⟩
          have Hc8 := Lib.hid (Hc7.out.trans hcx)
          have Hn2 := Lib.hid ((hcx.block n2 (lt_of_obj Hn2.out) (by simp)).trans Hn2.out)
          have Hn0 := Lib.hid ((hcx.block n0 (lt_of_obj Hn0.out) (by simp)).trans Hn0.out)
          have Hn6 := Lib.hid ((hcx.block n6 (lt_of_obj Hn6.out) (by simp)).trans Hn6.out)
          have Hn8 := Lib.hid ((hcx.block n8 (lt_of_obj Hn8.out) (by simp)).trans Hn8.out)
          have hS := HS.out _ Hc8.out
          refine hK _ _ (fun _ => hS) trivial ?_
          clear hK K hcx
          refine anyU_one (k := 10) (by kernel_rfl) rfl (fun K hK => ?_)
          have hrx := (Hc8.out.block (mb + 1) (lt_of_obj Hr3.out) (by simp)).trans Hr3.out
          obtain ⟨r0, r1, r2, r3, r4⟩ := box_kept (mb + 1) hrx (Chg.refl [] W8)
          have fr := fun i => frozen_of_heap (i := i) hrx
          have lr := lt_of_cell r0
          go_simp
          refine hK _ _ (fun h => by simp at h) trivial ?_
          clear hK K hS
          refine anyU_done (by kernel_rfl) ?_
          go_wp2_with fail
          refine bodyPost_ret (v := .agg #[.int .i64 5, .int .i64 0, .string ⟨#[]⟩, .slice (some ⟨n0, 0, none⟩) 2 2, .slice (some ⟨n8, 0, none⟩) 2 2]) (by simp [results, Tryd.results33, go_sem, r0, r1, r2, r3, r4]) rfl ?_
          have hcs := st5_chg W8 (mb + 1) 0 ⟨5, 0, ⟨#[]⟩, some ⟨n0, 0, none⟩, 2, 2, some ⟨n8, 0, none⟩, 2, 2⟩
          exact toObj5_end ((hcs.block n0 (lt_of_obj Hn0.out) (by have h2 := Hgt0.out; simp; omega)).trans Hn0.out) ((hcs.block n2 (lt_of_obj Hn2.out) (by have h2 := Hgt2.out; simp; omega)).trans Hn2.out) ((hcs.block n6 (lt_of_obj Hn6.out) (by have h2 := Hgt6.out; simp; omega)).trans Hn6.out) ((hcs.block n8 (lt_of_obj Hn8.out) (by have h2 := Hgt8.out; simp; omega)).trans Hn8.out) Hge0.out Hge2.out Hge6.out Hge8.out Hmb.out ((HcA.out.trans (HcB.out.trans Hc8.out)).comp hcs fun g hg => Or.inr (by have := List.mem_singleton.1 hg; have := Hmb.out; omega))
        · skip
          go_simp
          obtain ⟨W4, hX⟩ : ∃ x, x = W3.alloc (.cells #[.int .i64 2, .int .i64 i, .string ⟨#[]⟩, .slice none 0 0, .slice none 0 0] 25) := ⟨_, rfl⟩
          obtain ⟨n6, hn⟩ : ∃ x, x = W3.heap.size := ⟨_, rfl⟩
          have hcx : Chg [] W3 W4 := by rw [hX]; exact (Chg.refl _ _).alloc _
          have hbx : W4.heap[n6]? = some (.cells #[.int .i64 2, .int .i64 i, .string ⟨#[]⟩, .slice none 0 0, .slice none 0 0] 25 (0, 0)) := by rw [hX, hn]; exact heap_at _ _ _ rfl
          have Hge6 : Hid (mb ≤ n6) := Lib.hid (by have h1 := (HcA.out.trans (HcB.out.trans Hc3.out)).size; have h2 := Hmb.out; omega)
          have Hgt6 : Hid (mb + 1 < n6) := Lib.hid (by have h1 := Hc3.out.size; have h2 := lt_of_obj Hr3.out; omega)
          rw [← hX, ← hn]
          clear hX hn
          have Hc4 := Lib.hid (Hc3.out.trans hcx)
          have Hn2 := Lib.hid ((hcx.block n2 (lt_of_obj Hn2.out) (by simp)).trans Hn2.out)
          have Hn6 := Lib.hid hbx
          clear hbx
          have hS := HS.out _ Hc4.out
          refine hK _ _ (fun _ => hS) trivial ?_
          clear hK K hcx
          refine anyU_two (k := 0) (k' := 7) (by kernel_rfl) rfl rfl (fun K hK => ?_) (fun K hK => ?_) 
          · skip
            go_simp
            obtain ⟨W5, hX⟩ : ∃ x, x = W4.alloc (.cells #[.string ⟨#[109, 101, 116, 104, 111, 100]⟩, .string ⟨#[112, 97, 114, 97, 109, 115]⟩] 9) := ⟨_, rfl⟩
            obtain ⟨n0, hn⟩ : ∃ x, x = W4.heap.size := ⟨_, rfl⟩
            have hcx : Chg [] W4 W5 := by rw [hX]; exact (Chg.refl _ _).alloc _
            have hbx : W5.heap[n0]? = some (.cells #[.string ⟨#[109, 101, 116, 104, 111, 100]⟩, .string ⟨#[112, 97, 114, 97, 109, 115]⟩] 9 (0, 0)) := by rw [hX, hn]; exact heap_at _ _ _ rfl
            have Hge0 : Hid (mb ≤ n0) := Lib.hid (by have h1 := (HcA.out.trans (HcB.out.trans Hc4.out)).size; have h2 := Hmb.out; omega)
            have Hgt0 : Hid (mb + 1 < n0) := Lib.hid (by have h1 := Hc4.out.size; have h2 := lt_of_obj Hr3.out; omega)
            rw [← hX, ← hn]
            clear hX hn
            have Hc5 := Lib.hid (Hc4.out.trans hcx)
            have Hn2 := Lib.hid ((hcx.block n2 (lt_of_obj Hn2.out) (by simp)).trans Hn2.out)
            have Hn6 := Lib.hid ((hcx.block n6 (lt_of_obj Hn6.out) (by simp)).trans Hn6.out)
            have Hn0 := Lib.hid hbx
            clear hbx
            have hS := HS.out _ Hc5.out
            refine hK _ _ (fun _ => hS) trivial ?_
            clear hK K hcx
            refine anyU_one (k := 7) (by kernel_rfl) rfl (fun K hK => ?_)
            go_simp
            refine (object_any (some ⟨n2, 0, none⟩) (some ⟨n6, 0, none⟩) 1 1 1 1 W5).mono ?_
            rintro e W6 ⟨rfl, hcx⟩
            have Hc6 := Lib.hid (Hc5.out.trans hcx)
            have Hn2 := Lib.hid ((hcx.block n2 (lt_of_obj Hn2.out) (by simp)).trans Hn2.out)
            have Hn6 := Lib.hid ((hcx.block n6 (lt_of_obj Hn6.out) (by simp)).trans Hn6.out)
            have Hn0 := Lib.hid ((hcx.block n0 (lt_of_obj Hn0.out) (by simp)).trans Hn0.out)
            have hS := HS.out _ Hc6.out
            refine hK _ _ (fun _ => hS) trivial ?_
            clear hK K hcx
            refine anyU_one (k := 8) (by kernel_rfl) rfl (fun K hK => ?_)
            go_simp
            obtain ⟨W7, hX⟩ : ∃ x, x = W6.alloc (.cells #[.int .i64 3, .int .i64 0, .string ⟨#[36, 47, 99, 97, 110, 99, 101, 108]⟩, .slice none 0 0, .slice none 0 0, .int .i64 5, .int .i64 0, .string ⟨#[]⟩, .slice (some ⟨n2, 0, none⟩) 1 1, .slice (some ⟨n6, 0, none⟩) 1 1] 25) := ⟨_, rfl⟩
            obtain ⟨n8, hn⟩ : ∃ x, x = W6.heap.size := ⟨_, rfl⟩
            have hcx : Chg [] W6 W7 := by rw [hX]; exact (Chg.refl _ _).alloc _
            have hbx : W7.heap[n8]? = some (.cells #[.int .i64 3, .int .i64 0, .string ⟨#[36, 47, 99, 97, 110, 99, 101, 108]⟩, .slice none 0 0, .slice none 0 0, .int .i64 5, .int .i64 0, .string ⟨#[]⟩, .slice (some ⟨n2, 0, none⟩) 1 1, .slice (some ⟨n6, 0, none⟩) 1 1] 25 (0, 0)) := by rw [hX, hn]; exact heap_at _ _ _ rfl
            have Hge8 : Hid (mb ≤ n8) := Lib.hid (by have h1 := (HcA.out.trans (HcB.out.trans Hc6.out)).size; have h2 := Hmb.out; omega)
            have Hgt8 : Hid (mb + 1 < n8) := Lib.hid (by have h1 := Hc6.out.size; have h2 := lt_of_obj Hr3.out; omega)
            rw [← hX, ← hn]
            clear hX hn
            have Hc7 := Lib.hid (Hc6.out.trans hcx)
            have Hn2 := Lib.hid ((hcx.block n2 (lt_of_obj Hn2.out) (by simp)).trans Hn2.out)
            have Hn6 := Lib.hid ((hcx.block n6 (lt_of_obj Hn6.out) (by simp)).trans Hn6.out)
            have Hn0 := Lib.hid ((hcx.block n0 (lt_of_obj Hn0.out) (by simp)).trans Hn0.out)
            have Hn8 := Lib.hid hbx
            clear hbx
            have hS := HS.out _ Hc7.out
            refine hK _ _ (fun _ => hS) trivial ?_
            clear hK K hcx
            refine anyU_one (k := 9) (by kernel_rfl) rfl (fun K hK => ?_)
            go_simp
            refine (object_any (some ⟨n0, 0, none⟩) (some ⟨n8, 0, none⟩) 2 2 2 2 W7).mono ?_
            rintro e W8 ⟨rfl, hcx⟩
            have Hc8 := Lib.hid (Hc7.out.trans hcx)
            have Hn2 := Lib.hid ((hcx.block n2 (lt_of_obj Hn2.out) (by simp)).trans Hn2.out)
            have Hn6 := Lib.hid ((hcx.block n6 (lt_of_obj Hn6.out) (by simp)).trans Hn6.out)
            have Hn0 := Lib.hid ((hcx.block n0 (lt_of_obj Hn0.out) (by simp)).trans Hn0.out)
            have Hn8 := Lib.hid ((hcx.block n8 (lt_of_obj Hn8.out) (by simp)).trans Hn8.out)
            have hS := HS.out _ Hc8.out
            refine hK _ _ (fun _ => hS) trivial ?_
            clear hK K hcx
            refine anyU_one (k := 10) (by kernel_rfl) rfl (fun K hK => ?_)
            have hrx := (Hc8.out.block (mb + 1) (lt_of_obj Hr3.out) (by simp)).trans Hr3.out
            obtain ⟨r0, r1, r2, r3, r4⟩ := box_kept (mb + 1) hrx (Chg.refl [] W8)
            have fr := fun i => frozen_of_heap (i := i) hrx
            have lr := lt_of_cell r0
            go_simp
            refine hK _ _ (fun h => by simp at h) trivial ?_
            clear hK K hS
            refine anyU_done (by kernel_rfl) ?_
            go_wp2_with fail
            refine bodyPost_ret (v := .agg #[.int .i64 5, .int .i64 0, .string ⟨#[]⟩, .slice (some ⟨n0, 0, none⟩) 2 2, .slice (some ⟨n8, 0, none⟩) 2 2]) (by simp [results, Tryd.results33, go_sem, r0, r1, r2, r3, r4]) rfl ?_
            have hcs := st5_chg W8 (mb + 1) 0 ⟨5, 0, ⟨#[]⟩, some ⟨n0, 0, none⟩, 2, 2, some ⟨n8, 0, none⟩, 2, 2⟩
            exact toObj5_end ((hcs.block n0 (lt_of_obj Hn0.out) (by have h2 := Hgt0.out; simp; omega)).trans Hn0.out) ((hcs.block n2 (lt_of_obj Hn2.out) (by have h2 := Hgt2.out; simp; omega)).trans Hn2.out) ((hcs.block n6 (lt_of_obj Hn6.out) (by have h2 := Hgt6.out; simp; omega)).trans Hn6.out) ((hcs.block n8 (lt_of_obj Hn8.out) (by have h2 := Hgt8.out; simp; omega)).trans Hn8.out) Hge0.out Hge2.out Hge6.out Hge8.out Hmb.out ((HcA.out.trans (HcB.out.trans Hc8.out)).comp hcs fun g hg => Or.inr (by have := List.mem_singleton.1 hg; have := Hmb.out; omega))
          · skip
            go_simp
            refine (object_any (some ⟨n2, 0, none⟩) (some ⟨n6, 0, none⟩) 1 1 1 1 W4).mono ?_
            rintro e W5 ⟨rfl, hcx⟩
            have Hc5 := Lib.hid (Hc4.out.trans hcx)
            have Hn2 := Lib.hid ((hcx.block n2 (lt_of_obj Hn2.out) (by simp)).trans Hn2.out)
            have Hn6 := Lib.hid ((hcx.block n6 (lt_of_obj Hn6.out) (by simp)).trans Hn6.out)
            have hS := HS.out _ Hc5.out
            refine hK _ _ (fun _ => hS) trivial ?_
            clear hK K hcx
            refine anyU_two (k := 0) (k' := 8) (by kernel_rfl) rfl rfl (fun K hK => ?_) (fun K hK => ?_) 
            · skip
              go_simp
              obtain ⟨W6, hX⟩ : ∃ x, x = W5.alloc (.cells #[.string ⟨#[109, 101, 116, 104, 111, 100]⟩, .string ⟨#[112, 97, 114, 97, 109, 115]⟩] 9) := ⟨_, rfl⟩
              obtain ⟨n0, hn⟩ : ∃ x, x = W5.heap.size := ⟨_, rfl⟩
              have hcx : Chg [] W5 W6 := by rw [hX]; exact (Chg.refl _ _).alloc _
              have hbx : W6.heap[n0]? = some (.cells #[.string ⟨#[109, 101, 116, 104, 111, 100]⟩, .string ⟨#[112, 97, 114, 97, 109, 115]⟩] 9 (0, 0)) := by rw [hX, hn]; exact heap_at _ _ _ rfl
              have Hge0 : Hid (mb ≤ n0) := Lib.hid (by have h1 := (HcA.out.trans (HcB.out.trans Hc5.out)).size; have h2 := Hmb.out; omega)
              have Hgt0 : Hid (mb + 1 < n0) := Lib.hid (by have h1 := Hc5.out.size; have h2 := lt_of_obj Hr3.out; omega)
              rw [← hX, ← hn]
              clear hX hn
              have Hc6 := Lib.hid (Hc5.out.trans hcx)
              have Hn2 := Lib.hid ((hcx.block n2 (lt_of_obj Hn2.out) (by simp)).trans Hn2.out)
              have Hn6 := Lib.hid ((hcx.block n6 (lt_of_obj Hn6.out) (by simp)).trans Hn6.out)
              have Hn0 := Lib.hid hbx
              clear hbx
              have hS := HS.out _ Hc6.out
              refine hK _ _ (fun _ => hS) trivial ?_
              clear hK K hcx
              refine anyU_one (k := 8) (by kernel_rfl) rfl (fun K hK => ?_)
              go_simp
              obtain ⟨W7, hX⟩ : ∃ x, x = W6.alloc (.cells #[.int .i64 3, .int .i64 0, .string ⟨#[36, 47, 99, 97, 110, 99, 101, 108]⟩, .slice none 0 0, .slice none 0 0, .int .i64 5, .int .i64 0, .string ⟨#[]⟩, .slice (some ⟨n2, 0, none⟩) 1 1, .slice (some ⟨n6, 0, none⟩) 1 1] 25) := ⟨_, rfl⟩
              obtain ⟨n8, hn⟩ : ∃ x, x = W6.heap.size := ⟨_, rfl⟩
              have hcx : Chg [] W6 W7 := by rw [hX]; exact (Chg.refl _ _).alloc _
              have hbx : W7.heap[n8]? = some (.cells #[.int .i64 3, .int .i64 0, .string ⟨#[36, 47, 99, 97, 110, 99, 101, 108]⟩, .slice none 0 0, .slice none 0 0, .int .i64 5, .int .i64 0, .string ⟨#[]⟩, .slice (some ⟨n2, 0, none⟩) 1 1, .slice (some ⟨n6, 0, none⟩) 1 1] 25 (0, 0)) := by rw [hX, hn]; exact heap_at _ _ _ rfl
              have Hge8 : Hid (mb ≤ n8) := Lib.hid (by have h1 := (HcA.out.trans (HcB.out.trans Hc6.out)).size; have h2 := Hmb.out; omega)
              have Hgt8 : Hid (mb + 1 < n8) := Lib.hid (by have h1 := Hc6.out.size; have h2 := lt_of_obj Hr3.out; omega)
              rw [← hX, ← hn]
              clear hX hn
              have Hc7 := Lib.hid (Hc6.out.trans hcx)
              have Hn2 := Lib.hid ((hcx.block n2 (lt_of_obj Hn2.out) (by simp)).trans Hn2.out)
              have Hn6 := Lib.hid ((hcx.block n6 (lt_of_obj Hn6.out) (by simp)).trans Hn6.out)
              have Hn0 := Lib.hid ((hcx.block n0 (lt_of_obj Hn0.out) (by simp)).trans Hn0.out)
              have Hn8 := Lib.hid hbx
              clear hbx
              have hS := HS.out _ Hc7.out
              refine hK _ _ (fun _ => hS) trivial ?_
              clear hK K hcx
              refine anyU_one (k := 9) (by kernel_rfl) rfl (fun K hK => ?_)
              go_simp
              refine (object_any (some ⟨n0, 0, none⟩) (some ⟨n8, 0, none⟩) 2 2 2 2 W7).mono ?_
              rintro e W8 ⟨rfl, hcx⟩
              have Hc8 := Lib.hid (Hc7.out.trans hcx)
              have Hn2 := Lib.hid ((hcx.block n2 (lt_of_obj Hn2.out) (by simp)).trans Hn2.out)
              have Hn6 := Lib.hid ((hcx.block n6 (lt_of_obj Hn6.out) (by simp)).trans Hn6.out)
              have Hn0 := Lib.hid ((hcx.block n0 (lt_of_obj Hn0.out) (by simp)).trans Hn0.out)
              have Hn8 := Lib.hid ((hcx.block n8 (lt_of_obj Hn8.out) (by simp)).trans Hn8.out)
              have hS := HS.out _ Hc8.out
              refine hK _ _ (fun _ => hS) trivial ?_
              clear hK K hcx
              refine anyU_one (k := 10) (by kernel_rfl) rfl (fun K hK => ?_)
              have hrx := (Hc8.out.block (mb + 1) (lt_of_obj Hr3.out) (by simp)).trans Hr3.out
              obtain ⟨r0, r1, r2, r3, r4⟩ := box_kept (mb + 1) hrx (Chg.refl [] W8)
              have fr := fun i => frozen_of_heap (i := i) hrx
              have lr := lt_of_cell r0
              go_simp
              refine hK _ _ (fun h => by simp at h) trivial ?_
              clear hK K hS
              refine anyU_done (by kernel_rfl) ?_
              go_wp2_with fail
              refine bodyPost_ret (v := .agg #[.int .i64 5, .int .i64 0, .string ⟨#[]⟩, .slice (some ⟨n0, 0, none⟩) 2 2, .slice (some ⟨n8, 0, none⟩) 2 2]) (by simp [results, Tryd.results33, go_sem, r0, r1, r2, r3, r4]) rfl ?_
              have hcs := st5_chg W8 (mb + 1) 0 ⟨5, 0, ⟨#[]⟩, some ⟨n0, 0, none⟩, 2, 2, some ⟨n8, 0, none⟩, 2, 2⟩
              exact toObj5_end ((hcs.block n0 (lt_of_obj Hn0.out) (by have h2 := Hgt0.out; simp; omega)).trans Hn0.out) ((hcs.block n2 (lt_of_obj Hn2.out) (by have h2 := Hgt2.out; simp; omega)).trans Hn2.out) ((hcs.block n6 (lt_of_obj Hn6.out) (by have h2 := Hgt6.out; simp; omega)).trans Hn6.out) ((hcs.block n8 (lt_of_obj Hn8.out) (by have h2 := Hgt8.out; simp; omega)).trans Hn8.out) Hge0.out Hge2.out Hge6.out Hge8.out Hmb.out ((HcA.out.trans (HcB.out.trans Hc8.out)).comp hcs fun g hg => Or.inr (by have := List.mem_singleton.1 hg; have := Hmb.out; omega))
            · skip
              go_simp
              obtain ⟨W6, hX⟩ : ∃ x, x = W5.alloc (.cells #[.int .i64 3, .int .i64 0, .string ⟨#[36, 47, 99, 97, 110, 99, 101, 108]⟩, .slice none 0 0, .slice none 0 0, .int .i64 5, .int .i64 0, .string ⟨#[]⟩, .slice (some ⟨n2, 0, none⟩) 1 1, .slice (some ⟨n6, 0, none⟩) 1 1] 25) := ⟨_, rfl⟩
              obtain ⟨n8, hn⟩ : ∃ x, x = W5.heap.size := ⟨_, rfl⟩
              have hcx : Chg [] W5 W6 := by rw [hX]; exact (Chg.refl _ _).alloc _
              have hbx : W6.heap[n8]? = some (.cells #[.int .i64 3, .int .i64 0, .string ⟨#[36, 47, 99, 97, 110, 99, 101, 108]⟩, .slice none 0 0, .slice none 0 0, .int .i64 5, .int .i64 0, .string ⟨#[]⟩, .slice (some ⟨n2, 0, none⟩) 1 1, .slice (some ⟨n6, 0, none⟩) 1 1] 25 (0, 0)) := by rw [hX, hn]; exact heap_at _ _ _ rfl
              have Hge8 : Hid (mb ≤ n8) := Lib.hid (by have h1 := (HcA.out.trans (HcB.out.trans Hc5.out)).size; have h2 := Hmb.out; omega)
              have Hgt8 : Hid (mb + 1 < n8) := Lib.hid (by have h1 := Hc5.out.size; have h2 := lt_of_obj Hr3.out; omega)
              rw [← hX, ← hn]
              clear hX hn
              have Hc6 := Lib.hid (Hc5.out.trans hcx)
              have Hn2 := Lib.hid ((hcx.block n2 (lt_of_obj Hn2.out) (by simp)).trans Hn2.out)
              have Hn6 := Lib.hid ((hcx.block n6 (lt_of_obj Hn6.out) (by simp)).trans Hn6.out)
              have Hn8 := Lib.hid hbx
              clear hbx
              have hS := HS.out _ Hc6.out
              refine hK _ _ (fun _ => hS) trivial ?_
              clear hK K hcx
              refine anyU_one (k := 0) (by kernel_rfl) rfl (fun K hK => ?_)
              go_simp
              obtain ⟨W7, hX⟩ : ∃ x, x = W6.alloc (.cells #[.string ⟨#[109, 101, 116, 104, 111, 100]⟩, .string ⟨#[112, 97, 114, 97, 109, 115]⟩] 9) := ⟨_, rfl⟩
              obtain ⟨n0, hn⟩ : ∃ x, x = W6.heap.size := ⟨_, rfl⟩
              have hcx : Chg [] W6 W7 := by rw [hX]; exact (Chg.refl _ _).alloc _
              have hbx : W7.heap[n0]? = some (.cells #[.string ⟨#[109, 101, 116, 104, 111, 100]⟩, .string ⟨#[112, 97, 114, 97, 109, 115]⟩] 9 (0, 0)) := by rw [hX, hn]; exact heap_at _ _ _ rfl
              have Hge0 : Hid (mb ≤ n0) := Lib.hid (by have h1 := (HcA.out.trans (HcB.out.trans Hc6.out)).size; have h2 := Hmb.out; omega)
              have Hgt0 : Hid (mb + 1 < n0) := Lib.hid (by have h1 := Hc6.out.size; have h2 := lt_of_obj Hr3.out; omega)
              rw [← hX, ← hn]
              clear hX hn
              have Hc7 := Lib.hid (Hc6.out.trans hcx)
              have Hn2 := Lib.hid ((hcx.block n2 (lt_of_obj Hn2.out) (by simp)).trans Hn2.out)
              have Hn6 := Lib.hid ((hcx.block n6 (lt_of_obj Hn6.out) (by simp)).trans Hn6.out)
              have Hn8 := Lib.hid ((hcx.block n8 (lt_of_obj Hn8.out) (by simp)).trans Hn8.out)
              have Hn0 := Lib.hid hbx
              clear hbx
              have hS := HS.out _ Hc7.out
              refine hK _ _ (fun _ => hS) trivial ?_
              clear hK K hcx
              refine anyU_one (k := 9) (by kernel_rfl) rfl (fun K hK => ?_)
              go_simp
              refine (object_any (some ⟨n0, 0, none⟩) (some ⟨n8, 0, none⟩) 2 2 2 2 W7).mono ?_
              rintro e W8 ⟨rfl, hcx⟩
              have Hc8 := Lib.hid (Hc7.out.trans hcx)
              have Hn2 := Lib.hid ((hcx.block n2 (lt_of_obj Hn2.out) (by simp)).trans Hn2.out)
              have Hn6 := Lib.hid ((hcx.block n6 (lt_of_obj Hn6.out) (by simp)).trans Hn6.out)
              have Hn8 := Lib.hid ((hcx.block n8 (lt_of_obj Hn8.out) (by simp)).trans Hn8.out)
              have Hn0 := Lib.hid ((hcx.block n0 (lt_of_obj Hn0.out) (by simp)).trans Hn0.out)
              have hS := HS.out _ Hc8.out
              refine hK _ _ (fun _ => hS) trivial ?_
              clear hK K hcx
              refine anyU_one (k := 10) (by kernel_rfl) rfl (fun K hK => ?_)
              have hrx := (Hc8.out.block (mb + 1) (lt_of_obj Hr3.out) (by simp)).trans Hr3.out
              obtain ⟨r0, r1, r2, r3, r4⟩ := box_kept (mb + 1) hrx (Chg.refl [] W8)
              have fr := fun i => frozen_of_heap (i := i) hrx
              have lr := lt_of_cell r0
              go_simp
              refine hK _ _ (fun h => by simp at h) trivial ?_
              clear hK K hS
              refine anyU_done (by kernel_rfl) ?_
              go_wp2_with fail
              refine bodyPost_ret (v := .agg #[.int .i64 5, .int .i64 0, .string ⟨#[]⟩, .slice (some ⟨n0, 0, none⟩) 2 2, .slice (some ⟨n8, 0, none⟩) 2 2]) (by simp [results, Tryd.results33, go_sem, r0, r1, r2, r3, r4]) rfl ?_
              have hcs := st5_chg W8 (mb + 1) 0 ⟨5, 0, ⟨#[]⟩, some ⟨n0, 0, none⟩, 2, 2, some ⟨n8, 0, none⟩, 2, 2⟩
              exact toObj5_end ((hcs.block n0 (lt_of_obj Hn0.out) (by have h2 := Hgt0.out; simp; omega)).trans Hn0.out) ((hcs.block n2 (lt_of_obj Hn2.out) (by have h2 := Hgt2.out; simp; omega)).trans Hn2.out) ((hcs.block n6 (lt_of_obj Hn6.out) (by have h2 := Hgt6.out; simp; omega)).trans Hn6.out) ((hcs.block n8 (lt_of_obj Hn8.out) (by have h2 := Hgt8.out; simp; omega)).trans Hn8.out) Hge0.out Hge2.out Hge6.out Hge8.out Hmb.out ((HcA.out.trans (HcB.out.trans Hc8.out)).comp hcs fun g hg => Or.inr (by have := List.mem_singleton.1 hg; have := Hmb.out; omega))
    · skip
      go_simp
      refine (number_any i W1).mono ?_
      rintro e W2 ⟨rfl, hcx⟩
      have Hc2 := Lib.hid (Hc1.out.trans hcx)
      have hS := HS.out _ Hc2.out
      refine hK _ _ (fun _ => hS) trivial ?_
      clear hK K hcx
      refine anyU_three (k := 0) (k' := 2) (k'' := 6) (by kernel_rfl) rfl rfl rfl (fun K hK => ?_) (fun K hK => ?_) (fun K hK => ?_) 
      · skip
        go_simp
        obtain ⟨W3, hX⟩ : ∃ x, x = W2.alloc (.cells #[.string ⟨#[109, 101, 116, 104, 111, 100]⟩, .string ⟨#[112, 97, 114, 97, 109, 115]⟩] 9) := ⟨_, rfl⟩
        obtain ⟨n0, hn⟩ : ∃ x, x = W2.heap.size := ⟨_, rfl⟩
        have hcx : Chg [] W2 W3 := by rw [hX]; exact (Chg.refl _ _).alloc _
        have hbx : W3.heap[n0]? = some (.cells #[.string ⟨#[109, 101, 116, 104, 111, 100]⟩, .string ⟨#[112, 97, 114, 97, 109, 115]⟩] 9 (0, 0)) := by rw [hX, hn]; exact heap_at _ _ _ rfl
        have Hge0 : Hid (mb ≤ n0) := Lib.hid (by have h1 := (HcA.out.trans (HcB.out.trans Hc2.out)).size; have h2 := Hmb.out; omega)
        have Hgt0 : Hid (mb + 1 < n0) := Lib.hid (by have h1 := Hc2.out.size; have h2 := lt_of_obj Hr3.out; omega)
        rw [← hX, ← hn]
        clear hX hn
        have Hc3 := Lib.hid (Hc2.out.trans hcx)
        have Hn0 := Lib.hid hbx
        clear hbx
        have hS := HS.out _ Hc3.out
        refine hK _ _ (fun _ => hS) trivial ?_
        clear hK K hcx
        refine anyU_two (k := 2) (k' := 6) (by kernel_rfl) rfl rfl (fun K hK => ?_) (fun K hK => ?_) 
        · skip
          go_simp
          obtain ⟨W4, hX⟩ : ∃ x, x = W3.alloc (.cells #[.string ⟨#[105, 100]⟩] 9) := ⟨_, rfl⟩
          obtain ⟨n2, hn⟩ : ∃ x, x = W3.heap.size := ⟨_, rfl⟩
          have hcx : Chg [] W3 W4 := by rw [hX]; exact (Chg.refl _ _).alloc _
          have hbx : W4.heap[n2]? = some (.cells #[.string ⟨#[105, 100]⟩] 9 (0, 0)) := by rw [hX, hn]; exact heap_at _ _ _ rfl
          have Hge2 : Hid (mb ≤ n2) := Lib.hid (by have h1 := (HcA.out.trans (HcB.out.trans Hc3.out)).size; have h2 := Hmb.out; omega)
          have Hgt2 : Hid (mb + 1 < n2) := Lib.hid (by have h1 := Hc3.out.size; have h2 := lt_of_obj Hr3.out; omega)
          rw [← hX, ← hn]
          clear hX hn
          have Hc4 := Lib.hid (Hc3.out.trans hcx)
          have Hn0 := Lib.hid ((hcx.block n0 (lt_of_obj Hn0.out) (by simp)).trans Hn0.out)
          have Hn2 := Lib.hid hbx
          clear hbx
          have hS := HS.out _ Hc4.out
          refine hK _ _ (fun _ => hS) trivial ?_
          clear hK K hcx
          refine anyU_one (k := 6) (by kernel_rfl) rfl (fun K hK => ?_)
          go_simp
          obtain ⟨W5, hX⟩ : ∃ x, x = W4.alloc (.cells #[.int .i64 2, .int .i64 i, .string ⟨#[]⟩, .slice none 0 0, .slice none 0 0] 25) := ⟨_, rfl⟩
          obtain ⟨n6, hn⟩ : ∃ x, x = W4.heap.size := ⟨_, rfl⟩
          have hcx : Chg [] W4 W5 := by rw [hX]; exact (Chg.refl _ _).alloc _
          have hbx : W5.heap[n6]? = some (.cells #[.int .i64 2, .int .i64 i, .string ⟨#[]⟩, .slice none 0 0, .slice none 0 0] 25 (0, 0)) := by rw [hX, hn]; exact heap_at _ _ _ rfl
          have Hge6 : Hid (mb ≤ n6) := Lib.hid (by have h1 := (HcA.out.trans (HcB.out.trans Hc4.out)).size; have h2 := Hmb.out; omega)
          have Hgt6 : Hid (mb + 1 < n6) := Lib.hid (by have h1 := Hc4.out.size; have h2 := lt_of_obj Hr3.out; omega)
          rw [← hX, ← hn]
          clear hX hn
          have Hc5 := Lib.hid (Hc4.out.trans hcx)
          have Hn0 := Lib.hid ((hcx.block n0 (lt_of_obj Hn0.out) (by simp)).trans Hn0.out)
          have Hn2 := Lib.hid ((hcx.block n2 (lt_of_obj Hn2.out) (by simp)).trans Hn2.out)
          have Hn6 := Lib.hid hbx
          clear hbx
          have hS := HS.out _ Hc5.out
          refine hK _ _ (fun _ => hS) trivial ?_
          clear hK K hcx
          refine anyU_one (k := 7) (by kernel_rfl) rfl (fun K hK => ?_)
          go_simp
          refine (object_any (some ⟨n2, 0, none⟩) (some ⟨n6, 0, none⟩) 1 1 1 1 W5).mono ?_
          rintro e W6 ⟨rfl, hcx⟩
          have Hc6 := Lib.hid (Hc5.out.trans hcx)
          have Hn0 := Lib.hid ((hcx.block n0 (lt_of_obj Hn0.out) (by simp)).trans Hn0.out)
          have Hn2 := Lib.hid ((hcx.block n2 (lt_of_obj Hn2.out) (by simp)).trans Hn2.out)
          have Hn6 := Lib.hid ((hcx.block n6 (lt_of_obj Hn6.out) (by simp)).trans Hn6.out)
          have hS := HS.out _ Hc6.out
          refine hK _ _ (fun _ => hS) trivial ?_
          clear hK K hcx
          refine anyU_one (k := 8) (by kernel_rfl) rfl (fun K hK => ?_)
          go_simp
          obtain ⟨W7, hX⟩ : ∃ x, x = W6.alloc (.cells #[.int .i64 3, .int .i64 0, .string ⟨#[36, 47, 99, 97, 110, 99, 101, 108]⟩, .slice none 0 0, .slice none 0 0, .int .i64 5, .int .i64 0, .string ⟨#[]⟩, .slice (some ⟨n2, 0, none⟩) 1 1, .slice (some ⟨n6, 0, none⟩) 1 1] 25) := ⟨_, rfl⟩
          obtain ⟨n8, hn⟩ : ∃ x, x = W6.heap.size := ⟨_, rfl⟩
          have hcx : Chg [] W6 W7 := by rw [hX]; exact (Chg.refl _ _).alloc _
          have hbx : W7.heap[n8]? = some (.cells #[.int .i64 3, .int .i64 0, .string ⟨#[36, 47, 99, 97, 110, 99, 101, 108]⟩, .slice none 0 0, .slice none 0 0, .int .i64 5, .int .i64 0, .string ⟨#[]⟩, .slice (some ⟨n2, 0, none⟩) 1 1, .slice (some ⟨n6, 0, none⟩) 1 1] 25 (0, 0)) := by rw [hX, hn]; exact heap_at _ _ _ rfl
          have Hge8 : Hid (mb ≤ n8) := Lib.hid (by have h1 := (HcA.out.trans (HcB.out.trans Hc6.out)).size; have h2 := Hmb.out; omega)
          have Hgt8 : Hid (mb + 1 < n8) := Lib.hid (by have h1 := Hc6.out.size; have h2 := lt_of_obj Hr3.out; omega)
          rw [← hX, ← hn]
          clear hX hn
          have Hc7 := Lib.hid (Hc6.out.trans hcx)
          have Hn0 := Lib.hid ((hcx.block n0 (lt_of_obj Hn0.out) (by simp)).trans Hn0.out)
          have Hn2 := Lib.hid ((hcx.block n2 (lt_of_obj Hn2.out) (by simp)).trans Hn2.out)
          have Hn6 := Lib.hid ((hcx.block n6 (lt_of_obj Hn6.out) (by simp)).trans Hn6.out)
          have Hn8 := Lib.hid hbx
          clear hbx
          have hS := HS.out _ Hc7.out
          refine hK _ _ (fun _ => hS) trivial ?_
          clear hK K hcx
          refine anyU_one (k := 9) (by kernel_rfl) rfl (fun K hK => ?_)
          go_simp
          refine (object_any (some ⟨n0, 0, none⟩) (some ⟨n8, 0, none⟩) 2 2 2 2 W7).mono ?_
          rintro e W8 ⟨rfl, hcx⟩
          have Hc8 := Lib.hid (Hc7.out.trans hcx)
          have Hn0 := Lib.hid ((hcx.block n0 (lt_of_obj Hn0.out) (by simp)).trans Hn0.out)
          have Hn2 := Lib.hid ((hcx.block n2 (lt_of_obj Hn2.out) (by simp)).trans Hn2.out)
          have Hn6 := Lib.hid ((hcx.block n6 (lt_of_obj Hn6.out) (by simp)).trans Hn6.out)
          have Hn8 := Lib.hid ((hcx.block n8 (lt_of_obj Hn8.out) (by simp)).trans Hn8.out)
          have hS := HS.out _ Hc8.out
          refine hK _ _ (fun _ => hS) trivial ?_
          clear hK K hcx
          refine anyU_one (k := 10) (by kernel_rfl) rfl (fun K hK => ?_)
          have hrx := (Hc8.out.block (mb + 1) (lt_of_obj Hr3.out) (by simp)).trans Hr3.out
          obtain ⟨r0, r1, r2, r3, r4⟩ := box_kept (mb + 1) hrx (Chg.refl [] W8)
          have fr := fun i => frozen_of_heap (i := i) hrx
          have lr := lt_of_cell r0
          go_simp
          refine hK _ _ (fun h => by simp at h) trivial ?_
          clear hK K hS
          refine anyU_done (by kernel_rfl) ?_
          go_wp2_with fail
          refine bodyPost_ret (v := .agg #[.int .i64 5, .int .i64 0, .string ⟨#[]⟩, .slice (some ⟨n0, 0, none⟩) 2 2, .slice (some ⟨n8, 0, none⟩) 2 2]) (by simp [results, Tryd.results33, go_sem, r0, r1, r2, r3, r4]) rfl ?_
          have hcs := st5_chg W8 (mb + 1) 0 ⟨5, 0, ⟨#[]⟩, some ⟨n0, 0, none⟩, 2, 2, some ⟨n8, 0, none⟩, 2, 2⟩
          exact toObj5_end ((hcs.block n0 (lt_of_obj Hn0.out) (by have h2 := Hgt0.out; simp; omega)).trans Hn0.out) ((hcs.block n2 (lt_of_obj Hn2.out) (by have h2 := Hgt2.out; simp; omega)).trans Hn2.out) ((hcs.block n6 (lt_of_obj Hn6.out) (by have h2 := Hgt6.out; simp; omega)).trans Hn6.out) ((hcs.block n8 (lt_of_obj Hn8.out) (by have h2 := Hgt8.out; simp; omega)).trans Hn8.out) Hge0.out Hge2.out Hge6.out Hge8.out Hmb.out ((HcA.out.trans (HcB.out.trans Hc8.out)).comp hcs fun g hg => Or.inr (by have := List.mem_singleton.1 hg; have := Hmb.out; omega))
        · skip
          go_simp
          obtain ⟨W4, hX⟩ : ∃ x, x = W3.alloc (.cells #[.int .i64 2, .int .i64 i, .string ⟨#[]⟩, .slice none 0 0, .slice none 0 0] 25) := ⟨_, rfl⟩
          obtain ⟨n6, hn⟩ : ∃ x, x = W3.heap.size := ⟨_, rfl⟩
          have hcx : Chg [] W3 W4 := by rw [hX]; exact (Chg.refl _ _).alloc _
          have hbx : W4.heap[n6]? = some (.cells #[.int .i64 2, .int .i64 i, .string ⟨#[]⟩, .slice none 0 0, .slice none 0 0] 25 (0, 0)) := by rw [hX, hn]; exact heap_at _ _ _ rfl
          have Hge6 : Hid (mb ≤ n6) := Lib.hid (by have h1 := (HcA.out.trans (HcB.out.trans Hc3.out)).size; have h2 := Hmb.out; omega)
          have Hgt6 : Hid (mb + 1 < n6) := Lib.hid (by have h1 := Hc3.out.size; have h2 := lt_of_obj Hr3.out; omega)
          rw [← hX, ← hn]
          clear hX hn
          have Hc4 := Lib.hid (Hc3.out.trans hcx)
          have Hn0 := Lib.hid ((hcx.block n0 (lt_of_obj Hn0.out) (by simp)).trans Hn0.out)
          have Hn6 := Lib.hid hbx
          clear hbx
          have hS := HS.out _ Hc4.out
          refine hK _ _ (fun _ => hS) trivial ?_
          clear hK K hcx
          refine anyU_one (k := 2) (by kernel_rfl) rfl (fun K hK => ?_)
          go_simp
          obtain ⟨W5, hX⟩ : ∃ x, x = W4.alloc (.cells #[.string ⟨#[105, 100]⟩] 9) := ⟨_, rfl⟩
          obtain ⟨n2, hn⟩ : ∃ x, x = W4.heap.size := ⟨_, rfl⟩
          have hcx : Chg [] W4 W5 := by rw [hX]; exact (Chg.refl _ _).alloc _
          have hbx : W5.heap[n2]? = some (.cells #[.string ⟨#[105, 100]⟩] 9 (0, 0)) := by rw [hX, hn]; exact heap_at _ _ _ rfl
          have Hge2 : Hid (mb ≤ n2) := Lib.hid (by have h1 := (HcA.out.trans (HcB.out.trans Hc4.out)).size; have h2 := Hmb.out; omega)
          have Hgt2 : Hid (mb + 1 < n2) := Lib.hid (by have h1 := Hc4.out.size; have h2 := lt_of_obj Hr3.out; omega)
          rw [← hX, ← hn]
          clear hX hn
          have Hc5 := Lib.hid (Hc4.out.trans hcx)
          have Hn0 := Lib.hid ((hcx.block n0 (lt_of_obj Hn0.out) (by simp)).trans Hn0.out)
          have Hn6 := Lib.hid ((hcx.block n6 (lt_of_obj Hn6.out) (by simp)).trans Hn6.out)
          have Hn2 := Lib.hid hbx
          clear hbx
          have hS := HS.out _ Hc5.out
          refine hK _ _ (fun _ => hS) trivial ?_
          clear hK K hcx
          refine anyU_one (k := 7) (by kernel_rfl) rfl (fun K hK => ?_)
          go_simp
          refine (object_any (some ⟨n2, 0, none⟩) (some ⟨n6, 0, none⟩) 1 1 1 1 W5).mono ?_
          rintro e W6 ⟨rfl, hcx⟩
          have Hc6 := Lib.hid (Hc5.out.trans hcx)
          have Hn0 := Lib.hid ((hcx.block n0 (lt_of_obj Hn0.out) (by simp)).trans Hn0.out)
          have Hn6 := Lib.hid ((hcx.block n6 (lt_of_obj Hn6.out) (by simp)).trans Hn6.out)
          have Hn2 := Lib.hid ((hcx.block n2 (lt_of_obj Hn2.out) (by simp)).trans Hn2.out)
          have hS := HS.out _ Hc6.out
          refine hK _ _ (fun _ => hS) trivial ?_
          clear hK K hcx
          refine anyU_one (k := 8) (by kernel_rfl) rfl (fun K hK => ?_)
          go_simp
          obtain ⟨W7, hX⟩ : ∃ x, x = W6.alloc (.cells #[.int .i64 3, .int .i64 0, .string ⟨#[36, 47, 99, 97, 110, 99, 101, 108]⟩, .slice none 0 0, .slice none 0 0, .int .i64 5, .int .i64 0, .string ⟨#[]⟩, .slice (some ⟨n2, 0, none⟩) 1 1, .slice (some ⟨n6, 0, none⟩) 1 1] 25) := ⟨_, rfl⟩
          obtain ⟨n8, hn⟩ : ∃ x, x = W6.heap.size := ⟨_, rfl⟩
          have hcx : Chg [] W6 W7 := by rw [hX]; exact (Chg.refl _ _).alloc _
          have hbx : W7.heap[n8]? = some (.cells #[.int .i64 3, .int .i64 0, .string ⟨#[36, 47, 99, 97, 110, 99, 101, 108]⟩, .slice none 0 0, .slice none 0 0, .int .i64 5, .int .i64 0, .string ⟨#[]⟩, .slice (some ⟨n2, 0, none⟩) 1 1, .slice (some ⟨n6, 0, none⟩) 1 1] 25 (0, 0)) := by rw [hX, hn]; exact heap_at _ _ _ rfl
          have Hge8 : Hid (mb ≤ n8) := Lib.hid (by have h1 := (HcA.out.trans (HcB.out.trans Hc6.out)).size; have h2 := Hmb.out; omega)
          have Hgt8 : Hid (mb + 1 < n8) := Lib.hid (by have h1 := Hc6.out.size; have h2 := lt_of_obj Hr3.out; omega)
          rw [← hX, ← hn]
          clear hX hn
          have Hc7 := Lib.hid (Hc6.out.trans hcx)
          have Hn0 := Lib.hid ((hcx.block n0 (lt_of_obj Hn0.out) (by simp)).trans Hn0.out)
          have Hn6 := Lib.hid ((hcx.block n6 (lt_of_obj Hn6.out) (by simp)).trans Hn6.out)
          have Hn2 := Lib.hid ((hcx.block n2 (lt_of_obj Hn2.out) (by simp)).trans Hn2.out)
          have Hn8 := Lib.hid hbx
          clear hbx
          have hS := HS.out _ Hc7.out
          refine hK _ _ (fun _ => hS) trivial ?_
          clear hK K hcx
          refine anyU_one (k := 9) (by kernel_rfl) rfl (fun K hK => ?_)
          go_simp
          refine (object_any (some ⟨n0, 0, none⟩) (some ⟨n8, 0, none⟩) 2 2 2 2 W7).mono ?_
          rintro e W8 ⟨rfl, hcx⟩
          have Hc8 := Lib.hid (Hc7.out.trans hcx)
          have Hn0 := Lib.hid ((hcx.block n0 (lt_of_obj Hn0.out) (by simp)).trans Hn0.out)
          have Hn6 := Lib.hid ((hcx.block n6 (lt_of_obj Hn6.out) (by simp)).trans Hn6.out)
          have Hn2 := Lib.hid ((hcx.block n2 (lt_of_obj Hn2.out) (by simp)).trans Hn2.out)
          have Hn8 := Lib.hid ((hcx.block n8 (lt_of_obj Hn8.out) (by simp)).trans Hn8.out)
          have hS := HS.out _ Hc8.out
          refine hK _ _ (fun _ => hS) trivial ?_
          clear hK K hcx
          refine anyU_one (k := 10) (by kernel_rfl) rfl (fun K hK => ?_)
          have hrx := (Hc8.out.block (mb + 1) (lt_of_obj Hr3.out) (by simp)).trans Hr3.out
          obtain ⟨r0, r1, r2, r3, r4⟩ := box_kept (mb + 1) hrx (Chg.refl [] W8)
          have fr := fun i => frozen_of_heap (i := i) hrx
          have lr := lt_of_cell r0
          go_simp
          refine hK _ _ (fun h => by simp at h) trivial ?_
          clear hK K hS
          refine anyU_done (by kernel_rfl) ?_
          go_wp2_with fail
          refine bodyPost_ret (v := .agg #[.int .i64 5, .int .i64 0, .string ⟨#[]⟩, .slice (some ⟨n0, 0, none⟩) 2 2, .slice (some ⟨n8, 0, none⟩) 2 2]) (by simp [results, Tryd.results33, go_sem, r0, r1, r2, r3, r4]) rfl ?_
          have hcs := st5_chg W8 (mb + 1) 0 ⟨5, 0, ⟨#[]⟩, some ⟨n0, 0, none⟩, 2, 2, some ⟨n8, 0, none⟩, 2, 2⟩
          exact toObj5_end ((hcs.block n0 (lt_of_obj Hn0.out) (by have h2 := Hgt0.out; simp; omega)).trans Hn0.out) ((hcs.block n2 (lt_of_obj Hn2.out) (by have h2 := Hgt2.out; simp; omega)).trans Hn2.out) ((hcs.block n6 (lt_of_obj Hn6.out) (by have h2 := Hgt6.out; simp; omega)).trans Hn6.out) ((hcs.block n8 (lt_of_obj Hn8.out) (by have h2 := Hgt8.out; simp; omega)).trans Hn8.out) Hge0.out Hge2.out Hge6.out Hge8.out Hmb.out ((HcA.out.trans (HcB.out.trans Hc8.out)).comp hcs fun g hg => Or.inr (by have := List.mem_singleton.1 hg; have := Hmb.out; omega))
      · skip
        go_simp
        obtain ⟨W3, hX⟩ : ∃ x, x = W2.alloc (.cells #[.string ⟨#[105, 100]⟩] 9) := ⟨_, rfl⟩
        obtain ⟨n2, hn⟩ : ∃ x, x = W2.heap.size := ⟨_, rfl⟩
        have hcx : Chg [] W2 W3 := by rw [hX]; exact (Chg.refl _ _).alloc _
        have hbx : W3.heap[n2]? = some (.cells #[.string ⟨#[105, 100]⟩] 9 (0, 0)) := by rw [hX, hn]; exact heap_at _ _ _ rfl
        have Hge2 : Hid (mb ≤ n2) := Lib.hid (by have h1 := (HcA.out.trans (HcB.out.trans Hc2.out)).size; have h2 := Hmb.out; omega)
        have Hgt2 : Hid (mb + 1 < n2) := Lib.hid (by have h1 := Hc2.out.size; have h2 := lt_of_obj Hr3.out; omega)
        rw [← hX, ← hn]
        clear hX hn
        have Hc3 := Lib.hid (Hc2.out.trans hcx)
        have Hn2 := Lib.hid hbx
        clear hbx
        have hS := HS.out _ Hc3.out
        refine hK _ _ (fun _ => hS) trivial ?_
        clear hK K hcx
        refine anyU_two (k := 0) (k' := 6) (by kernel_rfl) rfl rfl (fun K hK => ?_) (fun K hK => ?_) 
        · skip
          go_simp
          obtain ⟨W4, hX⟩ : ∃ x, x = W3.alloc (.cells #[.string ⟨#[109, 101, 116, 104, 111, 100]⟩, .string ⟨#[112, 97, 114, 97, 109, 115]⟩] 9) := ⟨_, rfl⟩
          obtain ⟨n0, hn⟩ : ∃ x, x = W3.heap.size := ⟨_, rfl⟩
          have hcx : Chg [] W3 W4 := by rw [hX]; exact (Chg.refl _ _).alloc _
          have hbx : W4.heap[n0]? = some (.cells #[.string ⟨#[109, 101, 116, 104, 111, 100]⟩, .string ⟨#[112, 97, 114, 97, 109, 115]⟩] 9 (0, 0)) := by rw [hX, hn]; exact heap_at _ _ _ rfl
          have Hge0 : Hid (mb ≤ n0) := Lib.hid (by have h1 := (HcA.out.trans (HcB.out.trans Hc3.out)).size; have h2 := Hmb.out; omega)
          have Hgt0 : Hid (mb + 1 < n0) := Lib.hid (by have h1 := Hc3.out.size; have h2 := lt_of_obj Hr3.out; omega)
          rw [← hX, ← hn]
          clear hX hn
          have Hc4 := Lib.hid (Hc3.out.trans hcx)
          have Hn2 := Lib.hid ((hcx.block n2 (lt_of_obj Hn2.out) (by simp)).trans Hn2.out)
          have Hn0 := Lib.hid hbx
          clear hbx
          have hS := HS.out _ Hc4.out
          refine hK _ _ (fun _ => hS) trivial ?_
          clear hK K hcx
          refine anyU_one (k := 6) (by kernel_rfl) rfl (fun K hK => ?_)
          go_simp
          obtain ⟨W5, hX⟩ : ∃ x, x = W4.alloc (.cells #[.int .i64 2, .int .i64 i, .string ⟨#[]⟩, .slice none 0 0, .slice none 0 0] 25) := ⟨_, rfl⟩
          obtain ⟨n6, hn⟩ : ∃ x, x = W4.heap.size := ⟨_, rfl⟩
          have hcx : Chg [] W4 W5 := by rw [hX]; exact (Chg.refl _ _).alloc _
          have hbx : W5.heap[n6]? = some (.cells #[.int .i64 2, .int .i64 i, .string ⟨#[]⟩, .slice none 0 0, .slice none 0 0] 25 (0, 0)) := by rw [hX, hn]; exact heap_at _ _ _ rfl
          have Hge6 : Hid (mb ≤ n6) := Lib.hid (by have h1 := (HcA.out.trans (HcB.out.trans Hc4.out)).size; have h2 := Hmb.out; omega)
          have Hgt6 : Hid (mb + 1 < n6) := Lib.hid (by have h1 := Hc4.out.size; have h2 := lt_of_obj Hr3.out; omega)
          rw [← hX, ← hn]
          clear hX hn
          have Hc5 := Lib.hid (Hc4.out.trans hcx)
          have Hn2 := Lib.hid ((hcx.block n2 (lt_of_obj Hn2.out) (by simp)).trans Hn2.out)
          have Hn0 := Lib.hid ((hcx.block n0 (lt_of_obj Hn0.out) (by simp)).trans Hn0.out)
          have Hn6 := Lib.hid hbx
          clear hbx
          have hS := HS.out _ Hc5.out
          refine hK _ _ (fun _ => hS) trivial ?_
          clear hK K hcx
          refine anyU_one (k := 7) (by kernel_rfl) rfl (fun K hK => ?_)
          go_simp
          refine (object_any (some ⟨n2, 0, none⟩) (some ⟨n6, 0, none⟩) 1 1 1 1 W5).mono ?_
          rintro e W6 ⟨rfl, hcx⟩
          have Hc6 := Lib.hid (Hc5.out.trans hcx)
          have Hn2 := Lib.hid ((hcx.block n2 (lt_of_obj Hn2.out) (by simp)).trans Hn2.out)
          have Hn0 := Lib.hid ((hcx.block n0 (lt_of_obj Hn0.out) (by simp)).trans Hn0.out)
          have Hn6 := Lib.hid ((hcx.block n6 (lt_of_obj Hn6.out) (by simp)).trans Hn6.out)
          have hS := HS.out _ Hc6.out
          refine hK _ _ (fun _ => hS) trivial ?_
          clear hK K hcx
          refine anyU_one (k := 8) (by kernel_rfl) rfl (fun K hK => ?_)
          go_simp
          obtain ⟨W7, hX⟩ : ∃ x, x = W6.alloc (.cells #[.int .i64 3, .int .i64 0, .string ⟨#[36, 47, 99, 97, 110, 99, 101, 108]⟩, .slice none 0 0, .slice none 0 0, .int .i64 5, .int .i64 0, .string ⟨#[]⟩, .slice (some ⟨n2, 0, none⟩) 1 1, .slice (some ⟨n6, 0, none⟩) 1 1] 25) := ⟨_, rfl⟩
          obtain ⟨n8, hn⟩ : ∃ x, x = W6.heap.size := ⟨_, rfl⟩
          have hcx : Chg [] W6 W7 := by rw [hX]; exact (Chg.refl _ _).alloc _
          have hbx : W7.heap[n8]? = some (.cells #[.int .i64 3, .int .i64 0, .string ⟨#[36, 47, 99, 97, 110, 99, 101, 108]⟩, .slice none 0 0, .slice none 0 0, .int .i64 5, .int .i64 0, .string ⟨#[]⟩, .slice (some ⟨n2, 0, none⟩) 1 1, .slice (some ⟨n6, 0, none⟩) 1 1] 25 (0, 0)) := by rw [hX, hn]; exact heap_at _ _ _ rfl
          have Hge8 : Hid (mb ≤ n8) := Lib.hid (by have h1 := (HcA.out.trans (HcB.out.trans Hc6.out)).size; have h2 := Hmb.out; omega)
          have Hgt8 : Hid (mb + 1 < n8) := Lib.hid (by have h1 := Hc6.out.size; have h2 := lt_of_obj Hr3.out; omega)
          rw [← hX, ← hn]
          clear hX hn
          have Hc7 := Lib.hid (Hc6.out.trans hcx)
          have Hn2 := Lib.hid ((hcx.block n2 (lt_of_obj Hn2.out) (by simp)).trans Hn2.out)
          have Hn0 := Lib.hid ((hcx.block n0 (lt_of_obj Hn0.out) (by simp)).trans Hn0.out)
          have Hn6 := Lib.hid ((hcx.block n6 (lt_of_obj Hn6.out) (by simp)).trans Hn6.out)
          have Hn8 := Lib.hid hbx
          clear hbx
          have hS := HS.out _ Hc7.out
          refine hK _ _ (fun _ => hS) trivial ?_
          clear hK K hcx
          refine anyU_one (k := 9) (by kernel_rfl) rfl (fun K hK => ?_)
          go_simp
          refine (object_any (some ⟨n0, 0, none⟩) (some ⟨n8, 0, none⟩) 2 2 2 2 W7).mono ?_
          rintro e W8 ⟨rfl, hcx⟩
          have Hc8 := Lib.hid (Hc7.out.trans hcx)
          have Hn2 := Lib.hid ((hcx.block n2 (lt_of_obj Hn2.out) (by simp)).trans Hn2.out)
          have Hn0 := Lib.hid ((hcx.block n0 (lt_of_obj Hn0.out) (by simp)).trans Hn0.out)
          have Hn6 := Lib.hid ((hcx.block n6 (lt_of_obj Hn6.out) (by simp)).trans Hn6.out)
          have Hn8 := Lib.hid ((hcx.block n8 (lt_of_obj Hn8.out) (by simp)).trans Hn8.out)
          have hS := HS.out _ Hc8.out
          refine hK _ _ (fun _ => hS) trivial ?_
          clear hK K hcx
          refine anyU_one (k := 10) (by kernel_rfl) rfl (fun K hK => ?_)
          have hrx := (Hc8.out.block (mb + 1) (lt_of_obj Hr3.out) (by simp)).trans Hr3.out
          obtain ⟨r0, r1, r2, r3, r4⟩ := box_kept (mb + 1) hrx (Chg.refl [] W8)
          have fr := fun i => frozen_of_heap (i := i) hrx
          have lr := lt_of_cell r0
          go_simp
          refine hK _ _ (fun h => by simp at h) trivial ?_
          clear hK K hS
          refine anyU_done (by kernel_rfl) ?_
          go_wp2_with fail
          refine bodyPost_ret (v := .agg #[.int .i64 5, .int .i64 0, .string ⟨#[]⟩, .slice (some ⟨n0, 0, none⟩) 2 2, .slice (some ⟨n8, 0, none⟩) 2 2]) (by simp [results, Tryd.results33, go_sem, r0, r1, r2, r3, r4]) rfl ?_
          have hcs := st5_chg W8 (mb + 1) 0 ⟨5, 0, ⟨#[]⟩, some ⟨n0, 0, none⟩, 2, 2, some ⟨n8, 0, none⟩, 2, 2⟩
          exact toObj5_end ((hcs.block n0 (lt_of_obj Hn0.out) (by have h2 := Hgt0.out; simp; omega)).trans Hn0.out) ((hcs.block n2 (lt_of_obj Hn2.out) (by have h2 := Hgt2.out; simp; omega)).trans Hn2.out) ((hcs.block n6 (lt_of_obj Hn6.out) (by have h2 := Hgt6.out; simp; omega)).trans Hn6.out) ((hcs.block n8 (lt_of_obj Hn8.out) (by have h2 := Hgt8.out; simp; omega)).trans Hn8.out) Hge0.out Hge2.out Hge6.out Hge8.out Hmb.out ((HcA.out.trans (HcB.out.trans Hc8.out)).comp hcs fun g hg => Or.inr (by have := List.mem_singleton.1 hg; have := Hmb.out; omega))
        · skip
          go_simp
          obtain ⟨W4, hX⟩ : ∃ x, x = W3.alloc (.cells #[.int .i64 2, .int .i64 i, .string ⟨#[]⟩, .slice none 0 0, .slice none 0 0] 25) := ⟨_, rfl⟩
          obtain ⟨n6, hn⟩ : ∃ x, x = W3.heap.size := ⟨_, rfl⟩
          have hcx : Chg [] W3 W4 := by rw [hX]; exact (Chg.refl _ _).alloc _
          have hbx : W4.heap[n6]? = some (.cells #[.int .i64 2, .int .i64 i, .string ⟨#[]⟩, .slice none 0 0, .slice none 0 0] 25 (0, 0)) := by rw [hX, hn]; exact heap_at _ _ _ rfl
          have Hge6 : Hid (mb ≤ n6) := Lib.hid (by have h1 := (HcA.out.trans (HcB.out.trans Hc3.out)).size; have h2 := Hmb.out; omega)
          have Hgt6 : Hid (mb + 1 < n6) := Lib.hid (by have h1 := Hc3.out.size; have h2 := lt_of_obj Hr3.out; omega)
          rw [← hX, ← hn]
          clear hX hn
          have Hc4 := Lib.hid (Hc3.out.trans hcx)
          have Hn2 := Lib.hid ((hcx.block n2 (lt_of_obj Hn2.out) (by simp)).trans Hn2.out)
          have Hn6 := Lib.hid hbx
          clear hbx
          have hS := HS.out _ Hc4.out
          refine hK _ _ (fun _ => hS) trivial ?_
          clear hK K hcx
          refine anyU_two (k := 0) (k' := 7) (by kernel_rfl) rfl rfl (fun K hK => ?_) (fun K hK => ?_) 
          · skip
            go_simp
            obtain ⟨W5, hX⟩ : ∃ x, x = W4.alloc (.cells #[.string ⟨#[109, 101, 116, 104, 111, 100]⟩, .string ⟨#[112, 97, 114, 97, 109, 115]⟩] 9) := ⟨_, rfl⟩
            obtain ⟨n0, hn⟩ : ∃ x, x = W4.heap.size := ⟨_, rfl⟩
            have hcx : Chg [] W4 W5 := by rw [hX]; exact (Chg.refl _ _).alloc _
            have hbx : W5.heap[n0]? = some (.cells #[.string ⟨#[109, 101, 116, 104, 111, 100]⟩, .string ⟨#[112, 97, 114, 97, 109, 115]⟩] 9 (0, 0)) := by rw [hX, hn]; exact heap_at _ _ _ rfl
            have Hge0 : Hid (mb ≤ n0) := Lib.hid (by have h1 := (HcA.out.trans (HcB.out.trans Hc4.out)).size; have h2 := Hmb.out; omega)
            have Hgt0 : Hid (mb + 1 < n0) := Lib.hid (by have h1 := Hc4.out.size; have h2 := lt_of_obj Hr3.out; omega)
            rw [← hX, ← hn]
            clear hX hn
            have Hc5 := Lib.hid (Hc4.out.trans hcx)
            have Hn2 := Lib.hid ((hcx.block n2 (lt_of_obj Hn2.out) (by simp)).trans Hn2.out)
            have Hn6 := Lib.hid ((hcx.block n6 (lt_of_obj Hn6.out) (by simp)).trans Hn6.out)
            have Hn0 := Lib.hid hbx
            clear hbx
            have hS := HS.out _ Hc5.out
            refine hK _ _ (fun _ => hS) trivial ?_
            clear hK K hcx
            refine anyU_one (k := 7) (by kernel_rfl) rfl (fun K hK => ?_)
            go_simp
            refine (object_any (some ⟨n2, 0, none⟩) (some ⟨n6, 0, none⟩) 1 1 1 1 W5).mono ?_
            rintro e W6 ⟨rfl, hcx⟩
            have Hc6 := Lib.hid (Hc5.out.trans hcx)
            have Hn2 := Lib.hid ((hcx.block n2 (lt_of_obj Hn2.out) (by simp)).trans Hn2.out)
            have Hn6 := Lib.hid ((hcx.block n6 (lt_of_obj Hn6.out) (by simp)).trans Hn6.out)
            have Hn0 := Lib.hid ((hcx.block n0 (lt_of_obj Hn0.out) (by simp)).trans Hn0.out)
            have hS := HS.out _ Hc6.out
            refine hK _ _ (fun _ => hS) trivial ?_
            clear hK K hcx
            refine anyU_one (k := 8) (by kernel_rfl) rfl (fun K hK => ?_)
            go_simp
            obtain ⟨W7, hX⟩ : ∃ x, x = W6.alloc (.cells #[.int .i64 3, .int .i64 0, .string ⟨#[36, 47, 99, 97, 110, 99, 101, 108]⟩, .slice none 0 0, .slice none 0 0, .int .i64 5, .int .i64 0, .string ⟨#[]⟩, .slice (some ⟨n2, 0, none⟩) 1 1, .slice (some ⟨n6, 0, none⟩) 1 1] 25) := ⟨_, rfl⟩
            obtain ⟨n8, hn⟩ : ∃ x, x = W6.heap.size := ⟨_, rfl⟩
            have hcx : Chg [] W6 W7 := by rw [hX]; exact (Chg.refl _ _).alloc _
            have hbx : W7.heap[n8]? = some (.cells #[.int .i64 3, .int .i64 0, .string ⟨#[36, 47, 99, 97, 110, 99, 101, 108]⟩, .slice none 0 0, .slice none 0 0, .int .i64 5, .int .i64 0, .string ⟨#[]⟩, .slice (some ⟨n2, 0, none⟩) 1 1, .slice (some ⟨n6, 0, none⟩) 1 1] 25 (0, 0)) := by rw [hX, hn]; exact heap_at _ _ _ rfl
            have Hge8 : Hid (mb ≤ n8) := Lib.hid (by have h1 := (HcA.out.trans (HcB.out.trans Hc6.out)).size; have h2 := Hmb.out; omega)
            have Hgt8 : Hid (mb + 1 < n8) := Lib.hid (by have h1 := Hc6.out.size; have h2 := lt_of_obj Hr3.out; omega)
            rw [← hX, ← hn]
            clear hX hn
            have Hc7 := Lib.hid (Hc6.out.trans hcx)
            have Hn2 := Lib.hid ((hcx.block n2 (lt_of_obj Hn2.out) (by simp)).trans Hn2.out)
            have Hn6 := Lib.hid ((hcx.block n6 (lt_of_obj Hn6.out) (by simp)).trans Hn6.out)
            have Hn0 := Lib.hid ((hcx.block n0 (lt_of_obj Hn0.out) (by simp)).trans Hn0.out)
            have Hn8 := Lib.hid hbx
            clear hbx
            have hS := HS.out _ Hc7.out
            refine hK _ _ (fun _ => hS) trivial ?_
            clear hK K hcx
            refine anyU_one (k := 9) (by kernel_rfl) rfl (fun K hK => ?_)
            go_simp
            refine (object_any (some ⟨n0, 0, none⟩) (some ⟨n8, 0, none⟩) 2 2 2 2 W7).mono ?_
            rintro e W8 ⟨rfl, hcx⟩
            have Hc8 := Lib.hid (Hc7.out.trans hcx)
            have Hn2 := Lib.hid ((hcx.block n2 (lt_of_obj Hn2.out) (by simp)).trans Hn2.out)
            have Hn6 := Lib.hid ((hcx.block n6 (lt_of_obj Hn6.out) (by simp)).trans Hn6.out)
            have Hn0 := Lib.hid ((hcx.block n0 (lt_of_obj Hn0.out) (by simp)).trans Hn0.out)
            have Hn8 := Lib.hid ((hcx.block n8 (lt_of_obj Hn8.out) (by simp)).trans Hn8.out)
            have hS := HS.out _ Hc8.out
            refine hK _ _ (fun _ => hS) trivial ?_
            clear hK K hcx
            refine anyU_one (k := 10) (by kernel_rfl) rfl (fun K hK => ?_)
            have hrx := (Hc8.out.block (mb + 1) (lt_of_obj Hr3.out) (by simp)).trans Hr3.out
            obtain ⟨r0, r1, r2, r3, r4⟩ := box_kept (mb + 1) hrx (Chg.refl [] W8)
            have fr := fun i => frozen_of_heap (i := i) hrx
            have lr := lt_of_cell r0
            go_simp
            refine hK _ _ (fun h => by simp at h) trivial ?_
            clear hK K hS
            refine anyU_done (by kernel_rfl) ?_
            go_wp2_with fail
            refine bodyPost_ret (v := .agg #[.int .i64 5, .int .i64 0, .string ⟨#[]⟩, .slice (some ⟨n0, 0, none⟩) 2 2, .slice (some ⟨n8, 0, none⟩) 2 2]) (by simp [results, Tryd.results33, go_sem, r0, r1, r2, r3, r4]) rfl ?_
            have hcs := st5_chg W8 (mb + 1) 0 ⟨5, 0, ⟨#[]⟩, some ⟨n0, 0, none⟩, 2, 2, some ⟨n8, 0, none⟩, 2, 2⟩
            exact toObj5_end ((hcs.block n0 (lt_of_obj Hn0.out) (by have h2 := Hgt0.out; simp; omega)).trans Hn0.out) ((hcs.block n2 (lt_of_obj Hn2.out) (by have h2 := Hgt2.out; simp; omega)).trans Hn2.out) ((hcs.block n6 (lt_of_obj Hn6.out) (by have h2 := Hgt6.out; simp; omega)).trans Hn6.out) ((hcs.block n8 (lt_of_obj Hn8.out) (by have h2 := Hgt8.out; simp; omega)).trans Hn8.out) Hge0.out Hge2.out Hge6.out Hge8.out Hmb.out ((HcA.out.trans (HcB.out.trans Hc8.out)).comp hcs fun g hg => Or.inr (by have := List.mem_singleton.1 hg; have := Hmb.out; omega))
          · skip
            go_simp
            refine (object_any (some ⟨n2, 0, none⟩) (some ⟨n6, 0, none⟩) 1 1 1 1 W4).mono ?_
            rintro e W5 ⟨rfl, hcx⟩
            have Hc5 := Lib.hid (Hc4.out.trans hcx)
            have Hn2 := Lib.hid ((hcx.block n2 (lt_of_obj Hn2.out) (by simp)).trans Hn2.out)
            have Hn6 := Lib.hid ((hcx.block n6 (lt_of_obj Hn6.out) (by simp)).trans Hn6.out)
            have hS := HS.out _ Hc5.out
            refine hK _ _ (fun _ => hS) trivial ?_
            clear hK K hcx
            refine anyU_two (k := 0) (k' := 8) (by kernel_rfl) rfl rfl (fun K hK => ?_) (fun K hK => ?_) 
            · skip
              go_simp
              obtain ⟨W6, hX⟩ : ∃ x, x = W5.alloc (.cells #[.string ⟨#[109, 101, 116, 104, 111, 100]⟩, .string ⟨#[112, 97, 114, 97, 109, 115]⟩] 9) := ⟨_, rfl⟩
              obtain ⟨n0, hn⟩ : ∃ x, x = W5.heap.size := ⟨_, rfl⟩
              have hcx : Chg [] W5 W6 := by rw [hX]; exact (Chg.refl _ _).alloc _
              have hbx : W6.heap[n0]? = some (.cells #[.string ⟨#[109, 101, 116, 104, 111, 100]⟩, .string ⟨#[112, 97, 114, 97, 109, 115]⟩] 9 (0, 0)) := by rw [hX, hn]; exact heap_at _ _ _ rfl
              have Hge0 : Hid (mb ≤ n0) := Lib.hid (by have h1 := (HcA.out.trans (HcB.out.trans Hc5.out)).size; have h2 := Hmb.out; omega)
              have Hgt0 : Hid (mb + 1 < n0) := Lib.hid (by have h1 := Hc5.out.size; have h2 := lt_of_obj Hr3.out; omega)
              rw [← hX, ← hn]
              clear hX hn
              have Hc6 := Lib.hid (Hc5.out.trans hcx)
              have Hn2 := Lib.hid ((hcx.block n2 (lt_of_obj Hn2.out) (by simp)).trans Hn2.out)
              have Hn6 := Lib.hid ((hcx.block n6 (lt_of_obj Hn6.out) (by simp)).trans Hn6.out)
              have Hn0 := Lib.hid hbx
              clear hbx
              have hS := HS.out _ Hc6.out
              refine hK _ _ (fun _ => hS) trivial ?_
              clear hK K hcx
              refine anyU_one (k := 8) (by kernel_rfl) rfl (fun K hK => ?_)
              go_simp
              obtain ⟨W7, hX⟩ : ∃ x, x = W6.alloc (.cells #[.int .i64 3, .int .i64 0, .string ⟨#[36, 47, 99, 97, 110, 99, 101, 108]⟩, .slice none 0 0, .slice none 0 0, .int .i64 5, .int .i64 0, .string ⟨#[]⟩, .slice (some ⟨n2, 0, none⟩) 1 1, .slice (some ⟨n6, 0, none⟩) 1 1] 25) := ⟨_, rfl⟩
              obtain ⟨n8, hn⟩ : ∃ x, x = W6.heap.size := ⟨_, rfl⟩
              have hcx : Chg [] W6 W7 := by rw [hX]; exact (Chg.refl _ _).alloc _
              have hbx : W7.heap[n8]? = some (.cells #[.int .i64 3, .int .i64 0, .string ⟨#[36, 47, 99, 97, 110, 99, 101, 108]⟩, .slice none 0 0, .slice none 0 0, .int .i64 5, .int .i64 0, .string ⟨#[]⟩, .slice (some ⟨n2, 0, none⟩) 1 1, .slice (some ⟨n6, 0, none⟩) 1 1] 25 (0, 0)) := by rw [hX, hn]; exact heap_at _ _ _ rfl
              have Hge8 : Hid (mb ≤ n8) := Lib.hid (by have h1 := (HcA.out.trans (HcB.out.trans Hc6.out)).size; have h2 := Hmb.out; omega)
              have Hgt8 : Hid (mb + 1 < n8) := Lib.hid (by have h1 := Hc6.out.size; have h2 := lt_of_obj Hr3.out; omega)
              rw [← hX, ← hn]
              clear hX hn
              have Hc7 := Lib.hid (Hc6.out.trans hcx)
              have Hn2 := Lib.hid ((hcx.block n2 (lt_of_obj Hn2.out) (by simp)).trans Hn2.out)
              have Hn6 := Lib.hid ((hcx.block n6 (lt_of_obj Hn6.out) (by simp)).trans Hn6.out)
              have Hn0 := Lib.hid ((hcx.block n0 (lt_of_obj Hn0.out) (by simp)).trans Hn0.out)
              have Hn8 := Lib.hid hbx
              clear hbx
              have hS := HS.out _ Hc7.out
              refine hK _ _ (fun _ => hS) trivial ?_
              clear hK K hcx
              refine anyU_one (k := 9) (by kernel_rfl) rfl (fun K hK => ?_)
              go_simp
              refine (object_any (some ⟨n0, 0, none⟩) (some ⟨n8, 0, none⟩) 2 2 2 2 W7).mono ?_
              rintro e W8 ⟨rfl, hcx⟩
              have Hc8 := Lib.hid (Hc7.out.trans hcx)
              have Hn2 := Lib.hid ((hcx.block n2 (lt_of_obj Hn2.out) (by simp)).trans Hn2.out)
              have Hn6 := Lib.hid ((hcx.block n6 (lt_of_obj Hn6.out) (by simp)).trans Hn6.out)
              have Hn0 := Lib.hid ((hcx.block n0 (lt_of_obj Hn0.out) (by simp)).trans Hn0.out)
              have Hn8 := Lib.hid ((hcx.block n8 (lt_of_obj Hn8.out) (by simp)).trans Hn8.out)
              have hS := HS.out _ Hc8.out
              refine hK _ _ (fun _ => hS) trivial ?_
              clear hK K hcx
              refine anyU_one (k := 10) (by kernel_rfl) rfl (fun K hK => ?_)
              have hrx := (Hc8.out.block (mb + 1) (lt_of_obj Hr3.out) (by simp)).trans Hr3.out
              obtain ⟨r0, r1, r2, r3, r4⟩ := box_kept (mb + 1) hrx (Chg.refl [] W8)
              have fr := fun i => frozen_of_heap (i := i) hrx
              have lr := lt_of_cell r0
              go_simp
              refine hK _ _ (fun h => by simp at h) trivial ?_
              clear hK K hS
              refine anyU_done (by kernel_rfl) ?_
              go_wp2_with fail
              refine bodyPost_ret (v := .agg #[.int .i64 5, .int .i64 0, .string ⟨#[]⟩, .slice (some ⟨n0, 0, none⟩) 2 2, .slice (some ⟨n8, 0, none⟩) 2 2]) (by simp [results, Tryd.results33, go_sem, r0, r1, r2, r3, r4]) rfl ?_
              have hcs := st5_chg W8 (mb + 1) 0 ⟨5, 0, ⟨#[]⟩, some ⟨n0, 0, none⟩, 2, 2, some ⟨n8, 0, none⟩, 2, 2⟩
              exact toObj5_end ((hcs.block n0 (lt_of_obj Hn0.out) (by have h2 := Hgt0.out; simp; omega)).trans Hn0.out) ((hcs.block n2 (lt_of_obj Hn2.out) (by have h2 := Hgt2.out; simp; omega)).trans Hn2.out) ((hcs.block n6 (lt_of_obj Hn6.out) (by have h2 := Hgt6.out; simp; omega)).trans Hn6.out) ((hcs.block n8 (lt_of_obj Hn8.out) (by have h2 := Hgt8.out; simp; omega)).trans Hn8.out) Hge0.out Hge2.out Hge6.out Hge8.out Hmb.out ((HcA.out.trans (HcB.out.trans Hc8.out)).comp hcs fun g hg => Or.inr (by have := List.mem_singleton.1 hg; have := Hmb.out; omega))
            · skip
              go_simp
              obtain ⟨W6, hX⟩ : ∃ x, x = W5.alloc (.cells #[.int .i64 3, .int .i64 0, .string ⟨#[36, 47, 99, 97, 110, 99, 101, 108]⟩, .slice none 0 0, .slice none 0 0, .int .i64 5, .int .i64 0, .string ⟨#[]⟩, .slice (some ⟨n2, 0, none⟩) 1 1, .slice (some ⟨n6, 0, none⟩) 1 1] 25) := ⟨_, rfl⟩
              obtain ⟨n8, hn⟩ : ∃ x, x = W5.heap.size := ⟨_, rfl⟩
              have hcx : Chg [] W5 W6 := by rw [hX]; exact (Chg.refl _ _).alloc _
              have hbx : W6.heap[n8]? = some (.cells #[.int .i64 3, .int .i64 0, .string ⟨#[36, 47, 99, 97, 110, 99, 101, 108]⟩, .slice none 0 0, .slice none 0 0, .int .i64 5, .int .i64 0, .string ⟨#[]⟩, .slice (some ⟨n2, 0, none⟩) 1 1, .slice (some ⟨n6, 0, none⟩) 1 1] 25 (0, 0)) := by rw [hX, hn]; exact heap_at _ _ _ rfl
              have Hge8 : Hid (mb ≤ n8) := Lib.hid (by have h1 := (HcA.out.trans (HcB.out.trans Hc5.out)).size; have h2 := Hmb.out; omega)
              have Hgt8 : Hid (mb + 1 < n8) := Lib.hid (by have h1 := Hc5.out.size; have h2 := lt_of_obj Hr3.out; omega)
              rw [← hX, ← hn]
              clear hX hn
              have Hc6 := Lib.hid (Hc5.out.trans hcx)
              have Hn2 := Lib.hid ((hcx.block n2 (lt_of_obj Hn2.out) (by simp)).trans Hn2.out)
              have Hn6 := Lib.hid ((hcx.block n6 (lt_of_obj Hn6.out) (by simp)).trans Hn6.out)
              have Hn8 := Lib.hid hbx
              clear hbx
              have hS := HS.out _ Hc6.out
              refine hK _ _ (fun _ => hS) trivial ?_
              clear hK K hcx
              refine anyU_one (k := 0) (by kernel_rfl) rfl (fun K hK => ?_)
              go_simp
              obtain ⟨W7, hX⟩ : ∃ x, x = W6.alloc (.cells #[.string ⟨#[109, 101, 116, 104, 111, 100]⟩, .string ⟨#[112, 97, 114, 97, 109, 115]⟩] 9) := ⟨_, rfl⟩
              obtain ⟨n0, hn⟩ : ∃ x, x = W6.heap.size := ⟨_, rfl⟩
              have hcx : Chg [] W6 W7 := by rw [hX]; exact (Chg.refl _ _).alloc _
              have hbx : W7.heap[n0]? = some (.cells #[.string ⟨#[109, 101, 116, 104, 111, 100]⟩, .string ⟨#[112, 97, 114, 97, 109, 115]⟩] 9 (0, 0)) := by rw [hX, hn]; exact heap_at _ _ _ rfl
              have Hge0 : Hid (mb ≤ n0) := Lib.hid (by have h1 := (HcA.out.trans (HcB.out.trans Hc6.out)).size; have h2 := Hmb.out; omega)
              have Hgt0 : Hid (mb + 1 < n0) := Lib.hid (by have h1 := Hc6.out.size; have h2 := lt_of_obj Hr3.out; omega)
              rw [← hX, ← hn]
              clear hX hn
              have Hc7 := Lib.hid (Hc6.out.trans hcx)
              have Hn2 := Lib.hid ((hcx.block n2 (lt_of_obj Hn2.out) (by simp)).trans Hn2.out)
              have Hn6 := Lib.hid ((hcx.block n6 (lt_of_obj Hn6.out) (by simp)).trans Hn6.out)
              have Hn8 := Lib.hid ((hcx.block n8 (lt_of_obj Hn8.out) (by simp)).trans Hn8.out)
              have Hn0 := Lib.hid hbx
              clear hbx
              have hS := HS.out _ Hc7.out
              refine hK _ _ (fun _ => hS) trivial ?_
              clear hK K hcx
              refine anyU_one (k := 9) (by kernel_rfl) rfl (fun K hK => ?_)
              go_simp
              refine (object_any (some ⟨n0, 0, none⟩) (some ⟨n8, 0, none⟩) 2 2 2 2 W7).mono ?_
              rintro e W8 ⟨rfl, hcx⟩
              have Hc8 := Lib.hid (Hc7.out.trans hcx)
              have Hn2 := Lib.hid ((hcx.block n2 (lt_of_obj Hn2.out) (by simp)).trans Hn2.out)
              have Hn6 := Lib.hid ((hcx.block n6 (lt_of_obj Hn6.out) (by simp)).trans Hn6.out)
              have Hn8 := Lib.hid ((hcx.block n8 (lt_of_obj Hn8.out) (by simp)).trans Hn8.out)
              have Hn0 := Lib.hid ((hcx.block n0 (lt_of_obj Hn0.out) (by simp)).trans Hn0.out)
              have hS := HS.out _ Hc8.out
              refine hK _ _ (fun _ => hS) trivial ?_
              clear hK K hcx
              refine anyU_one (k := 10) (by kernel_rfl) rfl (fun K hK => ?_)
              have hrx := (Hc8.out.block (mb + 1) (lt_of_obj Hr3.out) (by simp)).trans Hr3.out
              obtain ⟨r0, r1, r2, r3, r4⟩ := box_kept (mb + 1) hrx (Chg.refl [] W8)
              have fr := fun i => frozen_of_heap (i := i) hrx
              have lr := lt_of_cell r0
              go_simp
              refine hK _ _ (fun h => by simp at h) trivial ?_
              clear hK K hS
              refine anyU_done (by kernel_rfl) ?_
              go_wp2_with fail
              refine bodyPost_ret (v := .agg #[.int .i64 5, .int .i64 0, .string ⟨#[]⟩, .slice (some ⟨n0, 0, none⟩) 2 2, .slice (some ⟨n8, 0, none⟩) 2 2]) (by simp [results, Tryd.results33, go_sem, r0, r1, r2, r3, r4]) rfl ?_
              have hcs := st5_chg W8 (mb + 1) 0 ⟨5, 0, ⟨#[]⟩, some ⟨n0, 0, none⟩, 2, 2, some ⟨n8, 0, none⟩, 2, 2⟩
              exact toObj5_end ((hcs.block n0 (lt_of_obj Hn0.out) (by have h2 := Hgt0.out; simp; omega)).trans Hn0.out) ((hcs.block n2 (lt_of_obj Hn2.out) (by have h2 := Hgt2.out; simp; omega)).trans Hn2.out) ((hcs.block n6 (lt_of_obj Hn6.out) (by have h2 := Hgt6.out; simp; omega)).trans Hn6.out) ((hcs.block n8 (lt_of_obj Hn8.out) (by have h2 := Hgt8.out; simp; omega)).trans Hn8.out) Hge0.out Hge2.out Hge6.out Hge8.out Hmb.out ((HcA.out.trans (HcB.out.trans Hc8.out)).comp hcs fun g hg => Or.inr (by have := List.mem_singleton.1 hg; have := Hmb.out; omega))
      · skip
        go_simp
        obtain ⟨W3, hX⟩ : ∃ x, x = W2.alloc (.cells #[.int .i64 2, .int .i64 i, .string ⟨#[]⟩, .slice none 0 0, .slice none 0 0] 25) := ⟨_, rfl⟩
        obtain ⟨n6, hn⟩ : ∃ x, x = W2.heap.size := ⟨_, rfl⟩
        have hcx : Chg [] W2 W3 := by rw [hX]; exact (Chg.refl _ _).alloc _
        have hbx : W3.heap[n6]? = some (.cells #[.int .i64 2, .int .i64 i, .string ⟨#[]⟩, .slice none 0 0, .slice none 0 0] 25 (0, 0)) := by rw [hX, hn]; exact heap_at _ _ _ rfl
        have Hge6 : Hid (mb ≤ n6) := Lib.hid (by have h1 := (HcA.out.trans (HcB.out.trans Hc2.out)).size; have h2 := Hmb.out; omega)
        have Hgt6 : Hid (mb + 1 < n6) := Lib.hid (by have h1 := Hc2.out.size; have h2 := lt_of_obj Hr3.out; omega)
        rw [← hX, ← hn]
        clear hX hn
        have Hc3 := Lib.hid (Hc2.out.trans hcx)
        have Hn6 := Lib.hid hbx
        clear hbx
        have hS := HS.out _ Hc3.out
        refine hK _ _ (fun _ => hS) trivial ?_
        clear hK K hcx
        refine anyU_two (k := 0) (k' := 2) (by kernel_rfl) rfl rfl (fun K hK => ?_) (fun K hK => ?_) 
        · skip
          go_simp
          obtain ⟨W4, hX⟩ : ∃ x, x = W3.alloc (.cells #[.string ⟨#[109, 101, 116, 104, 111, 100]⟩, .string ⟨#[112, 97, 114, 97, 109, 115]⟩] 9) := ⟨_, rfl⟩
          obtain ⟨n0, hn⟩ : ∃ x, x = W3.heap.size := ⟨_, rfl⟩
          have hcx : Chg [] W3 W4 := by rw [hX]; exact (Chg.refl _ _).alloc _
          have hbx : W4.heap[n0]? = some (.cells #[.string ⟨#[109, 101, 116, 104, 111, 100]⟩, .string ⟨#[112, 97, 114, 97, 109, 115]⟩] 9 (0, 0)) := by rw [hX, hn]; exact heap_at _ _ _ rfl
          have Hge0 : Hid (mb ≤ n0) := Lib.hid (by have h1 := (HcA.out.trans (HcB.out.trans Hc3.out)).size; have h2 := Hmb.out; omega)
          have Hgt0 : Hid (mb + 1 < n0) := Lib.hid (by have h1 := Hc3.out.size; have h2 := lt_of_obj Hr3.out; omega)
          rw [← hX, ← hn]
          clear hX hn
          have Hc4 := Lib.hid (Hc3.out.trans hcx)
          have Hn6 := Lib.hid ((hcx.block n6 (lt_of_obj Hn6.out) (by simp)).trans Hn6.out)
          have Hn0 := Lib.hid hbx
          clear hbx
          have hS := HS.out _ Hc4.out
          refine hK _ _ (fun _ => hS) trivial ?_
          clear hK K hcx
          refine anyU_one (k := 2) (by kernel_rfl) rfl (fun K hK => ?_)
          go_simp
          obtain ⟨W5, hX⟩ : ∃ x, x = W4.alloc (.cells #[.string ⟨#[105, 100]⟩] 9) := ⟨_, rfl⟩
          obtain ⟨n2, hn⟩ : ∃ x, x = W4.heap.size := ⟨_, rfl⟩
          have hcx : Chg [] W4 W5 := by rw [hX]; exact (Chg.refl _ _).alloc _
          have hbx : W5.heap[n2]? = some (.cells #[.string ⟨#[105, 100]⟩] 9 (0, 0)) := by rw [hX, hn]; exact heap_at _ _ _ rfl
          have Hge2 : Hid (mb ≤ n2) := Lib.hid (by have h1 := (HcA.out.trans (HcB.out.trans Hc4.out)).size; have h2 := Hmb.out; omega)
          have Hgt2 : Hid (mb + 1 < n2) := Lib.hid (by have h1 := Hc4.out.size; have h2 := lt_of_obj Hr3.out; omega)
          rw [← hX, ← hn]
          clear hX hn
          have Hc5 := Lib.hid (Hc4.out.trans hcx)
          have Hn6 := Lib.hid ((hcx.block n6 (lt_of_obj Hn6.out) (by simp)).trans Hn6.out)
          have Hn0 := Lib.hid ((hcx.block n0 (lt_of_obj Hn0.out) (by simp)).trans Hn0.out)
          have Hn2 := Lib.hid hbx
          clear hbx
          have hS := HS.out _ Hc5.out
          refine hK _ _ (fun _ => hS) trivial ?_
          clear hK K hcx
          refine anyU_one (k := 7) (by kernel_rfl) rfl (fun K hK => ?_)
          go_simp
          refine (object_any (some ⟨n2, 0, none⟩) (some ⟨n6, 0, none⟩) 1 1 1 1 W5).mono ?_
          rintro e W6 ⟨rfl, hcx⟩
          have Hc6 := Lib.hid (Hc5.out.trans hcx)
          have Hn6 := Lib.hid ((hcx.block n6 (lt_of_obj Hn6.out) (by simp)).trans Hn6.out)
          have Hn0 := Lib.hid ((hcx.block n0 (lt_of_obj Hn0.out) (by simp)).trans Hn0.out)
          have Hn2 := Lib.hid ((hcx.block n2 (lt_of_obj Hn2.out) (by simp)).trans Hn2.out)
          have hS := HS.out _ Hc6.out
          refine hK _ _ (fun _ => hS) trivial ?_
          clear hK K hcx
          refine anyU_one (k := 8) (by kernel_rfl) rfl (fun K hK => ?_)
          go_simp
          obtain ⟨W7, hX⟩ : ∃ x, x = W6.alloc (.cells #[.int .i64 3, .int .i64 0, .string ⟨#[36, 47, 99, 97, 110, 99, 101, 108]⟩, .slice none 0 0, .slice none 0 0, .int .i64 5, .int .i64 0, .string ⟨#[]⟩, .slice (some ⟨n2, 0, none⟩) 1 1, .slice (some ⟨n6, 0, none⟩) 1 1] 25) := ⟨_, rfl⟩
          obtain ⟨n8, hn⟩ : ∃ x, x = W6.heap.size := ⟨_, rfl⟩
          have hcx : Chg [] W6 W7 := by rw [hX]; exact (Chg.refl _ _).alloc _
          have hbx : W7.heap[n8]? = some (.cells #[.int .i64 3, .int .i64 0, .string ⟨#[36, 47, 99, 97, 110, 99, 101, 108]⟩, .slice none 0 0, .slice none 0 0, .int .i64 5, .int .i64 0, .string ⟨#[]⟩, .slice (some ⟨n2, 0, none⟩) 1 1, .slice (some ⟨n6, 0, none⟩) 1 1] 25 (0, 0)) := by rw [hX, hn]; exact heap_at _ _ _ rfl
          have Hge8 : Hid (mb ≤ n8) := Lib.hid (by have h1 := (HcA.out.trans (HcB.out.trans Hc6.out)).size; have h2 := Hmb.out; omega)
          have Hgt8 : Hid (mb + 1 < n8) := Lib.hid (by have h1 := Hc6.out.size; have h2 := lt_of_obj Hr3.out; omega)
          rw [← hX, ← hn]
          clear hX hn
          have Hc7 := Lib.hid (Hc6.out.trans hcx)
          have Hn6 := Lib.hid ((hcx.block n6 (lt_of_obj Hn6.out) (by simp)).trans Hn6.out)
          have Hn0 := Lib.hid ((hcx.block n0 (lt_of_obj Hn0.out) (by simp)).trans Hn0.out)
          have Hn2 := Lib.hid ((hcx.block n2 (lt_of_obj Hn2.out) (by simp)).trans Hn2.out)
          have Hn8 := Lib.hid hbx
          clear hbx
          have hS := HS.out _ Hc7.out
          refine hK _ _ (fun _ => hS) trivial ?_
          clear hK K hcx
          refine anyU_one (k := 9) (by kernel_rfl) rfl (fun K hK => ?_)
          go_simp
          refine (object_any (some ⟨n0, 0, none⟩) (some ⟨n8, 0, none⟩) 2 2 2 2 W7).mono ?_
          rintro e W8 ⟨rfl, hcx⟩
          have Hc8 := Lib.hid (Hc7.out.trans hcx)
          have Hn6 := Lib.hid ((hcx.block n6 (lt_of_obj Hn6.out) (by simp)).trans Hn6.out)
          have Hn0 := Lib.hid ((hcx.block n0 (lt_of_obj Hn0.out) (by simp)).trans Hn0.out)
          have Hn2 := Lib.hid ((hcx.block n2 (lt_of_obj Hn2.out) (by simp)).trans Hn2.out)
          have Hn8 := Lib.hid ((hcx.block n8 (lt_of_obj Hn8.out) (by simp)).trans Hn8.out)
          have hS := HS.out _ Hc8.out
          refine hK _ _ (fun _ => hS) trivial ?_
          clear hK K hcx
          refine anyU_one (k := 10) (by kernel_rfl) rfl (fun K hK => ?_)
          have hrx := (Hc8.out.block (mb + 1) (lt_of_obj Hr3.out) (by simp)).trans Hr3.out
          obtain ⟨r0, r1, r2, r3, r4⟩ := box_kept (mb + 1) hrx (Chg.refl [] W8)
          have fr := fun i => frozen_of_heap (i := i) hrx
          have lr := lt_of_cell r0
          go_simp
          refine hK _ _ (fun h => by simp at h) trivial ?_
          clear hK K hS
          refine anyU_done (by kernel_rfl) ?_
          go_wp2_with fail
          refine bodyPost_ret (v := .agg #[.int .i64 5, .int .i64 0, .string ⟨#[]⟩, .slice (some ⟨n0, 0, none⟩) 2 2, .slice (some ⟨n8, 0, none⟩) 2 2]) (by simp [results, Tryd.results33, go_sem, r0, r1, r2, r3, r4]) rfl ?_
          have hcs := st5_chg W8 (mb + 1) 0 ⟨5, 0, ⟨#[]⟩, some ⟨n0, 0, none⟩, 2, 2, some ⟨n8, 0, none⟩, 2, 2⟩
          exact toObj5_end ((hcs.block n0 (lt_of_obj Hn0.out) (by have h2 := Hgt0.out; simp; omega)).trans Hn0.out) ((hcs.block n2 (lt_of_obj Hn2.out) (by have h2 := Hgt2.out; simp; omega)).trans Hn2.out) ((hcs.block n6 (lt_of_obj Hn6.out) (by have h2 := Hgt6.out; simp; omega)).trans Hn6.out) ((hcs.block n8 (lt_of_obj Hn8.out) (by have h2 := Hgt8.out; simp; omega)).trans Hn8.out) Hge0.out Hge2.out Hge6.out Hge8.out Hmb.out ((HcA.out.trans (HcB.out.trans Hc8.out)).comp hcs fun g hg => Or.inr (by have := List.mem_singleton.1 hg; have := Hmb.out; omega))
        · skip
          go_simp
          obtain ⟨W4, hX⟩ : ∃ x, x = W3.alloc (.cells #[.string ⟨#[105, 100]⟩] 9) := ⟨_, rfl⟩
          obtain ⟨n2, hn⟩ : ∃ x, x = W3.heap.size := ⟨_, rfl⟩
          have hcx : Chg [] W3 W4 := by rw [hX]; exact (Chg.refl _ _).alloc _
          have hbx : W4.heap[n2]? = some (.cells #[.string ⟨#[105, 100]⟩] 9 (0, 0)) := by rw [hX, hn]; exact heap_at _ _ _ rfl
          have Hge2 : Hid (mb ≤ n2) := Lib.hid (by have h1 := (HcA.out.trans (HcB.out.trans Hc3.out)).size; have h2 := Hmb.out; omega)
          have Hgt2 : Hid (mb + 1 < n2) := Lib.hid (by have h1 := Hc3.out.size; have h2 := lt_of_obj Hr3.out; omega)
          rw [← hX, ← hn]
          clear hX hn
          have Hc4 := Lib.hid (Hc3.out.trans hcx)
          have Hn6 := Lib.hid ((hcx.block n6 (lt_of_obj Hn6.out) (by simp)).trans Hn6.out)
          have Hn2 := Lib.hid hbx
          clear hbx
          have hS := HS.out _ Hc4.out
          refine hK _ _ (fun _ => hS) trivial ?_
          clear hK K hcx
          refine anyU_two (k := 0) (k' := 7) (by kernel_rfl) rfl rfl (fun K hK => ?_) (fun K hK => ?_) 
          · skip
            go_simp
            obtain ⟨W5, hX⟩ : ∃ x, x = W4.alloc (.cells #[.string ⟨#[109, 101, 116, 104, 111, 100]⟩, .string ⟨#[112, 97, 114, 97, 109, 115]⟩] 9) := ⟨_, rfl⟩
            obtain ⟨n0, hn⟩ : ∃ x, x = W4.heap.size := ⟨_, rfl⟩
            have hcx : Chg [] W4 W5 := by rw [hX]; exact (Chg.refl _ _).alloc _
            have hbx : W5.heap[n0]? = some (.cells #[.string ⟨#[109, 101, 116, 104, 111, 100]⟩, .string ⟨#[112, 97, 114, 97, 109, 115]⟩] 9 (0, 0)) := by rw [hX, hn]; exact heap_at _ _ _ rfl
            have Hge0 : Hid (mb ≤ n0) := Lib.hid (by have h1 := (HcA.out.trans (HcB.out.trans Hc4.out)).size; have h2 := Hmb.out; omega)
            have Hgt0 : Hid (mb + 1 < n0) := Lib.hid (by have h1 := Hc4.out.size; have h2 := lt_of_obj Hr3.out; omega)
            rw [← hX, ← hn]
            clear hX hn
            have Hc5 := Lib.hid (Hc4.out.trans hcx)
            have Hn6 := Lib.hid ((hcx.block n6 (lt_of_obj Hn6.out) (by simp)).trans Hn6.out)
            have Hn2 := Lib.hid ((hcx.block n2 (lt_of_obj Hn2.out) (by simp)).trans Hn2.out)
            have Hn0 := Lib.hid hbx
            clear hbx
            have hS := HS.out _ Hc5.out
            refine hK _ _ (fun _ => hS) trivial ?_
            clear hK K hcx
            refine anyU_one (k := 7) (by kernel_rfl) rfl (fun K hK => ?_)
            go_simp
            refine (object_any (some ⟨n2, 0, none⟩) (some ⟨n6, 0, none⟩) 1 1 1 1 W5).mono ?_
            rintro e W6 ⟨rfl, hcx⟩
            have Hc6 := Lib.hid (Hc5.out.trans hcx)
            have Hn6 := Lib.hid ((hcx.block n6 (lt_of_obj Hn6.out) (by simp)).trans Hn6.out)
            have Hn2 := Lib.hid ((hcx.block n2 (lt_of_obj Hn2.out) (by simp)).trans Hn2.out)
            have Hn0 := Lib.hid ((hcx.block n0 (lt_of_obj Hn0.out) (by simp)).trans Hn0.out)
            have hS := HS.out _ Hc6.out
            refine hK _ _ (fun _ => hS) trivial ?_
            clear hK K hcx
            refine anyU_one (k := 8) (by kernel_rfl) rfl (fun K hK => ?_)
            go_simp
            obtain ⟨W7, hX⟩ : ∃ x, x = W6.alloc (.cells #[.int .i64 3, .int .i64 0, .string ⟨#[36, 47, 99, 97, 110, 99, 101, 108]⟩, .slice none 0 0, .slice none 0 0, .int .i64 5, .int .i64 0, .string ⟨#[]⟩, .slice (some ⟨n2, 0, none⟩) 1 1, .slice (some ⟨n6, 0, none⟩) 1 1] 25) := ⟨_, rfl⟩
            obtain ⟨n8, hn⟩ : ∃ x, x = W6.heap.size := ⟨_, rfl⟩
            have hcx : Chg [] W6 W7 := by rw [hX]; exact (Chg.refl _ _).alloc _
            have hbx : W7.heap[n8]? = some (.cells #[.int .i64 3, .int .i64 0, .string ⟨#[36, 47, 99, 97, 110, 99, 101, 108]⟩, .slice none 0 0, .slice none 0 0, .int .i64 5, .int .i64 0, .string ⟨#[]⟩, .slice (some ⟨n2, 0, none⟩) 1 1, .slice (some ⟨n6, 0, none⟩) 1 1] 25 (0, 0)) := by rw [hX, hn]; exact heap_at _ _ _ rfl
            have Hge8 : Hid (mb ≤ n8) := Lib.hid (by have h1 := (HcA.out.trans (HcB.out.trans Hc6.out)).size; have h2 := Hmb.out; omega)
            have Hgt8 : Hid (mb + 1 < n8) := Lib.hid (by have h1 := Hc6.out.size; have h2 := lt_of_obj Hr3.out; omega)
            rw [← hX, ← hn]
            clear hX hn
            have Hc7 := Lib.hid (Hc6.out.trans hcx)
            have Hn6 := Lib.hid ((hcx.block n6 (lt_of_obj Hn6.out) (by simp)).trans Hn6.out)
            have Hn2 := Lib.hid ((hcx.block n2 (lt_of_obj Hn2.out) (by simp)).trans Hn2.out)
            have Hn0 := Lib.hid ((hcx.block n0 (lt_of_obj Hn0.out) (by simp)).trans Hn0.out)
            have Hn8 := Lib.hid hbx
            clear hbx
            have hS := HS.out _ Hc7.out
            refine hK _ _ (fun _ => hS) trivial ?_
            clear hK K hcx
            refine anyU_one (k := 9) (by kernel_rfl) rfl (fun K hK => ?_)
            go_simp
            refine (object_any (some ⟨n0, 0, none⟩) (some ⟨n8, 0, none⟩) 2 2 2 2 W7).mono ?_
            rintro e W8 ⟨rfl, hcx⟩
            have Hc8 := Lib.hid (Hc7.out.trans hcx)
            have Hn6 := Lib.hid ((hcx.block n6 (lt_of_obj Hn6.out) (by simp)).trans Hn6.out)
            have Hn2 := Lib.hid ((hcx.block n2 (lt_of_obj Hn2.out) (by simp)).trans Hn2.out)
            have Hn0 := Lib.hid ((hcx.block n0 (lt_of_obj Hn0.out) (by simp)).trans Hn0.out)
            have Hn8 := Lib.hid ((hcx.block n8 (lt_of_obj Hn8.out) (by simp)).trans Hn8.out)
            have hS := HS.out _ Hc8.out
            refine hK _ _ (fun _ => hS) trivial ?_
            clear hK K hcx
            refine anyU_one (k := 10) (by kernel_rfl) rfl (fun K hK => ?_)
            have hrx := (Hc8.out.block (mb + 1) (lt_of_obj Hr3.out) (by simp)).trans Hr3.out
            obtain ⟨r0, r1, r2, r3, r4⟩ := box_kept (mb + 1) hrx (Chg.refl [] W8)
            have fr := fun i => frozen_of_heap (i := i) hrx
            have lr := lt_of_cell r0
            go_simp
            refine hK _ _ (fun h => by simp at h) trivial ?_
            clear hK K hS
            refine anyU_done (by kernel_rfl) ?_
            go_wp2_with fail
            refine bodyPost_ret (v := .agg #[.int .i64 5, .int .i64 0, .string ⟨#[]⟩, .slice (some ⟨n0, 0, none⟩) 2 2, .slice (some ⟨n8, 0, none⟩) 2 2]) (by simp [results, Tryd.results33, go_sem, r0, r1, r2, r3, r4]) rfl ?_
            have hcs := st5_chg W8 (mb + 1) 0 ⟨5, 0, ⟨#[]⟩, some ⟨n0, 0, none⟩, 2, 2, some ⟨n8, 0, none⟩, 2, 2⟩
            exact toObj5_end ((hcs.block n0 (lt_of_obj Hn0.out) (by have h2 := Hgt0.out; simp; omega)).trans Hn0.out) ((hcs.block n2 (lt_of_obj Hn2.out) (by have h2 := Hgt2.out; simp; omega)).trans Hn2.out) ((hcs.block n6 (lt_of_obj Hn6.out) (by have h2 := Hgt6.out; simp; omega)).trans Hn6.out) ((hcs.block n8 (lt_of_obj Hn8.out) (by have h2 := Hgt8.out; simp; omega)).trans Hn8.out) Hge0.out Hge2.out Hge6.out Hge8.out Hmb.out ((HcA.out.trans (HcB.out.trans Hc8.out)).comp hcs fun g hg => Or.inr (by have := List.mem_singleton.1 hg; have := Hmb.out; omega))
          · skip
            go_simp
            refine (object_any (some ⟨n2, 0, none⟩) (some ⟨n6, 0, none⟩) 1 1 1 1 W4).mono ?_
            rintro e W5 ⟨rfl, hcx⟩
            have Hc5 := Lib.hid (Hc4.out.trans hcx)
            have Hn6 := Lib.hid ((hcx.block n6 (lt_of_obj Hn6.out) (by simp)).trans Hn6.out)
            have Hn2 := Lib.hid ((hcx.block n2 (lt_of_obj Hn2.out) (by simp)).trans Hn2.out)
            have hS := HS.out _ Hc5.out
            refine hK _ _ (fun _ => hS) trivial ?_
            clear hK K hcx
            refine anyU_two (k := 0) (k' := 8) (by kernel_rfl) rfl rfl (fun K hK => ?_) (fun K hK => ?_) 
            · skip
              go_simp
              obtain ⟨W6, hX⟩ : ∃ x, x = W5.alloc (.cells #[.string ⟨#[109, 101, 116, 104, 111, 100]⟩, .string ⟨#[112, 97, 114, 97, 109, 115]⟩] 9) := ⟨_, rfl⟩
              obtain ⟨n0, hn⟩ : ∃ x, x = W5.heap.size := ⟨_, rfl⟩
              have hcx : Chg [] W5 W6 := by rw [hX]; exact (Chg.refl _ _).alloc _
              have hbx : W6.heap[n0]? = some (.cells #[.string ⟨#[109, 101, 116, 104, 111, 100]⟩, .string ⟨#[112, 97, 114, 97, 109, 115]⟩] 9 (0, 0)) := by rw [hX, hn]; exact heap_at _ _ _ rfl
              have Hge0 : Hid (mb ≤ n0) := Lib.hid (by have h1 := (HcA.out.trans (HcB.out.trans Hc5.out)).size; have h2 := Hmb.out; omega)
              have Hgt0 : Hid (mb + 1 < n0) := Lib.hid (by have h1 := Hc5.out.size; have h2 := lt_of_obj Hr3.out; omega)
              rw [← hX, ← hn]
              clear hX hn
              have Hc6 := Lib.hid (Hc5.out.trans hcx)
              have Hn6 := Lib.hid ((hcx.block n6 (lt_of_obj Hn6.out) (by simp)).trans Hn6.out)
              have Hn2 := Lib.hid ((hcx.block n2 (lt_of_obj Hn2.out) (by simp)).trans Hn2.out)
              have Hn0 := Lib.hid hbx
              clear hbx
              have hS := HS.out _ Hc6.out
              refine hK _ _ (fun _ => hS) trivial ?_
              clear hK K hcx
              refine anyU_one (k := 8) (by kernel_rfl) rfl (fun K hK => ?_)
              go_simp
              obtain ⟨W7, hX⟩ : ∃ x, x = W6.alloc (.cells #[.int .i64 3, .int .i64 0, .string ⟨#[36, 47, 99, 97, 110, 99, 101, 108]⟩, .slice none 0 0, .slice none 0 0, .int .i64 5, .int .i64 0, .string ⟨#[]⟩, .slice (some ⟨n2, 0, none⟩) 1 1, .slice (some ⟨n6, 0, none⟩) 1 1] 25) := ⟨_, rfl⟩
              obtain ⟨n8, hn⟩ : ∃ x, x = W6.heap.size := ⟨_, rfl⟩
              have hcx : Chg [] W6 W7 := by rw [hX]; exact (Chg.refl _ _).alloc _
              have hbx : W7.heap[n8]? = some (.cells #[.int .i64 3, .int .i64 0, .string ⟨#[36, 47, 99, 97, 110, 99, 101, 108]⟩, .slice none 0 0, .slice none 0 0, .int .i64 5, .int .i64 0, .string ⟨#[]⟩, .slice (some ⟨n2, 0, none⟩) 1 1, .slice (some ⟨n6, 0, none⟩) 1 1] 25 (0, 0)) := by rw [hX, hn]; exact heap_at _ _ _ rfl
              have Hge8 : Hid (mb ≤ n8) := Lib.hid (by have h1 := (HcA.out.trans (HcB.out.trans Hc6.out)).size; have h2 := Hmb.out; omega)
              have Hgt8 : Hid (mb + 1 < n8) := Lib.hid (by have h1 := Hc6.out.size; have h2 := lt_of_obj Hr3.out; omega)
              rw [← hX, ← hn]
              clear hX hn
              have Hc7 := Lib.hid (Hc6.out.trans hcx)
              have Hn6 := Lib.hid ((hcx.block n6 (lt_of_obj Hn6.out) (by simp)).trans Hn6.out)
              have Hn2 := Lib.hid ((hcx.block n2 (lt_of_obj Hn2.out) (by simp)).trans Hn2.out)
              have Hn0 := Lib.hid ((hcx.block n0 (lt_of_obj Hn0.out) (by simp)).trans Hn0.out)
              have Hn8 := Lib.hid hbx
              clear hbx
              have hS := HS.out _ Hc7.out
              refine hK _ _ (fun _ => hS) trivial ?_
              clear hK K hcx
              refine anyU_one (k := 9) (by kernel_rfl) rfl (fun K hK => ?_)
              go_simp
              refine (object_any (some ⟨n0, 0, none⟩) (some ⟨n8, 0, none⟩) 2 2 2 2 W7).mono ?_
              rintro e W8 ⟨rfl, hcx⟩
              have Hc8 := Lib.hid (Hc7.out.trans hcx)
              have Hn6 := Lib.hid ((hcx.block n6 (lt_of_obj Hn6.out) (by simp)).trans Hn6.out)
              have Hn2 := Lib.hid ((hcx.block n2 (lt_of_obj Hn2.out) (by simp)).trans Hn2.out)
              have Hn0 := Lib.hid ((hcx.block n0 (lt_of_obj Hn0.out) (by simp)).trans Hn0.out)
              have Hn8 := Lib.hid ((hcx.block n8 (lt_of_obj Hn8.out) (by simp)).trans Hn8.out)
              have hS := HS.out _ Hc8.out
              refine hK _ _ (fun _ => hS) trivial ?_
              clear hK K hcx
              refine anyU_one (k := 10) (by kernel_rfl) rfl (fun K hK => ?_)
              have hrx := (Hc8.out.block (mb + 1) (lt_of_obj Hr3.out) (by simp)).trans Hr3.out
              obtain ⟨r0, r1, r2, r3, r4⟩ := box_kept (mb + 1) hrx (Chg.refl [] W8)
              have fr := fun i => frozen_of_heap (i := i) hrx
              have lr := lt_of_cell r0
              go_simp
              refine hK _ _ (fun h => by simp at h) trivial ?_
              clear hK K hS
              refine anyU_done (by kernel_rfl) ?_
              go_wp2_with fail
              refine bodyPost_ret (v := .agg #[.int .i64 5, .int .i64 0, .string ⟨#[]⟩, .slice (some ⟨n0, 0, none⟩) 2 2, .slice (some ⟨n8, 0, none⟩) 2 2]) (by simp [results, Tryd.results33, go_sem, r0, r1, r2, r3, r4]) rfl ?_
              have hcs := st5_chg W8 (mb + 1) 0 ⟨5, 0, ⟨#[]⟩, some ⟨n0, 0, none⟩, 2, 2, some ⟨n8, 0, none⟩, 2, 2⟩
              exact toObj5_end ((hcs.block n0 (lt_of_obj Hn0.out) (by have h2 := Hgt0.out; simp; omega)).trans Hn0.out) ((hcs.block n2 (lt_of_obj Hn2.out) (by have h2 := Hgt2.out; simp; omega)).trans Hn2.out) ((hcs.block n6 (lt_of_obj Hn6.out) (by have h2 := Hgt6.out; simp; omega)).trans Hn6.out) ((hcs.block n8 (lt_of_obj Hn8.out) (by have h2 := Hgt8.out; simp; omega)).trans Hn8.out) Hge0.out Hge2.out Hge6.out Hge8.out Hmb.out ((HcA.out.trans (HcB.out.trans Hc8.out)).comp hcs fun g hg => Or.inr (by have := List.mem_singleton.1 hg; have := Hmb.out; omega))
            · skip
              go_simp
              obtain ⟨W6, hX⟩ : ∃ x, x = W5.alloc (.cells #[.int .i64 3, .int .i64 0, .string ⟨#[36, 47, 99, 97, 110, 99, 101, 108]⟩, .slice none 0 0, .slice none 0 0, .int .i64 5, .int .i64 0, .string ⟨#[]⟩, .slice (some ⟨n2, 0, none⟩) 1 1, .slice (some ⟨n6, 0, none⟩) 1 1] 25) := ⟨_, rfl⟩
              obtain ⟨n8, hn⟩ : ∃ x, x = W5.heap.size := ⟨_, rfl⟩
              have hcx : Chg [] W5 W6 := by rw [hX]; exact (Chg.refl _ _).alloc _
              have hbx : W6.heap[n8]? = some (.cells #[.int .i64 3, .int .i64 0, .string ⟨#[36, 47, 99, 97, 110, 99, 101, 108]⟩, .slice none 0 0, .slice none 0 0, .int .i64 5, .int .i64 0, .string ⟨#[]⟩, .slice (some ⟨n2, 0, none⟩) 1 1, .slice (some ⟨n6, 0, none⟩) 1 1] 25 (0, 0)) := by rw [hX, hn]; exact heap_at _ _ _ rfl
              have Hge8 : Hid (mb ≤ n8) := Lib.hid (by have h1 := (HcA.out.trans (HcB.out.trans Hc5.out)).size; have h2 := Hmb.out; omega)
              have Hgt8 : Hid (mb + 1 < n8) := Lib.hid (by have h1 := Hc5.out.size; have h2 := lt_of_obj Hr3.out; omega)
              rw [← hX, ← hn]
              clear hX hn
              have Hc6 := Lib.hid (Hc5.out.trans hcx)
              have Hn6 := Lib.hid ((hcx.block n6 (lt_of_obj Hn6.out) (by simp)).trans Hn6.out)
              have Hn2 := Lib.hid ((hcx.block n2 (lt_of_obj Hn2.out) (by simp)).trans Hn2.out)
              have Hn8 := Lib.hid hbx
              clear hbx
              have hS := HS.out _ Hc6.out
              refine hK _ _ (fun _ => hS) trivial ?_
              clear hK K hcx
              refine anyU_one (k := 0) (by kernel_rfl) rfl (fun K hK => ?_)
              go_simp
              obtain ⟨W7, hX⟩ : ∃ x, x = W6.alloc (.cells #[.string ⟨#[109, 101, 116, 104, 111, 100]⟩, .string ⟨#[112, 97, 114, 97, 109, 115]⟩] 9) := ⟨_, rfl⟩
              obtain ⟨n0, hn⟩ : ∃ x, x = W6.heap.size := ⟨_, rfl⟩
              have hcx : Chg [] W6 W7 := by rw [hX]; exact (Chg.refl _ _).alloc _
              have hbx : W7.heap[n0]? = some (.cells #[.string ⟨#[109, 101, 116, 104, 111, 100]⟩, .string ⟨#[112, 97, 114, 97, 109, 115]⟩] 9 (0, 0)) := by rw [hX, hn]; exact heap_at _ _ _ rfl
              have Hge0 : Hid (mb ≤ n0) := Lib.hid (by have h1 := (HcA.out.trans (HcB.out.trans Hc6.out)).size; have h2 := Hmb.out; omega)
              have Hgt0 : Hid (mb + 1 < n0) := Lib.hid (by have h1 := Hc6.out.size; have h2 := lt_of_obj Hr3.out; omega)
              rw [← hX, ← hn]
              clear hX hn
              have Hc7 := Lib.hid (Hc6.out.trans hcx)
              have Hn6 := Lib.hid ((hcx.block n6 (lt_of_obj Hn6.out) (by simp)).trans Hn6.out)
              have Hn2 := Lib.hid ((hcx.block n2 (lt_of_obj Hn2.out) (by simp)).trans Hn2.out)
              have Hn8 := Lib.hid ((hcx.block n8 (lt_of_obj Hn8.out) (by simp)).trans Hn8.out)
              have Hn0 := Lib.hid hbx
              clear hbx
              have hS := HS.out _ Hc7.out
              refine hK _ _ (fun _ => hS) trivial ?_
              clear hK K hcx
              refine anyU_one (k := 9) (by kernel_rfl) rfl (fun K hK => ?_)
              go_simp
              refine (object_any (some ⟨n0, 0, none⟩) (some ⟨n8, 0, none⟩) 2 2 2 2 W7).mono ?_
              rintro e W8 ⟨rfl, hcx⟩
              have Hc8 := Lib.hid (Hc7.out.trans hcx)
              have Hn6 := Lib.hid ((hcx.block n6 (lt_of_obj Hn6.out) (by simp)).trans Hn6.out)
              have Hn2 := Lib.hid ((hcx.block n2 (lt_of_obj Hn2.out) (by simp)).trans Hn2.out)
              have Hn8 := Lib.hid ((hcx.block n8 (lt_of_obj Hn8.out) (by simp)).trans Hn8.out)
              have Hn0 := Lib.hid ((hcx.block n0 (lt_of_obj Hn0.out) (by simp)).trans Hn0.out)
              have hS := HS.out _ Hc8.out
              refine hK _ _ (fun _ => hS) trivial ?_
              clear hK K hcx
              refine anyU_one (k := 10) (by kernel_rfl) rfl (fun K hK => ?_)
              have hrx := (Hc8.out.block (mb + 1) (lt_of_obj Hr3.out) (by simp)).trans Hr3.out
              obtain ⟨r0, r1, r2, r3, r4⟩ := box_kept (mb + 1) hrx (Chg.refl [] W8)
              have fr := fun i => frozen_of_heap (i := i) hrx
              have lr := lt_of_cell r0
              go_simp
              refine hK _ _ (fun h => by simp at h) trivial ?_
              clear hK K hS
              refine anyU_done (by kernel_rfl) ?_
              go_wp2_with fail
              refine bodyPost_ret (v := .agg #[.int .i64 5, .int .i64 0, .string ⟨#[]⟩, .slice (some ⟨n0, 0, none⟩) 2 2, .slice (some ⟨n8, 0, none⟩) 2 2]) (by simp [results, Tryd.results33, go_sem, r0, r1, r2, r3, r4]) rfl ?_
              have hcs := st5_chg W8 (mb + 1) 0 ⟨5, 0, ⟨#[]⟩, some ⟨n0, 0, none⟩, 2, 2, some ⟨n8, 0, none⟩, 2, 2⟩
              exact toObj5_end ((hcs.block n0 (lt_of_obj Hn0.out) (by have h2 := Hgt0.out; simp; omega)).trans Hn0.out) ((hcs.block n2 (lt_of_obj Hn2.out) (by have h2 := Hgt2.out; simp; omega)).trans Hn2.out) ((hcs.block n6 (lt_of_obj Hn6.out) (by have h2 := Hgt6.out; simp; omega)).trans Hn6.out) ((hcs.block n8 (lt_of_obj Hn8.out) (by have h2 := Hgt8.out; simp; omega)).trans Hn8.out) Hge0.out Hge2.out Hge6.out Hge8.out Hmb.out ((HcA.out.trans (HcB.out.trans Hc8.out)).comp hcs fun g hg => Or.inr (by have := List.mem_singleton.1 hg; have := Hmb.out; omega))
  · skip
    go_simp
    obtain ⟨W1, hX⟩ : ∃ x, x = W0.alloc (.cells #[.string ⟨#[105, 100]⟩] 9) := ⟨_, rfl⟩
    obtain ⟨n2, hn⟩ : ∃ x, x = W0.heap.size := ⟨_, rfl⟩
    have hcx : Chg [] W0 W1 := by rw [hX]; exact (Chg.refl _ _).alloc _
    have hbx : W1.heap[n2]? = some (.cells #[.string ⟨#[105, 100]⟩] 9 (0, 0)) := by rw [hX, hn]; exact heap_at _ _ _ rfl
    have Hge2 : Hid (mb ≤ n2) := Lib.hid (by have h1 := (HcA.out.trans (HcB.out.trans Hc0.out)).size; have h2 := Hmb.out; omega)
    have Hgt2 : Hid (mb + 1 < n2) := Lib.hid (by have h1 := Hc0.out.size; have h2 := lt_of_obj Hr3.out; omega)
    rw [← hX, ← hn]
    clear hX hn
    have Hc1 := Lib.hid (Hc0.out.trans hcx)
    have Hn2 := Lib.hid hbx
    clear hbx
    have hS := HS.out _ Hc1.out
    refine hK _ _ (fun _ => hS) trivial ?_
    clear hK K hcx
    refine anyU_two (k := 0) (k' := 1) (by kernel_rfl) rfl rfl (fun K hK => ?_) (fun K hK => ?_) 
    · skip
      go_simp
      obtain ⟨W2, hX⟩ : ∃ x, x = W1.alloc (.cells #[.string ⟨#[109, 101, 116, 104, 111, 100]⟩, .string ⟨#[112, 97, 114, 97, 109, 115]⟩] 9) := ⟨_, rfl⟩
      obtain ⟨n0, hn⟩ : ∃ x, x = W1.heap.size := ⟨_, rfl⟩
      have hcx : Chg [] W1 W2 := by rw [hX]; exact (Chg.refl _ _).alloc _
      have hbx : W2.heap[n0]? = some (.cells #[.string ⟨#[109, 101, 116, 104, 111, 100]⟩, .string ⟨#[112, 97, 114, 97, 109, 115]⟩] 9 (0, 0)) := by rw [hX, hn]; exact heap_at _ _ _ rfl
      have Hge0 : Hid (mb ≤ n0) := Lib.hid (by have h1 := (HcA.out.trans (HcB.out.trans Hc1.out)).size; have h2 := Hmb.out; omega)
      have Hgt0 : Hid (mb + 1 < n0) := Lib.hid (by have h1 := Hc1.out.size; have h2 := lt_of_obj Hr3.out; omega)
      rw [← hX, ← hn]
      clear hX hn
      have Hc2 := Lib.hid (Hc1.out.trans hcx)
      have Hn2 := Lib.hid ((hcx.block n2 (lt_of_obj Hn2.out) (by simp)).trans Hn2.out)
      have Hn0 := Lib.hid hbx
      clear hbx
      have hS := HS.out _ Hc2.out
      refine hK _ _ (fun _ => hS) trivial ?_
      clear hK K hcx
      refine anyU_one (k := 1) (by kernel_rfl) rfl (fun K hK => ?_)
      go_simp
      refine (textV_any ⟨#[36, 47, 99, 97, 110, 99, 101, 108]⟩ W2).mono ?_
      rintro e W3 ⟨rfl, hcx⟩
      have Hc3 := Lib.hid (Hc2.out.trans hcx)
      have Hn2 := Lib.hid ((hcx.block n2 (lt_of_obj Hn2.out) (by simp)).trans Hn2.out)
      have Hn0 := Lib.hid ((hcx.block n0 (lt_of_obj Hn0.out) (by simp)).trans Hn0.out)
      have hS := HS.out _ Hc3.out
      refine hK _ _ (fun _ => hS) trivial ?_
      clear hK K hcx
      refine anyU_one (k := 5) (by kernel_rfl) rfl (fun K hK => ?_)
      go_simp
      refine (number_any i W3).mono ?_
      rintro e W4 ⟨rfl, hcx⟩
      have Hc4 := Lib.hid (Hc3.out.trans hcx)
      have Hn2 := Lib.hid ((hcx.block n2 (lt_of_obj Hn2.out) (by simp)).trans Hn2.out)
      have Hn0 := Lib.hid ((hcx.block n0 (lt_of_obj Hn0.out) (by simp)).trans Hn0.out)
      have hS := HS.out _ Hc4.out
      refine hK _ _ (fun _ => hS) trivial ?_
      clear hK K hcx
      refine anyU_one (k := 6) (by kernel_rfl) rfl (fun K hK => ?_)
      go_simp
      obtain ⟨W5, hX⟩ : ∃ x, x = W4.alloc (.cells #[.int .i64 2, .int .i64 i, .string ⟨#[]⟩, .slice none 0 0, .slice none 0 0] 25) := ⟨_, rfl⟩
      obtain ⟨n6, hn⟩ : ∃ x, x = W4.heap.size := ⟨_, rfl⟩
      have hcx : Chg [] W4 W5 := by rw [hX]; exact (Chg.refl _ _).alloc _
      have hbx : W5.heap[n6]? = some (.cells #[.int .i64 2, .int .i64 i, .string ⟨#[]⟩, .slice none 0 0, .slice none 0 0] 25 (0, 0)) := by rw [hX, hn]; exact heap_at _ _ _ rfl
      have Hge6 : Hid (mb ≤ n6) := Lib.hid (by have h1 := (HcA.out.trans (HcB.out.trans Hc4.out)).size; have h2 := Hmb.out; omega)
      have Hgt6 : Hid (mb + 1 < n6) := Lib.hid (by have h1 := Hc4.out.size; have h2 := lt_of_obj Hr3.out; omega)
      rw [← hX, ← hn]
      clear hX hn
      have Hc5 := Lib.hid (Hc4.out.trans hcx)
      have Hn2 := Lib.hid ((hcx.block n2 (lt_of_obj Hn2.out) (by simp)).trans Hn2.out)
      have Hn0 := Lib.hid ((hcx.block n0 (lt_of_obj Hn0.out) (by simp)).trans Hn0.out)
      have Hn6 := Lib.hid hbx
      clear hbx
      have hS := HS.out _ Hc5.out
      refine hK _ _ (fun _ => hS) trivial ?_
      clear hK K hcx
      refine anyU_one (k := 7) (by kernel_rfl) rfl (fun K hK => ?_)
      go_simp
      refine (object_any (some ⟨n2, 0, none⟩) (some ⟨n6, 0, none⟩) 1 1 1 1 W5).mono ?_
      rintro e W6 ⟨rfl, hcx⟩
      have Hc6 := Lib.hid (Hc5.out.trans hcx)
      have Hn2 := Lib.hid ((hcx.block n2 (lt_of_obj Hn2.out) (by simp)).trans Hn2.out)
      have Hn0 := Lib.hid ((hcx.block n0 (lt_of_obj Hn0.out) (by simp)).trans Hn0.out)
      have Hn6 := Lib.hid ((hcx.block n6 (lt_of_obj Hn6.out) (by simp)).trans Hn6.out)
      have hS := HS.out _ Hc6.out
      refine hK _ _ (fun _ => hS) trivial ?_
      clear hK K hcx
      refine anyU_one (k := 8) (by kernel_rfl) rfl (fun K hK => ?_)
      go_simp
      obtain ⟨W7, hX⟩ : ∃ x, x = W6.alloc (.cells #[.int .i64 3, .int .i64 0, .string ⟨#[36, 47, 99, 97, 110, 99, 101, 108]⟩, .slice none 0 0, .slice none 0 0, .int .i64 5, .int .i64 0, .string ⟨#[]⟩, .slice (some ⟨n2, 0, none⟩) 1 1, .slice (some ⟨n6, 0, none⟩) 1 1] 25) := ⟨_, rfl⟩
      obtain ⟨n8, hn⟩ : ∃ x, x = W6.heap.size := ⟨_, rfl⟩
      have hcx : Chg [] W6 W7 := by rw [hX]; exact (Chg.refl _ _).alloc _
      have hbx : W7.heap[n8]? = some (.cells #[.int .i64 3, .int .i64 0, .string ⟨#[36, 47, 99, 97, 110, 99, 101, 108]⟩, .slice none 0 0, .slice none 0 0, .int .i64 5, .int .i64 0, .string ⟨#[]⟩, .slice (some ⟨n2, 0, none⟩) 1 1, .slice (some ⟨n6, 0, none⟩) 1 1] 25 (0, 0)) := by rw [hX, hn]; exact heap_at _ _ _ rfl
      have Hge8 : Hid (mb ≤ n8) := Lib.hid (by have h1 := (HcA.out.trans (HcB.out.trans Hc6.out)).size; have h2 := Hmb.out; omega)
      have Hgt8 : Hid (mb + 1 < n8) := Lib.hid (by have h1 := Hc6.out.size; have h2 := lt_of_obj Hr3.out; omega)
      rw [← hX, ← hn]
      clear hX hn
      have Hc7 := Lib.hid (Hc6.out.trans hcx)
      have Hn2 := Lib.hid ((hcx.block n2 (lt_of_obj Hn2.out) (by simp)).trans Hn2.out)
      have Hn0 := Lib.hid ((hcx.block n0 (lt_of_obj Hn0.out) (by simp)).trans Hn0.out)
      have Hn6 := Lib.hid ((hcx.block n6 (lt_of_obj Hn6.out) (by simp)).trans Hn6.out)
      have Hn8 := Lib.hid hbx
      clear hbx
      have hS := HS.out _ Hc7.out
      refine hK _ _ (fun _ => hS) trivial ?_
      clear hK K hcx
      refine anyU_one (k := 9) (by kernel_rfl) rfl (fun K hK => ?_)
      go_simp
      refine (object_any (some ⟨n0, 0, none⟩) (some ⟨n8, 0, none⟩) 2 2 2 2 W7).mono ?_
      rintro e W8 ⟨rfl, hcx⟩
      have Hc8 := Lib.hid (Hc7.out.trans hcx)
      have Hn2 := Lib.hid ((hcx.block n2 (lt_of_obj Hn2.out) (by simp)).trans Hn2.out)
      have Hn0 := Lib.hid ((hcx.block n0 (lt_of_obj Hn0.out) (by simp)).trans Hn0.out)
      have Hn6 := Lib.hid ((hcx.block n6 (lt_of_obj Hn6.out) (by simp)).trans Hn6.out)
      have Hn8 := Lib.hid ((hcx.block n8 (lt_of_obj Hn8.out) (by simp)).trans Hn8.out)
      have hS := HS.out _ Hc8.out
      refine hK _ _ (fun _ => hS) trivial ?_
      clear hK K hcx
      refine anyU_one (k := 10) (by kernel_rfl) rfl (fun K hK => ?_)
      have hrx := (Hc8.out.block (mb + 1) (lt_of_obj Hr3.out) (by simp)).trans Hr3.out
      obtain ⟨r0, r1, r2, r3, r4⟩ := box_kept (mb + 1) hrx (Chg.refl [] W8)
      have fr := fun i => frozen_of_heap (i := i) hrx
      have lr := lt_of_cell r0
      go_simp
      refine hK _ _ (fun h => by simp at h) trivial ?_
      clear hK K hS
      refine anyU_done (by kernel_rfl) ?_
      go_wp2_with fail
      refine bodyPost_ret (v := .agg #[.int .i64 5, .int .i64 0, .string ⟨#[]⟩, .slice (some ⟨n0, 0, none⟩) 2 2, .slice (some ⟨n8, 0, none⟩) 2 2]) (by simp [results, Tryd.results33, go_sem, r0, r1, r2, r3, r4]) rfl ?_
      have hcs := st5_chg W8 (mb + 1) 0 ⟨5, 0, ⟨#[]⟩, some ⟨n0, 0, none⟩, 2, 2, some ⟨n8, 0, none⟩, 2, 2⟩
      exact toObj5_end ((hcs.block n0 (lt_of_obj Hn0.out) (by have h2 := Hgt0.out; simp; omega)).trans Hn0.out) ((hcs.block n2 (lt_of_obj Hn2.out) (by have h2 := Hgt2.out; simp; omega)).trans Hn2.out) ((hcs.block n6 (lt_of_obj Hn6.out) (by have h2 := Hgt6.out; simp; omega)).trans Hn6.out) ((hcs.block n8 (lt_of_obj Hn8.out) (by have h2 := Hgt8.out; simp; omega)).trans Hn8.out) Hge0.out Hge2.out Hge6.out Hge8.out Hmb.out ((HcA.out.trans (HcB.out.trans Hc8.out)).comp hcs fun g hg => Or.inr (by have := List.mem_singleton.1 hg; have := Hmb.out; omega))
    · skip
      go_simp
      refine (textV_any ⟨#[36, 47, 99, 97, 110, 99, 101, 108]⟩ W1).mono ?_
      rintro e W2 ⟨rfl, hcx⟩
      have Hc2 := Lib.hid (Hc1.out.trans hcx)
      have Hn2 := Lib.hid ((hcx.block n2 (lt_of_obj Hn2.out) (by simp)).trans Hn2.out)
      have hS := HS.out _ Hc2.out
      refine hK _ _ (fun _ => hS) trivial ?_
      clear hK K hcx
      refine anyU_two (k := 0) (k' := 5) (by kernel_rfl) rfl rfl (fun K hK => ?_) (fun K hK => ?_) 
      · skip
        go_simp
        obtain ⟨W3, hX⟩ : ∃ x, x = W2.alloc (.cells #[.string ⟨#[109, 101, 116, 104, 111, 100]⟩, .string ⟨#[112, 97, 114, 97, 109, 115]⟩] 9) := ⟨_, rfl⟩
        obtain ⟨n0, hn⟩ : ∃ x, x = W2.heap.size := ⟨_, rfl⟩
        have hcx : Chg [] W2 W3 := by rw [hX]; exact (Chg.refl _ _).alloc _
        have hbx : W3.heap[n0]? = some (.cells #[.string ⟨#[109, 101, 116, 104, 111, 100]⟩, .string ⟨#[112, 97, 114, 97, 109, 115]⟩] 9 (0, 0)) := by rw [hX, hn]; exact heap_at _ _ _ rfl
        have Hge0 : Hid (mb ≤ n0) := Lib.hid (by have h1 := (HcA.out.trans (HcB.out.trans Hc2.out)).size; have h2 := Hmb.out; omega)
        have Hgt0 : Hid (mb + 1 < n0) := Lib.hid (by have h1 := Hc2.out.size; have h2 := lt_of_obj Hr3.out; omega)
        rw [← hX, ← hn]
        clear hX hn
        have Hc3 := Lib.hid (Hc2.out.trans hcx)
        have Hn2 := Lib.hid ((hcx.block n2 (lt_of_obj Hn2.out) (by simp)).trans Hn2.out)
        have Hn0 := Lib.hid hbx
        clear hbx
        have hS := HS.out _ Hc3.out
        refine hK _ _ (fun _ => hS) trivial ?_
        clear hK K hcx
        refine anyU_one (k := 5) (by kernel_rfl) rfl (fun K hK => ?_)
        go_simp
        refine (number_any i W3).mono ?_
        rintro e W4 ⟨rfl, hcx⟩
        have Hc4 := Lib.hid (Hc3.out.trans hcx)
        have Hn2 := Lib.hid ((hcx.block n2 (lt_of_obj Hn2.out) (by simp)).trans Hn2.out)
        have Hn0 := Lib.hid ((hcx.block n0 (lt_of_obj Hn0.out) (by simp)).trans Hn0.out)
        have hS := HS.out _ Hc4.out
        refine hK _ _ (fun _ => hS) trivial ?_
        clear hK K hcx
        refine anyU_one (k := 6) (by kernel_rfl) rfl (fun K hK => ?_)
        go_simp
        obtain ⟨W5, hX⟩ : ∃ x, x = W4.alloc (.cells #[.int .i64 2, .int .i64 i, .string ⟨#[]⟩, .slice none 0 0, .slice none 0 0] 25) := ⟨_, rfl⟩
        obtain ⟨n6, hn⟩ : ∃ x, x = W4.heap.size := ⟨_, rfl⟩
        have hcx : Chg [] W4 W5 := by rw [hX]; exact (Chg.refl _ _).alloc _
        have hbx : W5.heap[n6]? = some (.cells #[.int .i64 2, .int .i64 i, .string ⟨#[]⟩, .slice none 0 0, .slice none 0 0] 25 (0, 0)) := by rw [hX, hn]; exact heap_at _ _ _ rfl
        have Hge6 : Hid (mb ≤ n6) := Lib.hid (by have h1 := (HcA.out.trans (HcB.out.trans Hc4.out)).size; have h2 := Hmb.out; omega)
        have Hgt6 : Hid (mb + 1 < n6) := Lib.hid (by have h1 := Hc4.out.size; have h2 := lt_of_obj Hr3.out; omega)
        rw [← hX, ← hn]
        clear hX hn
        have Hc5 := Lib.hid (Hc4.out.trans hcx)
        have Hn2 := Lib.hid ((hcx.block n2 (lt_of_obj Hn2.out) (by simp)).trans Hn2.out)
        have Hn0 := Lib.hid ((hcx.block n0 (lt_of_obj Hn0.out) (by simp)).trans Hn0.out)
        have Hn6 := Lib.hid hbx
        clear hbx
        have hS := HS.out _ Hc5.out
        refine hK _ _ (fun _ => hS) trivial ?_
        clear hK K hcx
        refine anyU_one (k := 7) (by kernel_rfl) rfl (fun K hK => ?_)
        go_simp
        refine (object_any (some ⟨n2, 0, none⟩) (some ⟨n6, 0, none⟩) 1 1 1 1 W5).mono ?_
        rintro e W6 ⟨rfl, hcx⟩
        have Hc6 := Lib.hid (Hc5.out.trans hcx)
        have Hn2 := Lib.hid ((hcx.block n2 (lt_of_obj Hn2.out) (by simp)).trans Hn2.out)
        have Hn0 := Lib.hid ((hcx.block n0 (lt_of_obj Hn0.out) (by simp)).trans Hn0.out)
        have Hn6 := Lib.hid ((hcx.block n6 (lt_of_obj Hn6.out) (by simp)).trans Hn6.out)
        have hS := HS.out _ Hc6.out
        refine hK _ _ (fun _ => hS) trivial ?_
        clear hK K hcx
        refine anyU_one (k := 8) (by kernel_rfl) rfl (fun K hK => ?_)
        go_simp
        obtain ⟨W7, hX⟩ : ∃ x, x = W6.alloc (.cells #[.int .i64 3, .int .i64 0, .string ⟨#[36, 47, 99, 97, 110, 99, 101, 108]⟩, .slice none 0 0, .slice none 0 0, .int .i64 5, .int .i64 0, .string ⟨#[]⟩, .slice (some ⟨n2, 0, none⟩) 1 1, .slice (some ⟨n6, 0, none⟩) 1 1] 25) := ⟨_, rfl⟩
        obtain ⟨n8, hn⟩ : ∃ x, x = W6.heap.size := ⟨_, rfl⟩
        have hcx : Chg [] W6 W7 := by rw [hX]; exact (Chg.refl _ _).alloc _
        have hbx : W7.heap[n8]? = some (.cells #[.int .i64 3, .int .i64 0, .string ⟨#[36, 47, 99, 97, 110, 99, 101, 108]⟩, .slice none 0 0, .slice none 0 0, .int .i64 5, .int .i64 0, .string ⟨#[]⟩, .slice (some ⟨n2, 0, none⟩) 1 1, .slice (some ⟨n6, 0, none⟩) 1 1] 25 (0, 0)) := by rw [hX, hn]; exact heap_at _ _ _ rfl
        have Hge8 : Hid (mb ≤ n8) := Lib.hid (by have h1 := (HcA.out.trans (HcB.out.trans Hc6.out)).size; have h2 := Hmb.out; omega)
        have Hgt8 : Hid (mb + 1 < n8) := Lib.hid (by have h1 := Hc6.out.size; have h2 := lt_of_obj Hr3.out; omega)
        rw [← hX, ← hn]
        clear hX hn
        have Hc7 := Lib.hid (Hc6.out.trans hcx)
        have Hn2 := Lib.hid ((hcx.block n2 (lt_of_obj Hn2.out) (by simp)).trans Hn2.out)
        have Hn0 := Lib.hid ((hcx.block n0 (lt_of_obj Hn0.out) (by simp)).trans Hn0.out)
        have Hn6 := Lib.hid ((hcx.block n6 (lt_of_obj Hn6.out) (by simp)).trans Hn6.out)
        have Hn8 := Lib.hid hbx
        clear hbx
        have hS := HS.out _ Hc7.out
        refine hK _ _ (fun _ => hS) trivial ?_
        clear hK K hcx
        refine anyU_one (k := 9) (by kernel_rfl) rfl (fun K hK => ?_)
        go_simp
        refine (object_any (some ⟨n0, 0, none⟩) (some ⟨n8, 0, none⟩) 2 2 2 2 W7).mono ?_
        rintro e W8 ⟨rfl, hcx⟩
        have Hc8 := Lib.hid (Hc7.out.trans hcx)
        have Hn2 := Lib.hid ((hcx.block n2 (lt_of_obj Hn2.out) (by simp)).trans Hn2.out)
        have Hn0 := Lib.hid ((hcx.block n0 (lt_of_obj Hn0.out) (by simp)).trans Hn0.out)
        have Hn6 := Lib.hid ((hcx.block n6 (lt_of_obj Hn6.out) (by simp)).trans Hn6.out)
        have Hn8 := Lib.hid ((hcx.block n8 (lt_of_obj Hn8.out) (by simp)).trans Hn8.out)
        have hS := HS.out _ Hc8.out
        refine hK _ _ (fun _ => hS) trivial ?_
        clear hK K hcx
        refine anyU_one (k := 10) (by kernel_rfl) rfl (fun K hK => ?_)
        have hrx := (Hc8.out.block (mb + 1) (lt_of_obj Hr3.out) (by simp)).trans Hr3.out
        obtain ⟨r0, r1, r2, r3, r4⟩ := box_kept (mb + 1) hrx (Chg.refl [] W8)
        have fr := fun i => frozen_of_heap (i := i) hrx
        have lr := lt_of_cell r0
        go_simp
        refine hK _ _ (fun h => by simp at h) trivial ?_
        clear hK K hS
        refine anyU_done (by kernel_rfl) ?_
        go_wp2_with fail
        refine bodyPost_ret (v := .agg #[.int .i64 5, .int .i64 0, .string ⟨#[]⟩, .slice (some ⟨n0, 0, none⟩) 2 2, .slice (some ⟨n8, 0, none⟩) 2 2]) (by simp [results, Tryd.results33, go_sem, r0, r1, r2, r3, r4]) rfl ?_
        have hcs := st5_chg W8 (mb + 1) 0 ⟨5, 0, ⟨#[]⟩, some ⟨n0, 0, none⟩, 2, 2, some ⟨n8, 0, none⟩, 2, 2⟩
        exact toObj5_end ((hcs.block n0 (lt_of_obj Hn0.out) (by have h2 := Hgt0.out; simp; omega)).trans Hn0.out) ((hcs.block n2 (lt_of_obj Hn2.out) (by have h2 := Hgt2.out; simp; omega)).trans Hn2.out) ((hcs.block n6 (lt_of_obj Hn6.out) (by have h2 := Hgt6.out; simp; omega)).trans Hn6.out) ((hcs.block n8 (lt_of_obj Hn8.out) (by have h2 := Hgt8.out; simp; omega)).trans Hn8.out) Hge0.out Hge2.out Hge6.out Hge8.out Hmb.out ((HcA.out.trans (HcB.out.trans Hc8.out)).comp hcs fun g hg => Or.inr (by have := List.mem_singleton.1 hg; have := Hmb.out; omega))
      · skip
        go_simp
        refine (number_any i W2).mono ?_
        rintro e W3 ⟨rfl, hcx⟩
        have Hc3 := Lib.hid (Hc2.out.trans hcx)
        have Hn2 := Lib.hid ((hcx.block n2 (lt_of_obj Hn2.out) (by simp)).trans Hn2.out)
        have hS := HS.out _ Hc3.out
        refine hK _ _ (fun _ => hS) trivial ?_
        clear hK K hcx
        refine anyU_two (k := 0) (k' := 6) (by kernel_rfl) rfl rfl (fun K hK => ?_) (fun K hK => ?_) 
        · skip
          go_simp
          obtain ⟨W4, hX⟩ : ∃ x, x = W3.alloc (.cells #[.string ⟨#[109, 101, 116, 104, 111, 100]⟩, .string ⟨#[112, 97, 114, 97, 109, 115]⟩] 9) := ⟨_, rfl⟩
          obtain ⟨n0, hn⟩ : ∃ x, x = W3.heap.size := ⟨_, rfl⟩
          have hcx : Chg [] W3 W4 := by rw [hX]; exact (Chg.refl _ _).alloc _
          have hbx : W4.heap[n0]? = some (.cells #[.string ⟨#[109, 101, 116, 104, 111, 100]⟩, .string ⟨#[112, 97, 114, 97, 109, 115]⟩] 9 (0, 0)) := by rw [hX, hn]; exact heap_at _ _ _ rfl
          have Hge0 : Hid (mb ≤ n0) := Lib.hid (by have h1 := (HcA.out.trans (HcB.out.trans Hc3.out)).size; have h2 := Hmb.out; omega)
          have Hgt0 : Hid (mb + 1 < n0) := Lib.hid (by have h1 := Hc3.out.size; have h2 := lt_of_obj Hr3.out; omega)
          rw [← hX, ← hn]
          clear hX hn
          have Hc4 := Lib.hid (Hc3.out.trans hcx)
          have Hn2 := Lib.hid ((hcx.block n2 (lt_of_obj Hn2.out) (by simp)).trans Hn2.out)
          have Hn0 := Lib.hid hbx
          clear hbx
          have hS := HS.out _ Hc4.out
          refine hK _ _ (fun _ => hS) trivial ?_
          clear hK K hcx
          refine anyU_one (k := 6) (by kernel_rfl) rfl (fun K hK => ?_)
          go_simp
          obtain ⟨W5, hX⟩ : ∃ x, x = W4.alloc (.cells #[.int .i64 2, .int .i64 i, .string ⟨#[]⟩, .slice none 0 0, .slice none 0 0] 25) := ⟨_, rfl⟩
          obtain ⟨n6, hn⟩ : ∃ x, x = W4.heap.size := ⟨_, rfl⟩
          have hcx : Chg [] W4 W5 := by rw [hX]; exact (Chg.refl _ _).alloc _
          have hbx : W5.heap[n6]? = some (.cells #[.int .i64 2, .int .i64 i, .string ⟨#[]⟩, .slice none 0 0, .slice none 0 0] 25 (0, 0)) := by rw [hX, hn]; exact heap_at _ _ _ rfl
          have Hge6 : Hid (mb ≤ n6) := Lib.hid (by have h1 := (HcA.out.trans (HcB.out.trans Hc4.out)).size; have h2 := Hmb.out; omega)
          have Hgt6 : Hid (mb + 1 < n6) := Lib.hid (by have h1 := Hc4.out.size; have h2 := lt_of_obj Hr3.out; omega)
          rw [← hX, ← hn]
          clear hX hn
          have Hc5 := Lib.hid (Hc4.out.trans hcx)
          have Hn2 := Lib.hid ((hcx.block n2 (lt_of_obj Hn2.out) (by simp)).trans Hn2.out)
          have Hn0 := Lib.hid ((hcx.block n0 (lt_of_obj Hn0.out) (by simp)).trans Hn0.out)
          have Hn6 := Lib.hid hbx
          clear hbx
          have hS := HS.out _ Hc5.out
          refine hK _ _ (fun _ => hS) trivial ?_
          clear hK K hcx
          refine anyU_one (k := 7) (by kernel_rfl) rfl (fun K hK => ?_)
          go_simp
          refine (object_any (some ⟨n2, 0, none⟩) (some ⟨n6, 0, none⟩) 1 1 1 1 W5).mono ?_
          rintro e W6 ⟨rfl, hcx⟩
          have Hc6 := Lib.hid (Hc5.out.trans hcx)
          have Hn2 := Lib.hid ((hcx.block n2 (lt_of_obj Hn2.out) (by simp)).trans Hn2.out)
          have Hn0 := Lib.hid ((hcx.block n0 (lt_of_obj Hn0.out) (by simp)).trans Hn0.out)
          have Hn6 := Lib.hid ((hcx.block n6 (lt_of_obj Hn6.out) (by simp)).trans Hn6.out)
          have hS := HS.out _ Hc6.out
          refine hK _ _ (fun _ => hS) trivial ?_
          clear hK K hcx
          refine anyU_one (k := 8) (by kernel_rfl) rfl (fun K hK => ?_)
          go_simp
          obtain ⟨W7, hX⟩ : ∃ x, x = W6.alloc (.cells #[.int .i64 3, .int .i64 0, .string ⟨#[36, 47, 99, 97, 110, 99, 101, 108]⟩, .slice none 0 0, .slice none 0 0, .int .i64 5, .int .i64 0, .string ⟨#[]⟩, .slice (some ⟨n2, 0, none⟩) 1 1, .slice (some ⟨n6, 0, none⟩) 1 1] 25) := ⟨_, rfl⟩
          obtain ⟨n8, hn⟩ : ∃ x, x = W6.heap.size := ⟨_, rfl⟩
          have hcx : Chg [] W6 W7 := by rw [hX]; exact (Chg.refl _ _).alloc _
          have hbx : W7.heap[n8]? = some (.cells #[.int .i64 3, .int .i64 0, .string ⟨#[36, 47, 99, 97, 110, 99, 101, 108]⟩, .slice none 0 0, .slice none 0 0, .int .i64 5, .int .i64 0, .string ⟨#[]⟩, .slice (some ⟨n2, 0, none⟩) 1 1, .slice (some ⟨n6, 0, none⟩) 1 1] 25 (0, 0)) := by rw [hX, hn]; exact heap_at _ _ _ rfl
          have Hge8 : Hid (mb ≤ n8) := Lib.hid (by have h1 := (HcA.out.trans (HcB.out.trans Hc6.out)).size; have h2 := Hmb.out; omega)
          have Hgt8 : Hid (mb + 1 < n8) := Lib.hid (by have h1 := Hc6.out.size; have h2 := lt_of_obj Hr3.out; omega)
          rw [← hX, ← hn]
          clear hX hn
          have Hc7 := Lib.hid (Hc6.out.trans hcx)
          have Hn2 := Lib.hid ((hcx.block n2 (lt_of_obj Hn2.out) (by simp)).trans Hn2.out)
          have Hn0 := Lib.hid ((hcx.block n0 (lt_of_obj Hn0.out) (by simp)).trans Hn0.out)
          have Hn6 := Lib.hid ((hcx.block n6 (lt_of_obj Hn6.out) (by simp)).trans Hn6.out)
          have Hn8 := Lib.hid hbx
          clear hbx
          have hS := HS.out _ Hc7.out
          refine hK _ _ (fun _ => hS) trivial ?_
          clear hK K hcx
          refine anyU_one (k := 9) (by kernel_rfl) rfl (fun K hK => ?_)
          go_simp
          refine (object_any (some ⟨n0, 0, none⟩) (some ⟨n8, 0, none⟩) 2 2 2 2 W7).mono ?_
          rintro e W8 ⟨rfl, hcx⟩
          have Hc8 := Lib.hid (Hc7.out.trans hcx)
          have Hn2 := Lib.hid ((hcx.block n2 (lt_of_obj Hn2.out) (by simp)).trans Hn2.out)
          have Hn0 := Lib.hid ((hcx.block n0 (lt_of_obj Hn0.out) (by simp)).trans Hn0.out)
          have Hn6 := Lib.hid ((hcx.block n6 (lt_of_obj Hn6.out) (by simp)).trans Hn6.out)
          have Hn8 := Lib.hid ((hcx.block n8 (lt_of_obj Hn8.out) (by simp)).trans Hn8.out)
          have hS := HS.out _ Hc8.out
          refine hK _ _ (fun _ => hS) trivial ?_
          clear hK K hcx
          refine anyU_one (k := 10) (by kernel_rfl) rfl (fun K hK => ?_)
          have hrx := (Hc8.out.block (mb + 1) (lt_of_obj Hr3.out) (by simp)).trans Hr3.out
          obtain ⟨r0, r1, r2, r3, r4⟩ := box_kept (mb + 1) hrx (Chg.refl [] W8)
          have fr := fun i => frozen_of_heap (i := i) hrx
          have lr := lt_of_cell r0
          go_simp
          refine hK _ _ (fun h => by simp at h) trivial ?_
          clear hK K hS
          refine anyU_done (by kernel_rfl) ?_
          go_wp2_with fail
          refine bodyPost_ret (v := .agg #[.int .i64 5, .int .i64 0, .string ⟨#[]⟩, .slice (some ⟨n0, 0, none⟩) 2 2, .slice (some ⟨n8, 0, none⟩) 2 2]) (by simp [results, Tryd.results33, go_sem, r0, r1, r2, r3, r4]) rfl ?_
          have hcs := st5_chg W8 (mb + 1) 0 ⟨5, 0, ⟨#[]⟩, some ⟨n0, 0, none⟩, 2, 2, some ⟨n8, 0, none⟩, 2, 2⟩
          exact toObj5_end ((hcs.block n0 (lt_of_obj Hn0.out) (by have h2 := Hgt0.out; simp; omega)).trans Hn0.out) ((hcs.block n2 (lt_of_obj Hn2.out) (by have h2 := Hgt2.out; simp; omega)).trans Hn2.out) ((hcs.block n6 (lt_of_obj Hn6.out) (by have h2 := Hgt6.out; simp; omega)).trans Hn6.out) ((hcs.block n8 (lt_of_obj Hn8.out) (by have h2 := Hgt8.out; simp; omega)).trans Hn8.out) Hge0.out Hge2.out Hge6.out Hge8.out Hmb.out ((HcA.out.trans (HcB.out.trans Hc8.out)).comp hcs fun g hg => Or.inr (by have := List.mem_singleton.1 hg; have := Hmb.out; omega))
        · skip
          go_simp
          obtain ⟨W4, hX⟩ : ∃ x, x = W3.alloc (.cells #[.int .i64 2, .int .i64 i, .string ⟨#[]⟩, .slice none 0 0, .slice none 0 0] 25) := ⟨_, rfl⟩
          obtain ⟨n6, hn⟩ : ∃ x, x = W3.heap.size := ⟨_, rfl⟩
          have hcx : Chg [] W3 W4 := by rw [hX]; exact (Chg.refl _ _).alloc _
          have hbx : W4.heap[n6]? = some (.cells #[.int .i64 2, .int .i64 i, .string ⟨#[]⟩, .slice none 0 0, .slice none 0 0] 25 (0, 0)) := by rw [hX, hn]; exact heap_at _ _ _ rfl
          have Hge6 : Hid (mb ≤ n6) := Lib.hid (by have h1 := (HcA.out.trans (HcB.out.trans Hc3.out)).size; have h2 := Hmb.out; omega)
          have Hgt6 : Hid (mb + 1 < n6) := Lib.hid (by have h1 := Hc3.out.size; have h2 := lt_of_obj Hr3.out; omega)
          rw [← hX, ← hn]
          clear hX hn
          have Hc4 := Lib.hid (Hc3.out.trans hcx)
          have Hn2 := Lib.hid ((hcx.block n2 (lt_of_obj Hn2.out) (by simp)).trans Hn2.out)
          have Hn6 := Lib.hid hbx
          clear hbx
          have hS := HS.out _ Hc4.out
          refine hK _ _ (fun _ => hS) trivial ?_
          clear hK K hcx
          refine anyU_two (k := 0) (k' := 7) (by kernel_rfl) rfl rfl (fun K hK => ?_) (fun K hK => ?_) 
          · skip
            go_simp
            obtain ⟨W5, hX⟩ : ∃ x, x = W4.alloc (.cells #[.string ⟨#[109, 101, 116, 104, 111, 100]⟩, .string ⟨#[112, 97, 114, 97, 109, 115]⟩] 9) := ⟨_, rfl⟩
            obtain ⟨n0, hn⟩ : ∃ x, x = W4.heap.size := ⟨_, rfl⟩
            have hcx : Chg [] W4 W5 := by rw [hX]; exact (Chg.refl _ _).alloc _
            have hbx : W5.heap[n0]? = some (.cells #[.string ⟨#[109, 101, 116, 104, 111, 100]⟩, .string ⟨#[112, 97, 114, 97, 109, 115]⟩] 9 (0, 0)) := by rw [hX, hn]; exact heap_at _ _ _ rfl
            have Hge0 : Hid (mb ≤ n0) := Lib.hid (by have h1 := (HcA.out.trans (HcB.out.trans Hc4.out)).size; have h2 := Hmb.out; omega)
            have Hgt0 : Hid (mb + 1 < n0) := Lib.hid (by have h1 := Hc4.out.size; have h2 := lt_of_obj Hr3.out; omega)
            rw [← hX, ← hn]
            clear hX hn
            have Hc5 := Lib.hid (Hc4.out.trans hcx)
            have Hn2 := Lib.hid ((hcx.block n2 (lt_of_obj Hn2.out) (by simp)).trans Hn2.out)
            have Hn6 := Lib.hid ((hcx.block n6 (lt_of_obj Hn6.out) (by simp)).trans Hn6.out)
            have Hn0 := Lib.hid hbx
            clear hbx
            have hS := HS.out _ Hc5.out
            refine hK _ _ (fun _ => hS) trivial ?_
            clear hK K hcx
            refine anyU_one (k := 7) (by kernel_rfl) rfl (fun K hK => ?_)
            go_simp
            refine (object_any (some ⟨n2, 0, none⟩) (some ⟨n6, 0, none⟩) 1 1 1 1 W5).mono ?_
            rintro e W6 ⟨rfl, hcx⟩
            have Hc6 := Lib.hid (Hc5.out.trans hcx)
            have Hn2 := Lib.hid ((hcx.block n2 (lt_of_obj Hn2.out) (by simp)).trans Hn2.out)
            have Hn6 := Lib.hid ((hcx.block n6 (lt_of_obj Hn6.out) (by simp)).trans Hn6.out)
            have Hn0 := Lib.hid ((hcx.block n0 (lt_of_obj Hn0.out) (by simp)).trans Hn0.out)
            have hS := HS.out _ Hc6.out
            refine hK _ _ (fun _ => hS) trivial ?_
            clear hK K hcx
            refine anyU_one (k := 8) (by kernel_rfl) rfl (fun K hK => ?_)
            go_simp
            obtain ⟨W7, hX⟩ : ∃ x, x = W6.alloc (.cells #[.int .i64 3, .int .i64 0, .string ⟨#[36, 47, 99, 97, 110, 99, 101, 108]⟩, .slice none 0 0, .slice none 0 0, .int .i64 5, .int .i64 0, .string ⟨#[]⟩, .slice (some ⟨n2, 0, none⟩) 1 1, .slice (some ⟨n6, 0, none⟩) 1 1] 25) := ⟨_, rfl⟩
            obtain ⟨n8, hn⟩ : ∃ x, x = W6.heap.size := ⟨_, rfl⟩
            have hcx : Chg [] W6 W7 := by rw [hX]; exact (Chg.refl _ _).alloc _
            have hbx : W7.heap[n8]? = some (.cells #[.int .i64 3, .int .i64 0, .string ⟨#[36, 47, 99, 97, 110, 99, 101, 108]⟩, .slice none 0 0, .slice none 0 0, .int .i64 5, .int .i64 0, .string ⟨#[]⟩, .slice (some ⟨n2, 0, none⟩) 1 1, .slice (some ⟨n6, 0, none⟩) 1 1] 25 (0, 0)) := by rw [hX, hn]; exact heap_at _ _ _ rfl
            have Hge8 : Hid (mb ≤ n8) := Lib.hid (by have h1 := (HcA.out.trans (HcB.out.trans Hc6.out)).size; have h2 := Hmb.out; omega)
            have Hgt8 : Hid (mb + 1 < n8) := Lib.hid (by have h1 := Hc6.out.size; have h2 := lt_of_obj Hr3.out; omega)
            rw [← hX, ← hn]
            clear hX hn
            have Hc7 := Lib.hid (Hc6.out.trans hcx)
            have Hn2 := Lib.hid ((hcx.block n2 (lt_of_obj Hn2.out) (by simp)).trans Hn2.out)
            have Hn6 := Lib.hid ((hcx.block n6 (lt_of_obj Hn6.out) (by simp)).trans Hn6.out)
            have Hn0 := Lib.hid ((hcx.block n0 (lt_of_obj Hn0.out) (by simp)).trans Hn0.out)
            have Hn8 := Lib.hid hbx
            clear hbx
            have hS := HS.out _ Hc7.out
            refine hK _ _ (fun _ => hS) trivial ?_
            clear hK K hcx
            refine anyU_one (k := 9) (by kernel_rfl) rfl (fun K hK => ?_)
            go_simp
            refine (object_any (some ⟨n0, 0, none⟩) (some ⟨n8, 0, none⟩) 2 2 2 2 W7).mono ?_
            rintro e W8 ⟨rfl, hcx⟩
            have Hc8 := Lib.hid (Hc7.out.trans hcx)
            have Hn2 := Lib.hid ((hcx.block n2 (lt_of_obj Hn2.out) (by simp)).trans Hn2.out)
            have Hn6 := Lib.hid ((hcx.block n6 (lt_of_obj Hn6.out) (by simp)).trans Hn6.out)
            have Hn0 := Lib.hid ((hcx.block n0 (lt_of_obj Hn0.out) (by simp)).trans Hn0.out)
            have Hn8 := Lib.hid ((hcx.block n8 (lt_of_obj Hn8.out) (by simp)).trans Hn8.out)
            have hS := HS.out _ Hc8.out
            refine hK _ _ (fun _ => hS) trivial ?_
            clear hK K hcx
            refine anyU_one (k := 10) (by kernel_rfl) rfl (fun K hK => ?_)
            have hrx := (Hc8.out.block (mb + 1) (lt_of_obj Hr3.out) (by simp)).trans Hr3.out
            obtain ⟨r0, r1, r2, r3, r4⟩ := box_kept (mb + 1) hrx (Chg.refl [] W8)
            have fr := fun i => frozen_of_heap (i := i) hrx
            have lr := lt_of_cell r0
            go_simp
            refine hK _ _ (fun h => by simp at h) trivial ?_
            clear hK K hS
            refine anyU_done (by kernel_rfl) ?_
            go_wp2_with fail
            refine bodyPost_ret (v := .agg #[.int .i64 5, .int .i64 0, .string ⟨#[]⟩, .slice (some ⟨n0, 0, none⟩) 2 2, .slice (some ⟨n8, 0, none⟩) 2 2]) (by simp [results, Tryd.results33, go_sem, r0, r1, r2, r3, r4]) rfl ?_
            have hcs := st5_chg W8 (mb + 1) 0 ⟨5, 0, ⟨#[]⟩, some ⟨n0, 0, none⟩, 2, 2, some ⟨n8, 0, none⟩, 2, 2⟩
            exact toObj5_end ((hcs.block n0 (lt_of_obj Hn0.out) (by have h2 := Hgt0.out; simp; omega)).trans Hn0.out) ((hcs.block n2 (lt_of_obj Hn2.out) (by have h2 := Hgt2.out; simp; omega)).trans Hn2.out) ((hcs.block n6 (lt_of_obj Hn6.out) (by have h2 := Hgt6.out; simp; omega)).trans Hn6.out) ((hcs.block n8 (lt_of_obj Hn8.out) (by have h2 := Hgt8.out; simp; omega)).trans Hn8.out) Hge0.out Hge2.out Hge6.out Hge8.out Hmb.out ((HcA.out.trans (HcB.out.trans Hc8.out)).comp hcs fun g hg => Or.inr (by have := List.mem_singleton.1 hg; have := Hmb.out; omega))
          · skip
            go_simp
            refine (object_any (some ⟨n2, 0, none⟩) (some ⟨n6, 0, none⟩) 1 1 1 1 W4).mono ?_
            rintro e W5 ⟨rfl, hcx⟩
            have Hc5 := Lib.hid (Hc4.out.trans hcx)
            have Hn2 := Lib.hid ((hcx.block n2 (lt_of_obj Hn2.out) (by simp)).trans Hn2.out)
            have Hn6 := Lib.hid ((hcx.block n6 (lt_of_obj Hn6.out) (by simp)).trans Hn6.out)
            have hS := HS.out _ Hc5.out
            refine hK _ _ (fun _ => hS) trivial ?_
            clear hK K hcx
            refine anyU_two (k := 0) (k' := 8) (by kernel_rfl) rfl rfl (fun K hK => ?_) (fun K hK => ?_) 
            · skip
              go_simp
              obtain ⟨W6, hX⟩ : ∃ x, x = W5.alloc (.cells #[.string ⟨#[109, 101, 116, 104, 111, 100]⟩, .string ⟨#[112, 97, 114, 97, 109, 115]⟩] 9) := ⟨_, rfl⟩
              obtain ⟨n0, hn⟩ : ∃ x, x = W5.heap.size := ⟨_, rfl⟩
              have hcx : Chg [] W5 W6 := by rw [hX]; exact (Chg.refl _ _).alloc _
              have hbx : W6.heap[n0]? = some (.cells #[.string ⟨#[109, 101, 116, 104, 111, 100]⟩, .string ⟨#[112, 97, 114, 97, 109, 115]⟩] 9 (0, 0)) := by rw [hX, hn]; exact heap_at _ _ _ rfl
              have Hge0 : Hid (mb ≤ n0) := Lib.hid (by have h1 := (HcA.out.trans (HcB.out.trans Hc5.out)).size; have h2 := Hmb.out; omega)
              have Hgt0 : Hid (mb + 1 < n0) := Lib.hid (by have h1 := Hc5.out.size; have h2 := lt_of_obj Hr3.out; omega)
              rw [← hX, ← hn]
              clear hX hn
              have Hc6 := Lib.hid (Hc5.out.trans hcx)
              have Hn2 := Lib.hid ((hcx.block n2 (lt_of_obj Hn2.out) (by simp)).trans Hn2.out)
              have Hn6 := Lib.hid ((hcx.block n6 (lt_of_obj Hn6.out) (by simp)).trans Hn6.out)
              have Hn0 := Lib.hid hbx
              clear hbx
              have hS := HS.out _ Hc6.out
              refine hK _ _ (fun _ => hS) trivial ?_
              clear hK K hcx
              refine anyU_one (k := 8) (by kernel_rfl) rfl (fun K hK => ?_)
              go_simp
              obtain ⟨W7, hX⟩ : ∃ x, x = W6.alloc (.cells #[.int .i64 3, .int .i64 0, .string ⟨#[36, 47, 99, 97, 110, 99, 101, 108]⟩, .slice none 0 0, .slice none 0 0, .int .i64 5, .int .i64 0, .string ⟨#[]⟩, .slice (some ⟨n2, 0, none⟩) 1 1, .slice (some ⟨n6, 0, none⟩) 1 1] 25) := ⟨_, rfl⟩
              obtain ⟨n8, hn⟩ : ∃ x, x = W6.heap.size := ⟨_, rfl⟩
              have hcx : Chg [] W6 W7 := by rw [hX]; exact (Chg.refl _ _).alloc _
              have hbx : W7.heap[n8]? = some (.cells #[.int .i64 3, .int .i64 0, .string ⟨#[36, 47, 99, 97, 110, 99, 101, 108]⟩, .slice none 0 0, .slice none 0 0, .int .i64 5, .int .i64 0, .string ⟨#[]⟩, .slice (some ⟨n2, 0, none⟩) 1 1, .slice (some ⟨n6, 0, none⟩) 1 1] 25 (0, 0)) := by rw [hX, hn]; exact heap_at _ _ _ rfl
              have Hge8 : Hid (mb ≤ n8) := Lib.hid (by have h1 := (HcA.out.trans (HcB.out.trans Hc6.out)).size; have h2 := Hmb.out; omega)
              have Hgt8 : Hid (mb + 1 < n8) := Lib.hid (by have h1 := Hc6.out.size; have h2 := lt_of_obj Hr3.out; omega)
              rw [← hX, ← hn]
              clear hX hn
              have Hc7 := Lib.hid (Hc6.out.trans hcx)
              have Hn2 := Lib.hid ((hcx.block n2 (lt_of_obj Hn2.out) (by simp)).trans Hn2.out)
              have Hn6 := Lib.hid ((hcx.block n6 (lt_of_obj Hn6.out) (by simp)).trans Hn6.out)
              have Hn0 := Lib.hid ((hcx.block n0 (lt_of_obj Hn0.out) (by simp)).trans Hn0.out)
              have Hn8 := Lib.hid hbx
              clear hbx
              have hS := HS.out _ Hc7.out
              refine hK _ _ (fun _ => hS) trivial ?_
              clear hK K hcx
              refine anyU_one (k := 9) (by kernel_rfl) rfl (fun K hK => ?_)
              go_simp
              refine (object_any (some ⟨n0, 0, none⟩) (some ⟨n8, 0, none⟩) 2 2 2 2 W7).mono ?_
              rintro e W8 ⟨rfl, hcx⟩
              have Hc8 := Lib.hid (Hc7.out.trans hcx)
              have Hn2 := Lib.hid ((hcx.block n2 (lt_of_obj Hn2.out) (by simp)).trans Hn2.out)
              have Hn6 := Lib.hid ((hcx.block n6 (lt_of_obj Hn6.out) (by simp)).trans Hn6.out)
              have Hn0 := Lib.hid ((hcx.block n0 (lt_of_obj Hn0.out) (by simp)).trans Hn0.out)
              have Hn8 := Lib.hid ((hcx.block n8 (lt_of_obj Hn8.out) (by simp)).trans Hn8.out)
              have hS := HS.out _ Hc8.out
              refine hK _ _ (fun _ => hS) trivial ?_
              clear hK K hcx
              refine anyU_one (k := 10) (by kernel_rfl) rfl (fun K hK => ?_)
              have hrx := (Hc8.out.block (mb + 1) (lt_of_obj Hr3.out) (by simp)).trans Hr3.out
              obtain ⟨r0, r1, r2, r3, r4⟩ := box_kept (mb + 1) hrx (Chg.refl [] W8)
              have fr := fun i => frozen_of_heap (i := i) hrx
              have lr := lt_of_cell r0
              go_simp
              refine hK _ _ (fun h => by simp at h) trivial ?_
              clear hK K hS
              refine anyU_done (by kernel_rfl) ?_
              go_wp2_with fail
              refine bodyPost_ret (v := .agg #[.int .i64 5, .int .i64 0, .string ⟨#[]⟩, .slice (some ⟨n0, 0, none⟩) 2 2, .slice (some ⟨n8, 0, none⟩) 2 2]) (by simp [results, Tryd.results33, go_sem, r0, r1, r2, r3, r4]) rfl ?_
              have hcs := st5_chg W8 (mb + 1) 0 ⟨5, 0, ⟨#[]⟩, some ⟨n0, 0, none⟩, 2, 2, some ⟨n8, 0, none⟩, 2, 2⟩
              exact toObj5_end ((hcs.block n0 (lt_of_obj Hn0.out) (by have h2 := Hgt0.out; simp; omega)).trans Hn0.out) ((hcs.block n2 (lt_of_obj Hn2.out) (by have h2 := Hgt2.out; simp; omega)).trans Hn2.out) ((hcs.block n6 (lt_of_obj Hn6.out) (by have h2 := Hgt6.out; simp; omega)).trans Hn6.out) ((hcs.block n8 (lt_of_obj Hn8.out) (by have h2 := Hgt8.out; simp; omega)).trans Hn8.out) Hge0.out Hge2.out Hge6.out Hge8.out Hmb.out ((HcA.out.trans (HcB.out.trans Hc8.out)).comp hcs fun g hg => Or.inr (by have := List.mem_singleton.1 hg; have := Hmb.out; omega))
            · skip
              go_simp
              obtain ⟨W6, hX⟩ : ∃ x, x = W5.alloc (.cells #[.int .i64 3, .int .i64 0, .string ⟨#[36, 47, 99, 97, 110, 99, 101, 108]⟩, .slice none 0 0, .slice none 0 0, .int .i64 5, .int .i64 0, .string ⟨#[]⟩, .slice (some ⟨n2, 0, none⟩) 1 1, .slice (some ⟨n6, 0, none⟩) 1 1] 25) := ⟨_, rfl⟩
              obtain ⟨n8, hn⟩ : ∃ x, x = W5.heap.size := ⟨_, rfl⟩
              have hcx : Chg [] W5 W6 := by rw [hX]; exact (Chg.refl _ _).alloc _
              have hbx : W6.heap[n8]? = some (.cells #[.int .i64 3, .int .i64 0, .string ⟨#[36, 47, 99, 97, 110, 99, 101, 108]⟩, .slice none 0 0, .slice none 0 0, .int .i64 5, .int .i64 0, .string ⟨#[]⟩, .slice (some ⟨n2, 0, none⟩) 1 1, .slice (some ⟨n6, 0, none⟩) 1 1] 25 (0, 0)) := by rw [hX, hn]; exact heap_at _ _ _ rfl
              have Hge8 : Hid (mb ≤ n8) := Lib.hid (by have h1 := (HcA.out.trans (HcB.out.trans Hc5.out)).size; have h2 := Hmb.out; omega)
              have Hgt8 : Hid (mb + 1 < n8) := Lib.hid (by have h1 := Hc5.out.size; have h2 := lt_of_obj Hr3.out; omega)
              rw [← hX, ← hn]
              clear hX hn
              have Hc6 := Lib.hid (Hc5.out.trans hcx)
              have Hn2 := Lib.hid ((hcx.block n2 (lt_of_obj Hn2.out) (by simp)).trans Hn2.out)
              have Hn6 := Lib.hid ((hcx.block n6 (lt_of_obj Hn6.out) (by simp)).trans Hn6.out)
              have Hn8 := Lib.hid hbx
              clear hbx
              have hS := HS.out _ Hc6.out
              refine hK _ _ (fun _ => hS) trivial ?_
              clear hK K hcx
              refine anyU_one (k := 0) (by kernel_rfl) rfl (fun K hK => ?_)
              go_simp
              obtain ⟨W7, hX⟩ : ∃ x, x = W6.alloc (.cells #[.string ⟨#[109, 101, 116, 104, 111, 100]⟩, .string ⟨#[112, 97, 114, 97, 109, 115]⟩] 9) := ⟨_, rfl⟩
              obtain ⟨n0, hn⟩ : ∃ x, x = W6.heap.size := ⟨_, rfl⟩
              have hcx : Chg [] W6 W7 := by rw [hX]; exact (Chg.refl _ _).alloc _
              have hbx : W7.heap[n0]? = some (.cells #[.string ⟨#[109, 101, 116, 104, 111, 100]⟩, .string ⟨#[112, 97, 114, 97, 109, 115]⟩] 9 (0, 0)) := by rw [hX, hn]; exact heap_at _ _ _ rfl
              have Hge0 : Hid (mb ≤ n0) := Lib.hid (by have h1 := (HcA.out.trans (HcB.out.trans Hc6.out)).size; have h2 := Hmb.out; omega)
              have Hgt0 : Hid (mb + 1 < n0) := Lib.hid (by have h1 := Hc6.out.size; have h2 := lt_of_obj Hr3.out; omega)
              rw [← hX, ← hn]
              clear hX hn
              have Hc7 := Lib.hid (Hc6.out.trans hcx)
              have Hn2 := Lib.hid ((hcx.block n2 (lt_of_obj Hn2.out) (by simp)).trans Hn2.out)
              have Hn6 := Lib.hid ((hcx.block n6 (lt_of_obj Hn6.out) (by simp)).trans Hn6.out)
              have Hn8 := Lib.hid ((hcx.block n8 (lt_of_obj Hn8.out) (by simp)).trans Hn8.out)
              have Hn0 := Lib.hid hbx
              clear hbx
              have hS := HS.out _ Hc7.out
              refine hK _ _ (fun _ => hS) trivial ?_
              clear hK K hcx
              refine anyU_one (k := 9) (by kernel_rfl) rfl (fun K hK => ?_)
              go_simp
              refine (object_any (some ⟨n0, 0, none⟩) (some ⟨n8, 0, none⟩) 2 2 2 2 W7).mono ?_
              rintro e W8 ⟨rfl, hcx⟩
              have Hc8 := Lib.hid (Hc7.out.trans hcx)
              have Hn2 := Lib.hid ((hcx.block n2 (lt_of_obj Hn2.out) (by simp)).trans Hn2.out)
              have Hn6 := Lib.hid ((hcx.block n6 (lt_of_obj Hn6.out) (by simp)).trans Hn6.out)
              have Hn8 := Lib.hid ((hcx.block n8 (lt_of_obj Hn8.out) (by simp)).trans Hn8.out)
              have Hn0 := Lib.hid ((hcx.block n0 (lt_of_obj Hn0.out) (by simp)).trans Hn0.out)
              have hS := HS.out _ Hc8.out
              refine hK _ _ (fun _ => hS) trivial ?_
              clear hK K hcx
              refine anyU_one (k := 10) (by kernel_rfl) rfl (fun K hK => ?_)
              have hrx := (Hc8.out.block (mb + 1) (lt_of_obj Hr3.out) (by simp)).trans Hr3.out
              obtain ⟨r0, r1, r2, r3, r4⟩ := box_kept (mb + 1) hrx (Chg.refl [] W8)
              have fr := fun i => frozen_of_heap (i := i) hrx
              have lr := lt_of_cell r0
              go_simp
              refine hK _ _ (fun h => by simp at h) trivial ?_
              clear hK K hS
              refine anyU_done (by kernel_rfl) ?_
              go_wp2_with fail
              refine bodyPost_ret (v := .agg #[.int .i64 5, .int .i64 0, .string ⟨#[]⟩, .slice (some ⟨n0, 0, none⟩) 2 2, .slice (some ⟨n8, 0, none⟩) 2 2]) (by simp [results, Tryd.results33, go_sem, r0, r1, r2, r3, r4]) rfl ?_
              have hcs := st5_chg W8 (mb + 1) 0 ⟨5, 0, ⟨#[]⟩, some ⟨n0, 0, none⟩, 2, 2, some ⟨n8, 0, none⟩, 2, 2⟩
              exact toObj5_end ((hcs.block n0 (lt_of_obj Hn0.out) (by have h2 := Hgt0.out; simp; omega)).trans Hn0.out) ((hcs.block n2 (lt_of_obj Hn2.out) (by have h2 := Hgt2.out; simp; omega)).trans Hn2.out) ((hcs.block n6 (lt_of_obj Hn6.out) (by have h2 := Hgt6.out; simp; omega)).trans Hn6.out) ((hcs.block n8 (lt_of_obj Hn8.out) (by have h2 := Hgt8.out; simp; omega)).trans Hn8.out) Hge0.out Hge2.out Hge6.out Hge8.out Hmb.out ((HcA.out.trans (HcB.out.trans Hc8.out)).comp hcs fun g hg => Or.inr (by have := List.mem_singleton.1 hg; have := Hmb.out; omega))
end Go.Proofs.YtiklgipcgdgkoaaDoor.Jv
