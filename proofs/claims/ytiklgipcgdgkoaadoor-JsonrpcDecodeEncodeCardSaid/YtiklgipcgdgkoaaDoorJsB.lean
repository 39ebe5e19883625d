/- Protocol messages: wellFormed, clone (printed by wip/gen_jsb.py). -/
import Derived.Test.YtiklgipcgdgkoaaDoorJsA
import Derived.Test.YtiklgipcgdgkoaaDoorJvP
namespace Go.Proofs.YtiklgipcgdgkoaaDoor.Jv
open Go.RowKit Go.ChangeMaps Go.MapKept
set_option linter.unusedVariables false
set_option linter.unusedSimpArgs false
/-- a message that is well formed, without a body -/
def Gd (k i c : Int) (t : ByteArray) : Prop := (0 ≤ i ∧ i ≤ 2147483647) ∧ ((k = 1 ∧ c = 0 ∧ 1 ≤ t.size ∧ t.size ≤ 60 ∧ u8 t = true) ∨ (k = 4 ∧ (1 ≤ c ∧ c ≤ 99) ∧ t.size ≤ 60 ∧ u8 t = true) ∨ ((k = 3 ∨ k = 5) ∧ c = 0 ∧ t = ⟨#[]⟩))
theorem Gd.meth {k i c : Int} {t : ByteArray} (h : Gd k i c t) : (k = 1 ∧ 1 ≤ t.size ∧ t.size ≤ 60 ∧ u8 t = true) ∨ (k = 4 ∧ t.size ≤ 60 ∧ u8 t = true) ∨ ((k = 3 ∨ k = 5) ∧ t = ⟨#[]⟩) := by
  rcases h.2 with ⟨h1, _, h2⟩ | ⟨h1, _, h2⟩ | ⟨h1, _, h2⟩
  · exact Or.inl ⟨h1, h2⟩
  · exact Or.inr (Or.inl ⟨h1, h2⟩)
  · exact Or.inr (Or.inr ⟨h1, h2⟩)
set_option maxHeartbeats 4000000 in
theorem clone_zero (w : World) : Calls Tryd.prog 39 #[.agg #[.int .i64 0, .int .i64 0, .string ⟨#[]⟩, .slice none 0 0, .slice none 0 0]] w fun e w' => e = .returned (.agg #[.int .i64 0, .int .i64 0, .string ⟨#[]⟩, .slice none 0 0, .slice none 0 0]) ∧ Chg [] w w' := by
  obtain ⟨w2, hw2⟩ : ∃ x, x = (w.alloc (.cells #[.int .i64 0, .int .i64 0, .string ⟨#[]⟩, .slice none 0 0, .slice none 0 0] 25)).alloc (.cells #[.int .i64 0, .int .i64 0, .string ⟨#[]⟩, .slice none 0 0, .slice none 0 0] 25) := ⟨_, rfl⟩
  obtain ⟨B, hB⟩ : ∃ x, x = w.heap.size := ⟨_, rfl⟩
  have hc2 : Chg [] w w2 := by rw [hw2]; exact ((Chg.refl _ _).alloc _).alloc _
  have hb1 : w2.heap[B]? = some (.cells #[.int .i64 0, .int .i64 0, .string ⟨#[]⟩, .slice none 0 0, .slice none 0 0] 25 (0, 0)) := by
    rw [hw2, hB, heap_past _ _ _ (by simp)]
    exact heap_at _ _ _ rfl
  have hb2 : w2.heap[B + 1]? = some (.cells #[.int .i64 0, .int .i64 0, .string ⟨#[]⟩, .slice none 0 0, .slice none 0 0] 25 (0, 0)) := by
    rw [hw2, hB]
    exact heap_at _ _ _ (by simp)
  obtain ⟨a0, a1, a2, a3, a4⟩ := box_kept B hb1 (Chg.refl [] w2)
  obtain ⟨r0, r1, r2, r3, r4⟩ := box_kept (B + 1) hb2 (Chg.refl [] w2)
  have fr := fun i => frozen_of_heap (i := i) hb2
  have lr := lt_of_obj hb2
  have Hr := Lib.hid (And.intro a0 (And.intro a1 (And.intro a2 (And.intro a3 (And.intro a4 (And.intro r0 (And.intro r1 (And.intro r2 (And.intro r3 (And.intro r4 (And.intro fr lr)))))))))))
  have Hc := Lib.hid hc2
  have Hcs := Lib.hid (st5_chg w2 (B + 1) 0 ⟨0, 0, ⟨#[]⟩, none, 0, 0, none, 0, 0⟩)
  have Hbw := Lib.hid hB
  clear hc2 hb1 hb2 a0 a1 a2 a3 a4 r0 r1 r2 r3 r4 fr lr
  go_enter Tryd.func39, Tryd.ntmps39
  go_wp2_with (go_at_call 58; refine (Tryd.slices_Clone_string_nil 0 0 _).mono ?_; rintro e w' ⟨rfl, rfl⟩)
  rw [← hw2, ← hB]
  clear hw2 hB
  go_loopw [15] (fun vi wr => vi = .int .i64 0 ∧ Hid (wr = w2)) (fun _ _ => 0)
  case atStart => exact ⟨rfl, Lib.hid rfl⟩
  case round =>
    obtain ⟨rfl, HW⟩ := hrel
    obtain rfl := HW.out
    obtain ⟨a0, a1, a2, a3, a4, r0, r1, r2, r3, r4, fr, lr⟩ := Hr.out
    go_wp2_with fail
    refine bodyPost_ret (v := .agg #[.int .i64 0, .int .i64 0, .string ⟨#[]⟩, .slice none 0 0, .slice none 0 0]) (by simp [results, Tryd.results39, go_sem, r0, r1, r2, r3, r4]) rfl ?_
    refine ⟨rfl, ?_⟩
    have h2 := Hcs.out
    unfold st5 at h2
    exact Hc.out.comp h2 fun g hg => Or.inr (by have := List.mem_singleton.1 hg; have := Hbw.out; omega)
theorem msg_cells (b : Nat) {w w' : World} {k i c : Int} {t : ByteArray} {x y : Int} {s : ByteArray} {nv iv : Value} (h : w.heap[b]? = some (.cells #[.int .i64 k, .int .i64 i, .int .i64 c, .string t, .int .i64 x, .int .i64 y, .string s, nv, iv] 27 (0, 0))) (hc : Chg [] w w') :
    w'.cell? ⟨b, 0, none⟩ = some (.int .i64 k) ∧ w'.cell? ⟨b, 1, none⟩ = some (.int .i64 i) ∧ w'.cell? ⟨b, 2, none⟩ = some (.int .i64 c) ∧ w'.cell? ⟨b, 3, none⟩ = some (.string t) ∧ w'.cell? ⟨b, 4, none⟩ = some (.int .i64 x) ∧ w'.cell? ⟨b, 5, none⟩ = some (.int .i64 y) ∧ w'.cell? ⟨b, 6, none⟩ = some (.string s) ∧ w'.cell? ⟨b, 7, none⟩ = some nv ∧ w'.cell? ⟨b, 8, none⟩ = some iv := by
  have h' := (hc.block _ (lt_of_obj h) (by simp)).trans h
  exact ⟨cell_of_heap h' rfl, cell_of_heap h' rfl, cell_of_heap h' rfl, cell_of_heap h' rfl, cell_of_heap h' rfl, cell_of_heap h' rfl, cell_of_heap h' rfl, cell_of_heap h' rfl, cell_of_heap h' rfl⟩
set_option maxHeartbeats 4000000 in
theorem wf1 (i : Int) (t : ByteArray) (w : World) (hT : Tb w) (h : Gd 1 i 0 t) : Calls Tryd.prog 31 #[mV 1 i 0 t] w fun e w' => e = .returned (.bool true) ∧ Chg [] w w' := by
  have hi0 := h.1.1
  have hi1 := h.1.2
  obtain ⟨w1, hw1⟩ : ∃ x, x = w.alloc (.cells #[.int .i64 1, .int .i64 i, .int .i64 0, .string t, .int .i64 0, .int .i64 0, .string ⟨#[]⟩, .slice none 0 0, .slice none 0 0] 27) := ⟨_, rfl⟩
  obtain ⟨B, hB⟩ : ∃ x, x = w.heap.size := ⟨_, rfl⟩
  have hc1' : Chg [] w w1 := by rw [hw1]; exact (Chg.refl _ _).alloc _
  have hb1 : w1.heap[B]? = some (.cells #[.int .i64 1, .int .i64 i, .int .i64 0, .string t, .int .i64 0, .int .i64 0, .string ⟨#[]⟩, .slice none 0 0, .slice none 0 0] 27 (0, 0)) := by rw [hw1, hB]; exact heap_at _ _ _ rfl
  have HM := Lib.hid (fun W (hW : Chg [] w W) => validMethod_any 1 i 0 t W (hT.new hW) h.meth)
  unfold mV at HM ⊢
  have Hc := Lib.hid hc1'
  have Hb := Lib.hid hb1
  have HZ := Lib.hid (fun W => isNull_zero W)
  clear hT h hc1' hb1
  go_enter Tryd.func31, Tryd.ntmps31
  go_upto_region 1 with fail
  rw [← hw1, ← hB]
  clear hw1 hB
  obtain ⟨b0, b1, b2, b3, b4, b5, b6, b7, b8⟩ := msg_cells B Hb.out (Chg.refl [] w1)
  have Hc2 := Hc
  go_wp2_with fail
  refine (HM.out w1 Hc2.out).mono ?_
  rintro e w3 ⟨rfl, hc3⟩
  have Hc3 := Lib.hid (Hc2.out.trans hc3)
  clear hc3
  go_wp2_with fail
  go_ret
  exact ⟨rfl, Hc3.out⟩
set_option maxHeartbeats 4000000 in
theorem wf3 (i : Int) (w : World) (hT : Tb w) (h : Gd 3 i 0 ⟨#[]⟩) : Calls Tryd.prog 31 #[mV 3 i 0 ⟨#[]⟩] w fun e w' => e = .returned (.bool true) ∧ Chg [] w w' := by
  have hi0 := h.1.1
  have hi1 := h.1.2
  obtain ⟨w1, hw1⟩ : ∃ x, x = w.alloc (.cells #[.int .i64 3, .int .i64 i, .int .i64 0, .string ⟨#[]⟩, .int .i64 0, .int .i64 0, .string ⟨#[]⟩, .slice none 0 0, .slice none 0 0] 27) := ⟨_, rfl⟩
  obtain ⟨B, hB⟩ : ∃ x, x = w.heap.size := ⟨_, rfl⟩
  have hc1' : Chg [] w w1 := by rw [hw1]; exact (Chg.refl _ _).alloc _
  have hb1 : w1.heap[B]? = some (.cells #[.int .i64 3, .int .i64 i, .int .i64 0, .string ⟨#[]⟩, .int .i64 0, .int .i64 0, .string ⟨#[]⟩, .slice none 0 0, .slice none 0 0] 27 (0, 0)) := by rw [hw1, hB]; exact heap_at _ _ _ rfl
  have HM := Lib.hid (fun W (hW : Chg [] w W) => validMethod_any 3 i 0 ⟨#[]⟩ W (hT.new hW) h.meth)
  unfold mV at HM ⊢
  have Hc := Lib.hid hc1'
  have Hb := Lib.hid hb1
  have HZ := Lib.hid (fun W => isNull_zero W)
  clear hT h hc1' hb1
  go_enter Tryd.func31, Tryd.ntmps31
  go_upto_region 1 with fail
  rw [← hw1, ← hB]
  clear hw1 hB
  obtain ⟨b0, b1, b2, b3, b4, b5, b6, b7, b8⟩ := msg_cells B Hb.out (Chg.refl [] w1)
  have Hc2 := Hc
  go_wp2_with fail
  refine (HM.out w1 Hc2.out).mono ?_
  rintro e w3 ⟨rfl, hc3⟩
  have Hc3 := Lib.hid (Hc2.out.trans hc3)
  clear hc3
  go_wp2_with fail
  go_ret
  exact ⟨rfl, Hc3.out⟩
set_option maxHeartbeats 4000000 in
theorem wf5 (i : Int) (w : World) (hT : Tb w) (h : Gd 5 i 0 ⟨#[]⟩) : Calls Tryd.prog 31 #[mV 5 i 0 ⟨#[]⟩] w fun e w' => e = .returned (.bool true) ∧ Chg [] w w' := by
  have hi0 := h.1.1
  have hi1 := h.1.2
  obtain ⟨w1, hw1⟩ : ∃ x, x = w.alloc (.cells #[.int .i64 5, .int .i64 i, .int .i64 0, .string ⟨#[]⟩, .int .i64 0, .int .i64 0, .string ⟨#[]⟩, .slice none 0 0, .slice none 0 0] 27) := ⟨_, rfl⟩
  obtain ⟨B, hB⟩ : ∃ x, x = w.heap.size := ⟨_, rfl⟩
  have hc1' : Chg [] w w1 := by rw [hw1]; exact (Chg.refl _ _).alloc _
  have hb1 : w1.heap[B]? = some (.cells #[.int .i64 5, .int .i64 i, .int .i64 0, .string ⟨#[]⟩, .int .i64 0, .int .i64 0, .string ⟨#[]⟩, .slice none 0 0, .slice none 0 0] 27 (0, 0)) := by rw [hw1, hB]; exact heap_at _ _ _ rfl
  have HM := Lib.hid (fun W (hW : Chg [] w W) => validMethod_any 5 i 0 ⟨#[]⟩ W (hT.new hW) h.meth)
  unfold mV at HM ⊢
  have Hc := Lib.hid hc1'
  have Hb := Lib.hid hb1
  have HZ := Lib.hid (fun W => isNull_zero W)
  clear hT h hc1' hb1
  go_enter Tryd.func31, Tryd.ntmps31
  go_upto_region 1 with fail
  rw [← hw1, ← hB]
  clear hw1 hB
  obtain ⟨b0, b1, b2, b3, b4, b5, b6, b7, b8⟩ := msg_cells B Hb.out (Chg.refl [] w1)
  go_wp2_with fail
  refine (HZ.out w1).mono ?_
  rintro e w2 ⟨rfl, hc2'⟩
  obtain ⟨b0, b1, b2, b3, b4, b5, b6, b7, b8⟩ := msg_cells B Hb.out hc2'
  have Hc2 := Lib.hid (Hc.out.trans hc2')
  clear hc2'
  go_wp2_with fail
  refine (HM.out w2 Hc2.out).mono ?_
  rintro e w3 ⟨rfl, hc3⟩
  have Hc3 := Lib.hid (Hc2.out.trans hc3)
  clear hc3
  go_wp2_with fail
  go_ret
  exact ⟨rfl, Hc3.out⟩
set_option maxHeartbeats 4000000 in
theorem wf4 (i c : Int) (t : ByteArray) (w : World) (hT : Tb w) (h : Gd 4 i c t) : Calls Tryd.prog 31 #[mV 4 i c t] w fun e w' => e = .returned (.bool true) ∧ Chg [] w w' := by
  have hi0 := h.1.1
  have hi1 := h.1.2
  have hc0 : 1 ≤ c ∧ c ≤ 99 := by
    rcases h.2 with h | h | h
    · omega
    · exact h.2.1
    · omega
  obtain ⟨hc1, hc2⟩ := hc0
  obtain ⟨w1, hw1⟩ : ∃ x, x = w.alloc (.cells #[.int .i64 4, .int .i64 i, .int .i64 c, .string t, .int .i64 0, .int .i64 0, .string ⟨#[]⟩, .slice none 0 0, .slice none 0 0] 27) := ⟨_, rfl⟩
  obtain ⟨B, hB⟩ : ∃ x, x = w.heap.size := ⟨_, rfl⟩
  have hc1' : Chg [] w w1 := by rw [hw1]; exact (Chg.refl _ _).alloc _
  have hb1 : w1.heap[B]? = some (.cells #[.int .i64 4, .int .i64 i, .int .i64 c, .string t, .int .i64 0, .int .i64 0, .string ⟨#[]⟩, .slice none 0 0, .slice none 0 0] 27 (0, 0)) := by rw [hw1, hB]; exact heap_at _ _ _ rfl
  have HM := Lib.hid (fun W (hW : Chg [] w W) => validMethod_any 4 i c t W (hT.new hW) h.meth)
  unfold mV at HM ⊢
  have Hc := Lib.hid hc1'
  have Hb := Lib.hid hb1
  have HZ := Lib.hid (fun W => isNull_zero W)
  clear hT h hc1' hb1
  go_enter Tryd.func31, Tryd.ntmps31
  go_upto_region 1 with fail
  rw [← hw1, ← hB]
  clear hw1 hB
  obtain ⟨b0, b1, b2, b3, b4, b5, b6, b7, b8⟩ := msg_cells B Hb.out (Chg.refl [] w1)
  go_wp2_with fail
  refine (HZ.out w1).mono ?_
  rintro e w2 ⟨rfl, hc2'⟩
  obtain ⟨b0, b1, b2, b3, b4, b5, b6, b7, b8⟩ := msg_cells B Hb.out hc2'
  have Hc2 := Lib.hid (Hc.out.trans hc2')
  clear hc2'
  go_wp2_with fail
  refine (HM.out w2 Hc2.out).mono ?_
  rintro e w3 ⟨rfl, hc3⟩
  have Hc3 := Lib.hid (Hc2.out.trans hc3)
  clear hc3
  go_wp2_with fail
  go_ret
  exact ⟨rfl, Hc3.out⟩
/-- wellFormed on a good message -/
theorem wf_any (k i c : Int) (t : ByteArray) (w : World) (hT : Tb w) (h : Gd k i c t) : Calls Tryd.prog 31 #[mV k i c t] w fun e w' => e = .returned (.bool true) ∧ Chg [] w w' := by
  rcases h.2 with ⟨rfl, rfl, _⟩ | ⟨rfl, _⟩ | ⟨rfl | rfl, rfl, rfl⟩
  · exact wf1 i t w hT h
  · exact wf4 i c t w hT h
  · exact wf3 i w hT h
  · exact wf5 i w hT h
end Go.Proofs.YtiklgipcgdgkoaaDoor.Jv
