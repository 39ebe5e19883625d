/- Protocol messages: Encode, messageExample. -/
import Derived.Test.YtiklgipcgdgkoaaDoorJsD
import Derived.Test.YtiklgipcgdgkoaaDoorJsE
namespace Go.Proofs.YtiklgipcgdgkoaaDoor.Jv
open Go.RowKit Go.ChangeMaps Go.MapKept
set_option linter.unusedVariables false
set_option linter.unusedSimpArgs false
/-- the object that stands for a message -/
def toJ (k i c : Int) (t : ByteArray) : J :=
  if k = 1 then .mk 5 0 ⟨#[]⟩ [⟨#[105, 100]⟩, ⟨#[109, 101, 116, 104, 111, 100]⟩, ⟨#[112, 97, 114, 97, 109, 115]⟩] [.mk 2 i ⟨#[]⟩ [] [], .mk 3 0 t [] [], J.zero]
  else if k = 3 then .mk 5 0 ⟨#[]⟩ [⟨#[105, 100]⟩, ⟨#[114, 101, 115, 117, 108, 116]⟩] [.mk 2 i ⟨#[]⟩ [] [], J.zero]
  else if k = 4 then .mk 5 0 ⟨#[]⟩ [⟨#[105, 100]⟩, ⟨#[101, 114, 114, 111, 114]⟩] [.mk 2 i ⟨#[]⟩ [] [], .mk 5 0 ⟨#[]⟩ [⟨#[99, 111, 100, 101]⟩, ⟨#[109, 101, 115, 115, 97, 103, 101]⟩] [.mk 2 c ⟨#[]⟩ [] [], .mk 3 0 t [] []]]
  else .mk 5 0 ⟨#[]⟩ [⟨#[109, 101, 116, 104, 111, 100]⟩, ⟨#[112, 97, 114, 97, 109, 115]⟩] [.mk 3 0 ⟨#[36, 47, 99, 97, 110, 99, 101, 108]⟩ [] [], .mk 5 0 ⟨#[]⟩ [⟨#[105, 100]⟩] [.mk 2 i ⟨#[]⟩ [] []]]
theorem num_vd {i : Int} (h0 : -9007199254740991 ≤ i) (h1 : i ≤ 9007199254740991) : (J.mk 2 i ⟨#[]⟩ [] []).vd u8 = 0 := vd_zero.2 ⟨by decide, by
  unfold wf
  have e : u8 ⟨#[]⟩ = true := by decide
  simp [e, h0, h1], by simp⟩
theorem txt_vd {t : ByteArray} (h : u8 t = true) : (J.mk 3 0 t [] []).vd u8 = 0 := vd_zero.2 ⟨by decide, by
  unfold wf
  simp [h], by simp⟩
theorem zero_vd : J.zero.vd u8 = 0 := vd_zero.2 ⟨by decide, by decide, by simp⟩
theorem toJ_valid {k i c : Int} {t : ByteArray} (h : Gd k i c t) : (toJ k i c t).valid u8 = 0 := by
  have hi := num_vd (i := i) (by have := h.1.1; omega) (by have := h.1.2; omega)
  rcases h.2 with ⟨rfl, rfl, _, _, hu⟩ | ⟨rfl, ⟨hc0, hc1⟩, _, hu⟩ | ⟨rfl | rfl, rfl, rfl⟩
  · have ht := txt_vd hu
    unfold toJ
    rw [if_pos rfl]
    unfold J.valid
    rw [if_pos (by simp [J.nodes, nodesL, J.depth, depthL, J.zero])]
    refine vd_zero.2 ⟨by decide, by simp only [List.length_cons, List.length_nil]; decide, fun e he => ?_⟩
    simp only [List.mem_cons, List.not_mem_nil, or_false] at he
    rcases he with rfl | rfl | rfl
    · exact hi
    · exact ht
    · exact zero_vd
  · have ht := txt_vd hu
    have hc := num_vd (i := c) (by omega) (by omega)
    unfold toJ
    rw [if_neg (by decide), if_neg (by decide), if_pos rfl]
    unfold J.valid
    rw [if_pos (by simp [J.nodes, nodesL, J.depth, depthL])]
    refine vd_zero.2 ⟨by decide, by simp only [List.length_cons, List.length_nil]; decide, fun e he => ?_⟩
    simp only [List.mem_cons, List.not_mem_nil, or_false] at he
    rcases he with rfl | rfl
    · exact hi
    · refine vd_zero.2 ⟨by decide, by simp only [List.length_cons, List.length_nil]; decide, fun e he => ?_⟩
      simp only [List.mem_cons, List.not_mem_nil, or_false] at he
      rcases he with rfl | rfl
      · exact hc
      · exact ht
  · unfold toJ
    rw [if_neg (by decide), if_pos rfl]
    unfold J.valid
    rw [if_pos (by simp [J.nodes, nodesL, J.depth, depthL, J.zero])]
    refine vd_zero.2 ⟨by decide, by simp only [List.length_cons, List.length_nil]; decide, fun e he => ?_⟩
    simp only [List.mem_cons, List.not_mem_nil, or_false] at he
    rcases he with rfl | rfl
    · exact hi
    · exact zero_vd
  · unfold toJ
    rw [if_neg (by decide), if_neg (by decide), if_neg (by decide)]
    unfold J.valid
    rw [if_pos (by simp [J.nodes, nodesL, J.depth, depthL])]
    refine vd_zero.2 ⟨by decide, by simp only [List.length_cons, List.length_nil]; decide, fun e he => ?_⟩
    simp only [List.mem_cons, List.not_mem_nil, or_false] at he
    rcases he with rfl | rfl
    · exact txt_vd (by decide)
    · refine vd_zero.2 ⟨by decide, by simp only [List.length_cons, List.length_nil]; decide, fun e he => ?_⟩
      rw [List.mem_singleton.1 he]
      exact hi
theorem toObj_any (k i c : Int) (t : ByteArray) (w : World) (h : Gd k i c t) : Calls Tryd.prog 33 #[mV k i c t] w (ToPost (toJ k i c t) w) := by
  rcases h.2 with ⟨rfl, rfl, _, ht, _⟩ | ⟨rfl, _, ht, _⟩ | ⟨rfl | rfl, rfl, rfl⟩
  · exact toObj1 i t w (by unfold maxLen; omega)
  · exact toObj4 i c t w (by unfold maxLen; omega)
  · exact toObj3 i w
  · exact toObj5 i w
def EnPost (j : J) (w : World) (e : Ending) (w' : World) : Prop := ∃ v, e = .returned (.tuple #[v, .int .i64 0]) ∧ JN w.heap.size 2 w' v j ∧ Chg [] w w'
set_option maxRecDepth 100000 in
set_option maxHeartbeats 8000000 in
theorem enc_msg (k i c : Int) (t : ByteArray) (w : World) (h : Gd k i c t) (hT : Tb w) : Calls Tryd.prog 8 #[mV k i c t] w (EnPost (toJ k i c t) w) := by
  have hk : 1 ≤ k ∧ k ≤ 5 := by rcases h.2 with h | h | h <;> omega
  obtain ⟨hk1, hk5⟩ := hk
  obtain ⟨w1, hw1⟩ : ∃ x, x = (w.alloc (.cells #[.int .i64 k, .int .i64 i, .int .i64 c, .string t, .int .i64 0, .int .i64 0, .string ⟨#[]⟩, .slice none 0 0, .slice none 0 0] 27)).alloc (.cells #[.int .i64 0, .int .i64 0, .string ⟨#[]⟩, .slice none 0 0, .slice none 0 0] 25) := ⟨_, rfl⟩
  obtain ⟨mb, hmb⟩ : ∃ x, x = w.heap.size := ⟨_, rfl⟩
  have hc1 : Chg [] w w1 := by rw [hw1]; exact ((Chg.refl _ _).alloc _).alloc _
  have hm1 : w1.heap[mb]? = some (.cells #[.int .i64 k, .int .i64 i, .int .i64 c, .string t, .int .i64 0, .int .i64 0, .string ⟨#[]⟩, .slice none 0 0, .slice none 0 0] 27 (0, 0)) := by
    rw [hw1, hmb, heap_past _ _ _ (by simp)]
    exact heap_at _ _ _ rfl
  have hr1 : w1.heap[mb + 1]? = some (.cells #[.int .i64 0, .int .i64 0, .string ⟨#[]⟩, .slice none 0 0, .slice none 0 0] 25 (0, 0)) := by
    rw [hw1, hmb]
    exact heap_at _ _ _ (by simp)
  have Hmb := Lib.hid hmb
  have Hc1 := Lib.hid hc1
  have Hm1 := Lib.hid hm1
  have Hr1 := Lib.hid hr1
  have HT := Lib.hid hT
  have HV := Lib.hid (toJ_valid h)
  have HW := Lib.hid (fun W (hc : Chg [] w W) => wf_any k i c t W (hT.new hc) h)
  have HO := Lib.hid (fun W => toObj_any k i c t W h)
  generalize toJ k i c t = j at HV HO ⊢
  unfold mV at HW HO ⊢
  clear hT h hc1 hm1 hr1
  go_enter Tryd.func8, Tryd.ntmps8
  go_upto_region 1 with fail
  rw [← hw1, ← hmb]
  clear hw1 hmb
  obtain ⟨m0, m1, m2, m3, m4, m5, m6, m7, m8⟩ := msg_cells mb Hm1.out (Chg.refl [] w1)
  go_wp2_with fail
  refine (HW.out w1 Hc1.out).mono ?_
  rintro e w2 ⟨rfl, hc2⟩
  have Hd2 := Lib.hid hc2
  have Hc2 := Lib.hid (Hc1.out.trans hc2)
  obtain ⟨m0, m1, m2, m3, m4, m5, m6, m7, m8⟩ := msg_cells mb Hm1.out hc2
  clear hc2
  go_wp2_with fail
  have hz : JN 0 0 w2 (.agg #[.int .i64 0, .int .i64 0, .string ⟨#[]⟩, .slice none 0 0, .slice none 0 0]) J.zero := JN.mk (SlR.nil _ _ _ _) (SlR.nil _ _ _ _) (by decide)
  refine (Validate_any _ 0 w2 J.zero _ hz (HT.out.new Hc2.out) (fun g hg => hg.2)).mono ?_
  rintro e w3 ⟨rfl, hc3⟩
  rw [show J.zero.valid u8 = 0 by decide]
  have Hd3 := Lib.hid (Hd2.out.trans hc3)
  have Hc3 := Lib.hid (Hc2.out.trans hc3)
  obtain ⟨m0, m1, m2, m3, m4, m5, m6, m7, m8⟩ := msg_cells mb Hm1.out Hd3.out
  clear hc3 hz
  go_wp2_with fail
  refine (HO.out w3).mono ?_
  rintro e w4 ⟨v4, rfl, hv4, hc4⟩
  obtain ⟨ev, rfl⟩ := hv4.ev'
  have Hd4 := Lib.hid (Hd3.out.trans hc4)
  have Hc4 := Lib.hid (Hc3.out.trans hc4)
  have Hv4 := Lib.hid hv4
  have Hg3 : Hid (mb + 1 < w3.heap.size ∧ w.heap.size ≤ w3.heap.size) := Lib.hid ⟨Nat.lt_of_lt_of_le (lt_of_obj Hr1.out) Hd3.out.size, Hc3.out.size⟩
  clear hv4 hc4 m0 m1 m2 m3 m4 m5 m6 m7 m8
  unfold Ev.val at *
  obtain ⟨w5, hw5⟩ : ∃ x, x = w4.alloc (.cells #[.int .i64 ev.k, .int .i64 ev.n, .string ev.t, .slice ev.na ev.nl ev.nc, .slice ev.ia ev.il ev.ic] 25) := ⟨_, rfl⟩
  obtain ⟨vb, hvb⟩ : ∃ x, x = w4.heap.size := ⟨_, rfl⟩
  have hc5 : Chg [] w4 w5 := by rw [hw5]; exact (Chg.refl _ _).alloc _
  have hb5 : w5.heap[vb]? = some (.cells #[.int .i64 ev.k, .int .i64 ev.n, .string ev.t, .slice ev.na ev.nl ev.nc, .slice ev.ia ev.il ev.ic] 25 (0, 0)) := by rw [hw5, hvb]; exact heap_at _ _ _ rfl
  have Hd5 := Lib.hid (Hd4.out.trans hc5)
  have Hc5 := Lib.hid (Hc4.out.trans hc5)
  have Hv5 := Lib.hid (Hv4.out.same hc5)
  have Hb5 := Lib.hid hb5
  clear hc5 hb5
  go_upto_region 9 with fail
  rw [← hw5, ← hvb]
  clear hw5 hvb
  obtain ⟨b0, b1, b2, b3, b4⟩ := box_kept vb Hb5.out (Chg.refl [] w5)
  go_wp2_with fail
  refine (Validate_any _ 2 w5 j _ Hv5.out (HT.out.new Hc5.out) (fun g hg => hg.2)).mono ?_
  rintro e w6 ⟨rfl, hc6⟩
  rw [HV.out]
  have Hc6 := Lib.hid (Hc5.out.trans hc6)
  have Hv6 := Lib.hid (Hv5.out.same hc6)
  obtain ⟨b0, b1, b2, b3, b4⟩ := box_kept vb Hb5.out hc6
  have hr6 := ((Hd5.out.trans hc6).block (mb + 1) (lt_of_obj Hr1.out) (by simp)).trans Hr1.out
  obtain ⟨r0, r1, r2, r3, r4⟩ := box_kept (mb + 1) hr6 (Chg.refl [] w6)
  have fr := fun i => frozen_of_heap (i := i) hr6
  have lr := lt_of_cell r0
  clear hc6
  go_wp2_with fail
  refine bodyPost_ret (v := .tuple #[.agg #[.int .i64 ev.k, .int .i64 ev.n, .string ev.t, .slice ev.na ev.nl ev.nc, .slice ev.ia ev.il ev.ic], .int .i64 0]) (by simp [results, Tryd.results8, go_sem, r0, r1, r2, r3, r4]) rfl ?_
  have hcs := st5_chg w6 (mb + 1) 0 ev
  have hmbw := Hmb.out
  refine ⟨_, rfl, ?_, Hc6.out.comp hcs fun g hg => Or.inr (by have := List.mem_singleton.1 hg; omega)⟩
  have h3 := Hg3.out
  exact (Hv6.out.kept hcs.toP fun g hg hm => by have := List.mem_singleton.1 hm; have := hg.1; omega).imp fun g hg => ⟨by have := hg.1; omega, Nat.lt_of_lt_of_le hg.2 hcs.size⟩
end Go.Proofs.YtiklgipcgdgkoaaDoor.Jv
