/- Protocol messages: toObject at any message with any valid body (printed by wip/gen_jrd.py). -/
import Derived.Test.YtiklgipcgdgkoaaDoorJrL
import Derived.Test.YtiklgipcgdgkoaaDoorReg
namespace Go.Proofs.YtiklgipcgdgkoaaDoor.Jv
open Go.RowKit Go.ChangeMaps Go.MapKept
set_option linter.unusedVariables false
set_option linter.unusedSimpArgs false
/-- what toObject gives -/
def ToPostB (j : J) (w : World) (e : Ending) (w' : World) : Prop := ∃ (f : Nat) (v : Value), e = .returned v ∧ JN w.heap.size f w' v j ∧ Chg [] w w'
/-- an element of a row, read -/
theorem rd_val {W : World} {p : Nat → Prop} {f n o : Nat} {e : Ev} {j : J} (h : JV p f W e.val j) (h0 : W.cell? ⟨n, o, none⟩ = some (.int .i64 e.k)) (h1 : W.cell? ⟨n, o + 1, none⟩ = some (.int .i64 e.n)) (h2 : W.cell? ⟨n, o + 2, none⟩ = some (.string e.t)) (h3 : W.cell? ⟨n, o + 3, none⟩ = some (.slice e.na e.nl e.nc)) (h4 : W.cell? ⟨n, o + 4, none⟩ = some (.slice e.ia e.il e.ic)) : rdJ p (f + 1) W ⟨n, o, none⟩ j := by
  obtain ⟨nv, iv, he, hn, hi, ht⟩ := h
  unfold Ev.val at he
  simp only [Value.agg.injEq, Array.mk.injEq, List.cons.injEq, Value.int.injEq, Value.string.injEq, and_true, true_and] at he
  obtain ⟨e0, e1, e2, rfl, rfl⟩ := he
  exact ⟨by rw [h0, e0], by rw [h1, e1], ⟨by rw [h2, e2], ht⟩, _, _, h3, h4, hn, hi⟩
theorem kp1 {W W2 : World} {g mb : Nat} {o : Obj} (hc : Chg [] W W2) (h : W.heap[g]? = some o ∧ mb + 1 < g) : W2.heap[g]? = some o ∧ mb + 1 < g := ⟨(hc.block g (lt_of_obj h.1) (by simp)).trans h.1, h.2⟩
theorem toB1_end {mb f : Nat} {i c ek en : Int} {t et : ByteArray} {ena eia : Option Addr} {enl enc eil eic : Nat} {b : J} {w W : World} {g0 g8 : Nat} (ht : t.size ≤ maxLen) (q0 : W.heap[g0]? = some (.cells #[.string ⟨#[105, 100]⟩, .string ⟨#[109, 101, 116, 104, 111, 100]⟩, .string ⟨#[112, 97, 114, 97, 109, 115]⟩] 9 (0, 0))) (q8 : W.heap[g8]? = some (.cells #[.int .i64 2, .int .i64 i, .string ⟨#[]⟩, .slice none 0 0, .slice none 0 0, .int .i64 3, .int .i64 0, .string t, .slice none 0 0, .slice none 0 0, .int .i64 ek, .int .i64 en, .string et, .slice ena enl enc, .slice eia eil eic] 25 (0, 0))) (l0 : mb ≤ g0) (l8 : mb ≤ g8) (hm : mb = w.heap.size) (hb : JN w.heap.size f W (Ev.val ⟨ek, en, et, ena, enl, enc, eia, eil, eic⟩) b) (hc : Chg [] w W) :
    ToPostB (.mk 5 0 ⟨#[]⟩ [⟨#[105, 100]⟩, ⟨#[109, 101, 116, 104, 111, 100]⟩, ⟨#[112, 97, 114, 97, 109, 115]⟩] [(.mk 2 i ⟨#[]⟩ [] []), (.mk 3 0 t [] []), b]) w (.returned (.agg #[.int .i64 5, .int .i64 0, .string ⟨#[]⟩, .slice (some ⟨g0, 0, none⟩) 3 3, .slice (some ⟨g8, 0, none⟩) 3 3])) W :=
  ⟨_, _, rfl, JN.mk (nms_3 q0 (by omega) (by decide) (by decide) (by decide)) (els_3 (f := f + 1) (lt_of_obj q8) (by omega) (rd_leaf (cell_of_heap q8 rfl) (cell_of_heap q8 rfl) (cell_of_heap q8 rfl) (cell_of_heap q8 rfl) (cell_of_heap q8 rfl) (by decide)) (rd_leaf (cell_of_heap q8 rfl) (cell_of_heap q8 rfl) (cell_of_heap q8 rfl) (cell_of_heap q8 rfl) (cell_of_heap q8 rfl) ht) (rd_val (e := ⟨ek, en, et, ena, enl, enc, eia, eil, eic⟩) hb (cell_of_heap q8 rfl) (cell_of_heap q8 rfl) (cell_of_heap q8 rfl) (cell_of_heap q8 rfl) (cell_of_heap q8 rfl))) (by decide), hc⟩
set_option maxRecDepth 100000 in
set_option maxHeartbeats 16000000 in
theorem toB1 (p : Nat → Prop) (f : Nat) (i c : Int) (t : ByteArray) (e : Ev) (b : J) (w : World) (ht : t.size ≤ maxLen) (hb : JV p f w e.val b) (hs : Sm b) : Calls Tryd.prog 33 #[mB 1 i c t e] w (ToPostB (.mk 5 0 ⟨#[]⟩ [⟨#[105, 100]⟩, ⟨#[109, 101, 116, 104, 111, 100]⟩, ⟨#[112, 97, 114, 97, 109, 115]⟩] [(.mk 2 i ⟨#[]⟩ [] []), (.mk 3 0 t [] []), b]) w) := by
  obtain ⟨xk, xn, xt, xna, xnl, xnc, xia, xil, xic⟩ := e
  unfold mB
  unfold Ev.val at hb
  simp only at hb ⊢
  obtain ⟨w1, hw1⟩ : ∃ x, x = (w.alloc (.cells #[.int .i64 1, .int .i64 i, .int .i64 c, .string t, .int .i64 xk, .int .i64 xn, .string xt, .slice xna xnl xnc, .slice xia xil xic] 27)).alloc (.cells #[.int .i64 0, .int .i64 0, .string ⟨#[]⟩, .slice none 0 0, .slice none 0 0] 25) := ⟨_, rfl⟩
  obtain ⟨mb, hmb⟩ : ∃ x, x = w.heap.size := ⟨_, rfl⟩
  have hc1 : Chg [] w w1 := by rw [hw1]; exact ((Chg.refl _ _).alloc _).alloc _
  have hm1 : w1.heap[mb]? = some (.cells #[.int .i64 1, .int .i64 i, .int .i64 c, .string t, .int .i64 xk, .int .i64 xn, .string xt, .slice xna xnl xnc, .slice xia xil xic] 27 (0, 0)) := by
    rw [hw1, hmb, heap_past _ _ _ (by simp)]
    exact heap_at _ _ _ rfl
  have hr1 : w1.heap[mb + 1]? = some (.cells #[.int .i64 0, .int .i64 0, .string ⟨#[]⟩, .slice none 0 0, .slice none 0 0] 25 (0, 0)) := by
    rw [hw1, hmb]
    exact heap_at _ _ _ (by simp)
  have Hcl := Lib.hid (cloneR_any p f w1 b _ (hb.kept (S := fun _ => False) hc1.p (fun _ _ h => h)) hs)
  have Hmb := Lib.hid hmb
  have HcA := Lib.hid hc1
  have Hm1 := Lib.hid hm1
  have Hr1 := Lib.hid hr1
  have Hts := Lib.hid ht
  clear hc1 hm1 hr1 ht hb hs
  go_enter Tryd.func33, Tryd.ntmps33
  go_wp2_with fail
  rw [← hw1, ← hmb]
  clear hw1 hmb
  refine Hcl.out.mono ?_
  rintro e w2 ⟨v2, rfl, hv2, hc2⟩
  obtain ⟨⟨ek, en, et, ena, enl, enc, eia, eil, eic⟩, rfl⟩ := hv2.ev'
  unfold Ev.val
  obtain ⟨w3, hw3⟩ : ∃ x, x = w2.alloc (.cells #[.int .i64 ek, .int .i64 en, .string et, .slice ena enl enc, .slice eia eil eic] 25) := ⟨_, rfl⟩
  obtain ⟨bb, hbb⟩ : ∃ x, x = w2.heap.size := ⟨_, rfl⟩
  have hc23 : Chg [] w2 w3 := by rw [hw3]; exact (Chg.refl _ _).alloc _
  have hc3 : Chg [] w1 w3 := hc2.trans hc23
  have hb3 : w3.heap[bb]? = some (.cells #[.int .i64 ek, .int .i64 en, .string et, .slice ena enl enc, .slice eia eil eic] 25 (0, 0)) := by rw [hw3, hbb]; exact heap_at _ _ _ rfl
  obtain ⟨m0, m1, m2, m3, m4, m5, m6, m7, m8⟩ := msg_cells mb Hm1.out hc3
  have Hw3 := Lib.hid (hc3)
  have Hlt : Hid (mb + 1 < w3.heap.size) := Lib.hid (Nat.lt_of_lt_of_le (lt_of_obj Hr1.out) hc3.size)
  have HS : Hid (∀ W, Chg [] w1 W → (∀ g, g < w3.heap.size → W.heap[g]? = w3.heap[g]?) → W.cell? ⟨mb, 1, none⟩ = some (.int .i64 i) ∧ W.cell? ⟨mb, 2, none⟩ = some (.int .i64 c) ∧ W.cell? ⟨mb, 3, none⟩ = some (.string t) ∧ W.cell? ⟨bb, 0, none⟩ = some (.int .i64 ek) ∧ W.cell? ⟨bb, 1, none⟩ = some (.int .i64 en) ∧ W.cell? ⟨bb, 2, none⟩ = some (.string et) ∧ W.cell? ⟨bb, 3, none⟩ = some (.slice ena enl enc) ∧ W.cell? ⟨bb, 4, none⟩ = some (.slice eia eil eic)) := Lib.hid (fun W hW hB => by
    have e0 := hB mb (Nat.lt_trans (Nat.lt_succ_self _) Hlt.out)
    have e1 := hB bb (lt_of_obj hb3)
    have q := (Hw3.out.block mb (lt_of_obj Hm1.out) (by simp)).trans Hm1.out
    exact ⟨cell_of_heap (e0.trans q) rfl, cell_of_heap (e0.trans q) rfl, cell_of_heap (e0.trans q) rfl, cell_of_heap (e1.trans hb3) rfl, cell_of_heap (e1.trans hb3) rfl, cell_of_heap (e1.trans hb3) rfl, cell_of_heap (e1.trans hb3) rfl, cell_of_heap (e1.trans hb3) rfl⟩)
  have Hbody : Hid (∀ W {e : Ev}, Chg [] w1 W → Chg [mb + 1] W (st5 W (mb + 1) 0 e) → Chg [] w3 W → JN w.heap.size (f + 1) (st5 W (mb + 1) 0 e) (Ev.val ⟨ek, en, et, ena, enl, enc, eia, eil, eic⟩) b) := Lib.hid (fun W e hW hst hW3 => by
    have hv := hv2.same (hc23.trans hW3)
    refine (hv.kept hst.toP fun g hg hm => ?_).imp fun g hg => ⟨Nat.le_trans HcA.out.size hg.1, Nat.lt_of_lt_of_le hg.2 hst.size⟩
    have := List.mem_singleton.1 hm
    have := lt_of_obj Hr1.out
    have := hg.1
    omega)
  clear hc2 hc3 hb3 hc23 hv2
  go_upto_region 2 with fail
  rw [← hw3, ← hbb]
  clear hw3 hbb
  go_upto_region 4 with fail
  clear m0 m1 m2 m3 m4 m5 m6 m7 m8
  refine wp_region_put 10 [some 11, some 12, some 13, some 14, some 15, some 16, some 17, some 18, some 19, some 20] (fun j v W => match j with
      | 0 => ∃ g0, v = .slice (some ⟨g0, 0, none⟩) 3 3 ∧ (W.heap[g0]? = some (.cells #[.string ⟨#[105, 100]⟩, .string ⟨#[109, 101, 116, 104, 111, 100]⟩, .string ⟨#[112, 97, 114, 97, 109, 115]⟩] 9 (0, 0)) ∧ mb + 1 < g0)
      | 1 => v = .pointer (some ⟨mb, 1, none⟩)
      | 2 => v = .int .i64 i
      | 3 => v = .agg #[.int .i64 2, .int .i64 i, .string ⟨#[]⟩, .slice none 0 0, .slice none 0 0]
      | 4 => v = .pointer (some ⟨mb, 3, none⟩)
      | 5 => v = .string t
      | 6 => v = .agg #[.int .i64 3, .int .i64 0, .string t, .slice none 0 0, .slice none 0 0]
      | 7 => v = .agg #[.int .i64 ek, .int .i64 en, .string et, .slice ena enl enc, .slice eia eil eic]
      | 8 => ∃ g8, v = .slice (some ⟨g8, 0, none⟩) 3 3 ∧ (W.heap[g8]? = some (.cells #[.int .i64 2, .int .i64 i, .string ⟨#[]⟩, .slice none 0 0, .slice none 0 0, .int .i64 3, .int .i64 0, .string t, .slice none 0 0, .slice none 0 0, .int .i64 ek, .int .i64 en, .string et, .slice ena enl enc, .slice eia eil eic] 25 (0, 0)) ∧ mb + 1 < g8)
      | 9 => ∃ g0 g8, v = .agg #[.int .i64 5, .int .i64 0, .string ⟨#[]⟩, .slice (some ⟨g0, 0, none⟩) 3 3, .slice (some ⟨g8, 0, none⟩) 3 3] ∧ (W.heap[g0]? = some (.cells #[.string ⟨#[105, 100]⟩, .string ⟨#[109, 101, 116, 104, 111, 100]⟩, .string ⟨#[112, 97, 114, 97, 109, 115]⟩] 9 (0, 0)) ∧ mb + 1 < g0) ∧ (W.heap[g8]? = some (.cells #[.int .i64 2, .int .i64 i, .string ⟨#[]⟩, .slice none 0 0, .slice none 0 0, .int .i64 3, .int .i64 0, .string t, .slice none 0 0, .slice none 0 0, .int .i64 ek, .int .i64 en, .string et, .slice ena enl enc, .slice eia eil eic] 25 (0, 0)) ∧ mb + 1 < g8)
      | _ => True) (fun _ _ _ => True) (by kernel_rfl) (by kernel_rfl) (by kernel_rfl) (fun _ => trivial) ?_ ?_ ?_
  · intro j v W W2 hcw hR
    match j, hR with
    | 0, hR => obtain ⟨g0, h1, f0⟩ := hR; exact ⟨g0, h1, kp1 hcw f0⟩
    | 1, hR => exact hR
    | 2, hR => exact hR
    | 3, hR => exact hR
    | 4, hR => exact hR
    | 5, hR => exact hR
    | 6, hR => exact hR
    | 7, hR => exact hR
    | 8, hR => obtain ⟨g8, h1, f8⟩ := hR; exact ⟨g8, h1, kp1 hcw f8⟩
    | 9, hR => obtain ⟨g0, g8, h1, f0, f8⟩ := hR; exact ⟨g0, g8, h1, kp1 hcw f0, kp1 hcw f8⟩
    | (j + 10), hR => exact trivial
  · intro q o ho hn listed u W hun hall hd hc hG K hK
    match q, ho, hn, hun, hd, hK with
    | 0, ho, _, hun, hd, hK =>
      cases ho
      simp only [List.getElem_toArray, List.getElem_cons_zero, List.getElem_cons_succ]
      simp only [putU, Nat.reduceAdd, Act.put, List.setIfInBounds_toArray, List.set_cons_zero, List.set_cons_succ]
      have hS := HS.out W (Hw3.out.trans ((show Chg [] w3 w3.drew from (Chg.refl _ _).drew).trans hc)) (fun g hg => hc.block g hg (by simp))
      have m1 := hS.1
      have m2 := hS.2.1
      have m3 := hS.2.2.1
      have b0 := hS.2.2.2.1
      have b1 := hS.2.2.2.2.1
      have b2 := hS.2.2.2.2.2.1
      have b3 := hS.2.2.2.2.2.2.1
      have b4 := hS.2.2.2.2.2.2.2
      clear hS
      go_simp
      have hcw : Chg [] W (W.alloc (.cells #[.string ⟨#[105, 100]⟩, .string ⟨#[109, 101, 116, 104, 111, 100]⟩, .string ⟨#[112, 97, 114, 97, 109, 115]⟩] 9)) := (Chg.refl _ _).alloc _
      have hgt : mb + 1 < W.heap.size := Nat.lt_of_lt_of_le Hlt.out (Nat.le_trans (show w3.heap.size ≤ w3.drew.heap.size from Nat.le_refl _) hc.size)
      have hk := hK _ _ hcw ⟨W.heap.size, rfl, ⟨heap_at _ _ _ rfl, hgt⟩⟩ trivial
      simp only [putU, Nat.reduceAdd, Act.put, List.setIfInBounds_toArray, List.set_cons_zero, List.set_cons_succ, List.getElem_toArray, List.getElem_cons_zero, List.getElem_cons_succ] at hk
      exact hk
    | 1, ho, _, hun, hd, hK =>
      cases ho
      simp only [List.getElem_toArray, List.getElem_cons_zero, List.getElem_cons_succ]
      simp only [putU, Nat.reduceAdd, Act.put, List.setIfInBounds_toArray, List.set_cons_zero, List.set_cons_succ]
      have hS := HS.out W (Hw3.out.trans ((show Chg [] w3 w3.drew from (Chg.refl _ _).drew).trans hc)) (fun g hg => hc.block g hg (by simp))
      have m1 := hS.1
      have m2 := hS.2.1
      have m3 := hS.2.2.1
      have b0 := hS.2.2.2.1
      have b1 := hS.2.2.2.2.1
      have b2 := hS.2.2.2.2.2.1
      have b3 := hS.2.2.2.2.2.2.1
      have b4 := hS.2.2.2.2.2.2.2
      clear hS
      go_simp
      have hk := hK _ _ (Chg.refl [] W) rfl trivial
      simp only [putU, Nat.reduceAdd, Act.put, List.setIfInBounds_toArray, List.set_cons_zero, List.set_cons_succ, List.getElem_toArray, List.getElem_cons_zero, List.getElem_cons_succ] at hk
      exact hk
    | 2, ho, _, hun, hd, hK =>
      cases ho
      simp only [List.getElem_toArray, List.getElem_cons_zero, List.getElem_cons_succ]
      have h1 : u 1 = .pointer (some ⟨mb, 1, none⟩) := hd 1 (by kernel_rfl) (by decide)
      simp only [putU, Nat.reduceAdd, Act.put, List.setIfInBounds_toArray, List.set_cons_zero, List.set_cons_succ, h1]
      have hS := HS.out W (Hw3.out.trans ((show Chg [] w3 w3.drew from (Chg.refl _ _).drew).trans hc)) (fun g hg => hc.block g hg (by simp))
      have m1 := hS.1
      have m2 := hS.2.1
      have m3 := hS.2.2.1
      have b0 := hS.2.2.2.1
      have b1 := hS.2.2.2.2.1
      have b2 := hS.2.2.2.2.2.1
      have b3 := hS.2.2.2.2.2.2.1
      have b4 := hS.2.2.2.2.2.2.2
      clear hS
      go_simp
      have hk := hK _ _ (Chg.refl [] W) rfl trivial
      simp only [putU, Nat.reduceAdd, Act.put, List.setIfInBounds_toArray, List.set_cons_zero, List.set_cons_succ, List.getElem_toArray, List.getElem_cons_zero, List.getElem_cons_succ, h1] at hk
      exact hk
    | 3, ho, _, hun, hd, hK =>
      cases ho
      simp only [List.getElem_toArray, List.getElem_cons_zero, List.getElem_cons_succ]
      have h2 : u 2 = .int .i64 i := hd 2 (by kernel_rfl) (by decide)
      simp only [putU, Nat.reduceAdd, Act.put, List.setIfInBounds_toArray, List.set_cons_zero, List.set_cons_succ, h2]
      have hS := HS.out W (Hw3.out.trans ((show Chg [] w3 w3.drew from (Chg.refl _ _).drew).trans hc)) (fun g hg => hc.block g hg (by simp))
      have m1 := hS.1
      have m2 := hS.2.1
      have m3 := hS.2.2.1
      have b0 := hS.2.2.2.1
      have b1 := hS.2.2.2.2.1
      have b2 := hS.2.2.2.2.2.1
      have b3 := hS.2.2.2.2.2.2.1
      have b4 := hS.2.2.2.2.2.2.2
      clear hS
      go_simp
      refine (number_any i W).mono ?_
      rintro e X ⟨rfl, hcx⟩
      have hk := hK _ _ hcx rfl trivial
      simp only [putU, Nat.reduceAdd, Act.put, List.setIfInBounds_toArray, List.set_cons_zero, List.set_cons_succ, List.getElem_toArray, List.getElem_cons_zero, List.getElem_cons_succ, h2] at hk
      exact hk
    | 4, ho, _, hun, hd, hK =>
      cases ho
      simp only [List.getElem_toArray, List.getElem_cons_zero, List.getElem_cons_succ]
      simp only [putU, Nat.reduceAdd, Act.put, List.setIfInBounds_toArray, List.set_cons_zero, List.set_cons_succ]
      have hS := HS.out W (Hw3.out.trans ((show Chg [] w3 w3.drew from (Chg.refl _ _).drew).trans hc)) (fun g hg => hc.block g hg (by simp))
      have m1 := hS.1
      have m2 := hS.2.1
      have m3 := hS.2.2.1
      have b0 := hS.2.2.2.1
      have b1 := hS.2.2.2.2.1
      have b2 := hS.2.2.2.2.2.1
      have b3 := hS.2.2.2.2.2.2.1
      have b4 := hS.2.2.2.2.2.2.2
      clear hS
      go_simp
      have hk := hK _ _ (Chg.refl [] W) rfl trivial
      simp only [putU, Nat.reduceAdd, Act.put, List.setIfInBounds_toArray, List.set_cons_zero, List.set_cons_succ, List.getElem_toArray, List.getElem_cons_zero, List.getElem_cons_succ] at hk
      exact hk
    | 5, ho, _, hun, hd, hK =>
      cases ho
      simp only [List.getElem_toArray, List.getElem_cons_zero, List.getElem_cons_succ]
      have h4 : u 4 = .pointer (some ⟨mb, 3, none⟩) := hd 4 (by kernel_rfl) (by decide)
      simp only [putU, Nat.reduceAdd, Act.put, List.setIfInBounds_toArray, List.set_cons_zero, List.set_cons_succ, h4]
      have hS := HS.out W (Hw3.out.trans ((show Chg [] w3 w3.drew from (Chg.refl _ _).drew).trans hc)) (fun g hg => hc.block g hg (by simp))
      have m1 := hS.1
      have m2 := hS.2.1
      have m3 := hS.2.2.1
      have b0 := hS.2.2.2.1
      have b1 := hS.2.2.2.2.1
      have b2 := hS.2.2.2.2.2.1
      have b3 := hS.2.2.2.2.2.2.1
      have b4 := hS.2.2.2.2.2.2.2
      clear hS
      go_simp
      have hk := hK _ _ (Chg.refl [] W) rfl trivial
      simp only [putU, Nat.reduceAdd, Act.put, List.setIfInBounds_toArray, List.set_cons_zero, List.set_cons_succ, List.getElem_toArray, List.getElem_cons_zero, List.getElem_cons_succ, h4] at hk
      exact hk
    | 6, ho, _, hun, hd, hK =>
      cases ho
      simp only [List.getElem_toArray, List.getElem_cons_zero, List.getElem_cons_succ]
      have h5 : u 5 = .string t := hd 5 (by kernel_rfl) (by decide)
      simp only [putU, Nat.reduceAdd, Act.put, List.setIfInBounds_toArray, List.set_cons_zero, List.set_cons_succ, h5]
      have hS := HS.out W (Hw3.out.trans ((show Chg [] w3 w3.drew from (Chg.refl _ _).drew).trans hc)) (fun g hg => hc.block g hg (by simp))
      have m1 := hS.1
      have m2 := hS.2.1
      have m3 := hS.2.2.1
      have b0 := hS.2.2.2.1
      have b1 := hS.2.2.2.2.1
      have b2 := hS.2.2.2.2.2.1
      have b3 := hS.2.2.2.2.2.2.1
      have b4 := hS.2.2.2.2.2.2.2
      clear hS
      go_simp
      refine (textV_any t W).mono ?_
      rintro e X ⟨rfl, hcx⟩
      have hk := hK _ _ hcx rfl trivial
      simp only [putU, Nat.reduceAdd, Act.put, List.setIfInBounds_toArray, List.set_cons_zero, List.set_cons_succ, List.getElem_toArray, List.getElem_cons_zero, List.getElem_cons_succ, h5] at hk
      exact hk
    | 7, ho, _, hun, hd, hK =>
      cases ho
      simp only [List.getElem_toArray, List.getElem_cons_zero, List.getElem_cons_succ]
      simp only [putU, Nat.reduceAdd, Act.put, List.setIfInBounds_toArray, List.set_cons_zero, List.set_cons_succ]
      have hS := HS.out W (Hw3.out.trans ((show Chg [] w3 w3.drew from (Chg.refl _ _).drew).trans hc)) (fun g hg => hc.block g hg (by simp))
      have m1 := hS.1
      have m2 := hS.2.1
      have m3 := hS.2.2.1
      have b0 := hS.2.2.2.1
      have b1 := hS.2.2.2.2.1
      have b2 := hS.2.2.2.2.2.1
      have b3 := hS.2.2.2.2.2.2.1
      have b4 := hS.2.2.2.2.2.2.2
      clear hS
      go_simp
      have hk := hK _ _ (Chg.refl [] W) rfl trivial
      simp only [putU, Nat.reduceAdd, Act.put, List.setIfInBounds_toArray, List.set_cons_zero, List.set_cons_succ, List.getElem_toArray, List.getElem_cons_zero, List.getElem_cons_succ] at hk
      exact hk
    | 8, ho, _, hun, hd, hK =>
      cases ho
      simp only [List.getElem_toArray, List.getElem_cons_zero, List.getElem_cons_succ]
      have h3 : u 3 = .agg #[.int .i64 2, .int .i64 i, .string ⟨#[]⟩, .slice none 0 0, .slice none 0 0] := hd 3 (by kernel_rfl) (by decide)
      have h6 : u 6 = .agg #[.int .i64 3, .int .i64 0, .string t, .slice none 0 0, .slice none 0 0] := hd 6 (by kernel_rfl) (by decide)
      have h7 : u 7 = .agg #[.int .i64 ek, .int .i64 en, .string et, .slice ena enl enc, .slice eia eil eic] := hd 7 (by kernel_rfl) (by decide)
      simp only [putU, Nat.reduceAdd, Act.put, List.setIfInBounds_toArray, List.set_cons_zero, List.set_cons_succ, h3, h6, h7]
      have hS := HS.out W (Hw3.out.trans ((show Chg [] w3 w3.drew from (Chg.refl _ _).drew).trans hc)) (fun g hg => hc.block g hg (by simp))
      have m1 := hS.1
      have m2 := hS.2.1
      have m3 := hS.2.2.1
      have b0 := hS.2.2.2.1
      have b1 := hS.2.2.2.2.1
      have b2 := hS.2.2.2.2.2.1
      have b3 := hS.2.2.2.2.2.2.1
      have b4 := hS.2.2.2.2.2.2.2
      clear hS
      go_simp
      have hcw : Chg [] W (W.alloc (.cells #[.int .i64 2, .int .i64 i, .string ⟨#[]⟩, .slice none 0 0, .slice none 0 0, .int .i64 3, .int .i64 0, .string t, .slice none 0 0, .slice none 0 0, .int .i64 ek, .int .i64 en, .string et, .slice ena enl enc, .slice eia eil eic] 25)) := (Chg.refl _ _).alloc _
      have hgt : mb + 1 < W.heap.size := Nat.lt_of_lt_of_le Hlt.out (Nat.le_trans (show w3.heap.size ≤ w3.drew.heap.size from Nat.le_refl _) hc.size)
      have hk := hK _ _ hcw ⟨W.heap.size, rfl, ⟨heap_at _ _ _ rfl, hgt⟩⟩ trivial
      simp only [putU, Nat.reduceAdd, Act.put, List.setIfInBounds_toArray, List.set_cons_zero, List.set_cons_succ, List.getElem_toArray, List.getElem_cons_zero, List.getElem_cons_succ, h3, h6, h7] at hk
      exact hk
    | 9, ho, _, hun, hd, hK =>
      cases ho
      simp only [List.getElem_toArray, List.getElem_cons_zero, List.getElem_cons_succ]
      have h0 : ∃ g0, u 0 = .slice (some ⟨g0, 0, none⟩) 3 3 ∧ (W.heap[g0]? = some (.cells #[.string ⟨#[105, 100]⟩, .string ⟨#[109, 101, 116, 104, 111, 100]⟩, .string ⟨#[112, 97, 114, 97, 109, 115]⟩] 9 (0, 0)) ∧ mb + 1 < g0) := hd 0 (by kernel_rfl) (by decide)
      obtain ⟨g0, h0, f0⟩ := h0
      have h8 : ∃ g8, u 8 = .slice (some ⟨g8, 0, none⟩) 3 3 ∧ (W.heap[g8]? = some (.cells #[.int .i64 2, .int .i64 i, .string ⟨#[]⟩, .slice none 0 0, .slice none 0 0, .int .i64 3, .int .i64 0, .string t, .slice none 0 0, .slice none 0 0, .int .i64 ek, .int .i64 en, .string et, .slice ena enl enc, .slice eia eil eic] 25 (0, 0)) ∧ mb + 1 < g8) := hd 8 (by kernel_rfl) (by decide)
      obtain ⟨g8, h8, f8⟩ := h8
      simp only [putU, Nat.reduceAdd, Act.put, List.setIfInBounds_toArray, List.set_cons_zero, List.set_cons_succ, h0, h8]
      have hS := HS.out W (Hw3.out.trans ((show Chg [] w3 w3.drew from (Chg.refl _ _).drew).trans hc)) (fun g hg => hc.block g hg (by simp))
      have m1 := hS.1
      have m2 := hS.2.1
      have m3 := hS.2.2.1
      have b0 := hS.2.2.2.1
      have b1 := hS.2.2.2.2.1
      have b2 := hS.2.2.2.2.2.1
      have b3 := hS.2.2.2.2.2.2.1
      have b4 := hS.2.2.2.2.2.2.2
      clear hS
      go_simp
      refine (object_any (some ⟨g0, 0, none⟩) (some ⟨g8, 0, none⟩) 3 3 3 3 W).mono ?_
      rintro e X ⟨rfl, hcx⟩
      have hk := hK _ _ hcx ⟨g0, g8, rfl, kp1 hcx f0, kp1 hcx f8⟩ trivial
      simp only [putU, Nat.reduceAdd, Act.put, List.setIfInBounds_toArray, List.set_cons_zero, List.set_cons_succ, List.getElem_toArray, List.getElem_cons_zero, List.getElem_cons_succ, h0, h8] at hk
      exact hk
    | (q + 10), _, hn, _, _, _ => exact absurd hn (by omega)
  · intro u W hc hR hG
    have h9 : ∃ g0 g8, u 9 = .agg #[.int .i64 5, .int .i64 0, .string ⟨#[]⟩, .slice (some ⟨g0, 0, none⟩) 3 3, .slice (some ⟨g8, 0, none⟩) 3 3] ∧ (W.heap[g0]? = some (.cells #[.string ⟨#[105, 100]⟩, .string ⟨#[109, 101, 116, 104, 111, 100]⟩, .string ⟨#[112, 97, 114, 97, 109, 115]⟩] 9 (0, 0)) ∧ mb + 1 < g0) ∧ (W.heap[g8]? = some (.cells #[.int .i64 2, .int .i64 i, .string ⟨#[]⟩, .slice none 0 0, .slice none 0 0, .int .i64 3, .int .i64 0, .string t, .slice none 0 0, .slice none 0 0, .int .i64 ek, .int .i64 en, .string et, .slice ena enl enc, .slice eia eil eic] 25 (0, 0)) ∧ mb + 1 < g8) := hR 9 (by decide)
    obtain ⟨g0, g8, h9, f0, f8⟩ := h9
    have hcW := Hw3.out.trans ((show Chg [] w3 w3.drew from (Chg.refl _ _).drew).trans hc)
    have Hend3 := Lib.hid ((show Chg [] w3 w3.drew from (Chg.refl _ _).drew).trans hc)
    have hr3 := (hcW.block (mb + 1) (lt_of_obj Hr1.out) (by simp)).trans Hr1.out
    obtain ⟨r0, r1, r2, r3, r4⟩ := box_kept (mb + 1) hr3 (Chg.refl [] W)
    have fr := fun i => frozen_of_heap (i := i) hr3
    have lr := lt_of_cell r0
    simp only [putU, Nat.reduceAdd, Act.put, List.setIfInBounds_toArray, List.set_cons_zero, List.set_cons_succ, h9]
    refine anyU_one (k := 10) (by kernel_rfl) rfl (fun K hK => ?_)
    go_simp
    refine hK _ _ (fun _ => trivial) trivial ?_
    clear hK K
    refine anyU_done (by kernel_rfl) ?_
    have Hend := Lib.hid hcW
    have F0 := Lib.hid f0
    have F8 := Lib.hid f8
    clear hcW f0 f8 hc hR hG hr3
    go_wp2_with fail
    refine bodyPost_ret (v := .agg #[.int .i64 5, .int .i64 0, .string ⟨#[]⟩, .slice (some ⟨g0, 0, none⟩) 3 3, .slice (some ⟨g8, 0, none⟩) 3 3]) (by simp [results, Tryd.results33, go_sem, r0, r1, r2, r3, r4]) rfl ?_
    have hcs := st5_chg W (mb + 1) 0 ⟨5, 0, ⟨#[]⟩, some ⟨g0, 0, none⟩, 3, 3, some ⟨g8, 0, none⟩, 3, 3⟩
    have hbd := Hbody.out W Hend.out hcs Hend3.out
    show ToPostB (.mk 5 0 ⟨#[]⟩ [⟨#[105, 100]⟩, ⟨#[109, 101, 116, 104, 111, 100]⟩, ⟨#[112, 97, 114, 97, 109, 115]⟩] [(.mk 2 i ⟨#[]⟩ [] []), (.mk 3 0 t [] []), b]) w _ (st5 W (mb + 1) 0 ⟨5, 0, ⟨#[]⟩, some ⟨g0, 0, none⟩, 3, 3, some ⟨g8, 0, none⟩, 3, 3⟩)
    generalize st5 W (mb + 1) 0 ⟨5, 0, ⟨#[]⟩, some ⟨g0, 0, none⟩, 3, 3, some ⟨g8, 0, none⟩, 3, 3⟩ = X at hcs hbd ⊢
    exact toB1_end (i := i) (c := c) Hts.out ((hcs.block g0 (lt_of_obj F0.out.1) (by have := F0.out.2; simp; omega)).trans F0.out.1) ((hcs.block g8 (lt_of_obj F8.out.1) (by have := F8.out.2; simp; omega)).trans F8.out.1) (by have := F0.out.2; omega) (by have := F8.out.2; omega) Hmb.out hbd ((HcA.out.trans Hend.out).comp hcs fun g hg => Or.inr (by have := List.mem_singleton.1 hg; have := Hmb.out; omega))
theorem toB2_end {mb f : Nat} {i c ek en : Int} {t et : ByteArray} {ena eia : Option Addr} {enl enc eil eic : Nat} {b : J} {w W : World} {g0 g5 : Nat} (ht : t.size ≤ maxLen) (q0 : W.heap[g0]? = some (.cells #[.string ⟨#[109, 101, 116, 104, 111, 100]⟩, .string ⟨#[112, 97, 114, 97, 109, 115]⟩] 9 (0, 0))) (q5 : W.heap[g5]? = some (.cells #[.int .i64 3, .int .i64 0, .string t, .slice none 0 0, .slice none 0 0, .int .i64 ek, .int .i64 en, .string et, .slice ena enl enc, .slice eia eil eic] 25 (0, 0))) (l0 : mb ≤ g0) (l5 : mb ≤ g5) (hm : mb = w.heap.size) (hb : JN w.heap.size f W (Ev.val ⟨ek, en, et, ena, enl, enc, eia, eil, eic⟩) b) (hc : Chg [] w W) :
    ToPostB (.mk 5 0 ⟨#[]⟩ [⟨#[109, 101, 116, 104, 111, 100]⟩, ⟨#[112, 97, 114, 97, 109, 115]⟩] [(.mk 3 0 t [] []), b]) w (.returned (.agg #[.int .i64 5, .int .i64 0, .string ⟨#[]⟩, .slice (some ⟨g0, 0, none⟩) 2 2, .slice (some ⟨g5, 0, none⟩) 2 2])) W :=
  ⟨_, _, rfl, JN.mk (nms_2 q0 (by omega) (by decide) (by decide)) (els_2 (f := f + 1) (lt_of_obj q5) (by omega) (rd_leaf (cell_of_heap q5 rfl) (cell_of_heap q5 rfl) (cell_of_heap q5 rfl) (cell_of_heap q5 rfl) (cell_of_heap q5 rfl) ht) (rd_val (e := ⟨ek, en, et, ena, enl, enc, eia, eil, eic⟩) hb (cell_of_heap q5 rfl) (cell_of_heap q5 rfl) (cell_of_heap q5 rfl) (cell_of_heap q5 rfl) (cell_of_heap q5 rfl))) (by decide), hc⟩
set_option maxRecDepth 100000 in
set_option maxHeartbeats 16000000 in
theorem toB2 (p : Nat → Prop) (f : Nat) (i c : Int) (t : ByteArray) (e : Ev) (b : J) (w : World) (ht : t.size ≤ maxLen) (hb : JV p f w e.val b) (hs : Sm b) : Calls Tryd.prog 33 #[mB 2 i c t e] w (ToPostB (.mk 5 0 ⟨#[]⟩ [⟨#[109, 101, 116, 104, 111, 100]⟩, ⟨#[112, 97, 114, 97, 109, 115]⟩] [(.mk 3 0 t [] []), b]) w) := by
  obtain ⟨xk, xn, xt, xna, xnl, xnc, xia, xil, xic⟩ := e
  unfold mB
  unfold Ev.val at hb
  simp only at hb ⊢
  obtain ⟨w1, hw1⟩ : ∃ x, x = (w.alloc (.cells #[.int .i64 2, .int .i64 i, .int .i64 c, .string t, .int .i64 xk, .int .i64 xn, .string xt, .slice xna xnl xnc, .slice xia xil xic] 27)).alloc (.cells #[.int .i64 0, .int .i64 0, .string ⟨#[]⟩, .slice none 0 0, .slice none 0 0] 25) := ⟨_, rfl⟩
  obtain ⟨mb, hmb⟩ : ∃ x, x = w.heap.size := ⟨_, rfl⟩
  have hc1 : Chg [] w w1 := by rw [hw1]; exact ((Chg.refl _ _).alloc _).alloc _
  have hm1 : w1.heap[mb]? = some (.cells #[.int .i64 2, .int .i64 i, .int .i64 c, .string t, .int .i64 xk, .int .i64 xn, .string xt, .slice xna xnl xnc, .slice xia xil xic] 27 (0, 0)) := by
    rw [hw1, hmb, heap_past _ _ _ (by simp)]
    exact heap_at _ _ _ rfl
  have hr1 : w1.heap[mb + 1]? = some (.cells #[.int .i64 0, .int .i64 0, .string ⟨#[]⟩, .slice none 0 0, .slice none 0 0] 25 (0, 0)) := by
    rw [hw1, hmb]
    exact heap_at _ _ _ (by simp)
  have Hcl := Lib.hid (cloneR_any p f w1 b _ (hb.kept (S := fun _ => False) hc1.p (fun _ _ h => h)) hs)
  have Hmb := Lib.hid hmb
  have HcA := Lib.hid hc1
  have Hm1 := Lib.hid hm1
  have Hr1 := Lib.hid hr1
  have Hts := Lib.hid ht
  clear hc1 hm1 hr1 ht hb hs
  go_enter Tryd.func33, Tryd.ntmps33
  go_wp2_with fail
  rw [← hw1, ← hmb]
  clear hw1 hmb
  refine Hcl.out.mono ?_
  rintro e w2 ⟨v2, rfl, hv2, hc2⟩
  obtain ⟨⟨ek, en, et, ena, enl, enc, eia, eil, eic⟩, rfl⟩ := hv2.ev'
  unfold Ev.val
  obtain ⟨w3, hw3⟩ : ∃ x, x = w2.alloc (.cells #[.int .i64 ek, .int .i64 en, .string et, .slice ena enl enc, .slice eia eil eic] 25) := ⟨_, rfl⟩
  obtain ⟨bb, hbb⟩ : ∃ x, x = w2.heap.size := ⟨_, rfl⟩
  have hc23 : Chg [] w2 w3 := by rw [hw3]; exact (Chg.refl _ _).alloc _
  have hc3 : Chg [] w1 w3 := hc2.trans hc23
  have hb3 : w3.heap[bb]? = some (.cells #[.int .i64 ek, .int .i64 en, .string et, .slice ena enl enc, .slice eia eil eic] 25 (0, 0)) := by rw [hw3, hbb]; exact heap_at _ _ _ rfl
  obtain ⟨m0, m1, m2, m3, m4, m5, m6, m7, m8⟩ := msg_cells mb Hm1.out hc3
  have Hw3 := Lib.hid (hc3)
  have Hlt : Hid (mb + 1 < w3.heap.size) := Lib.hid (Nat.lt_of_lt_of_le (lt_of_obj Hr1.out) hc3.size)
  have HS : Hid (∀ W, Chg [] w1 W → (∀ g, g < w3.heap.size → W.heap[g]? = w3.heap[g]?) → W.cell? ⟨mb, 1, none⟩ = some (.int .i64 i) ∧ W.cell? ⟨mb, 2, none⟩ = some (.int .i64 c) ∧ W.cell? ⟨mb, 3, none⟩ = some (.string t) ∧ W.cell? ⟨bb, 0, none⟩ = some (.int .i64 ek) ∧ W.cell? ⟨bb, 1, none⟩ = some (.int .i64 en) ∧ W.cell? ⟨bb, 2, none⟩ = some (.string et) ∧ W.cell? ⟨bb, 3, none⟩ = some (.slice ena enl enc) ∧ W.cell? ⟨bb, 4, none⟩ = some (.slice eia eil eic)) := Lib.hid (fun W hW hB => by
    have e0 := hB mb (Nat.lt_trans (Nat.lt_succ_self _) Hlt.out)
    have e1 := hB bb (lt_of_obj hb3)
    have q := (Hw3.out.block mb (lt_of_obj Hm1.out) (by simp)).trans Hm1.out
    exact ⟨cell_of_heap (e0.trans q) rfl, cell_of_heap (e0.trans q) rfl, cell_of_heap (e0.trans q) rfl, cell_of_heap (e1.trans hb3) rfl, cell_of_heap (e1.trans hb3) rfl, cell_of_heap (e1.trans hb3) rfl, cell_of_heap (e1.trans hb3) rfl, cell_of_heap (e1.trans hb3) rfl⟩)
  have Hbody : Hid (∀ W {e : Ev}, Chg [] w1 W → Chg [mb + 1] W (st5 W (mb + 1) 0 e) → Chg [] w3 W → JN w.heap.size (f + 1) (st5 W (mb + 1) 0 e) (Ev.val ⟨ek, en, et, ena, enl, enc, eia, eil, eic⟩) b) := Lib.hid (fun W e hW hst hW3 => by
    have hv := hv2.same (hc23.trans hW3)
    refine (hv.kept hst.toP fun g hg hm => ?_).imp fun g hg => ⟨Nat.le_trans HcA.out.size hg.1, Nat.lt_of_lt_of_le hg.2 hst.size⟩
    have := List.mem_singleton.1 hm
    have := lt_of_obj Hr1.out
    have := hg.1
    omega)
  clear hc2 hc3 hb3 hc23 hv2
  go_upto_region 2 with fail
  rw [← hw3, ← hbb]
  clear hw3 hbb
  go_upto_region 6 with fail
  clear m0 m1 m2 m3 m4 m5 m6 m7 m8
  refine wp_region_put 7 [some 23, some 24, some 25, some 26, some 27, some 28, some 29] (fun j v W => match j with
      | 0 => ∃ g0, v = .slice (some ⟨g0, 0, none⟩) 2 2 ∧ (W.heap[g0]? = some (.cells #[.string ⟨#[109, 101, 116, 104, 111, 100]⟩, .string ⟨#[112, 97, 114, 97, 109, 115]⟩] 9 (0, 0)) ∧ mb + 1 < g0)
      | 1 => v = .pointer (some ⟨mb, 3, none⟩)
      | 2 => v = .string t
      | 3 => v = .agg #[.int .i64 3, .int .i64 0, .string t, .slice none 0 0, .slice none 0 0]
      | 4 => v = .agg #[.int .i64 ek, .int .i64 en, .string et, .slice ena enl enc, .slice eia eil eic]
      | 5 => ∃ g5, v = .slice (some ⟨g5, 0, none⟩) 2 2 ∧ (W.heap[g5]? = some (.cells #[.int .i64 3, .int .i64 0, .string t, .slice none 0 0, .slice none 0 0, .int .i64 ek, .int .i64 en, .string et, .slice ena enl enc, .slice eia eil eic] 25 (0, 0)) ∧ mb + 1 < g5)
      | 6 => ∃ g0 g5, v = .agg #[.int .i64 5, .int .i64 0, .string ⟨#[]⟩, .slice (some ⟨g0, 0, none⟩) 2 2, .slice (some ⟨g5, 0, none⟩) 2 2] ∧ (W.heap[g0]? = some (.cells #[.string ⟨#[109, 101, 116, 104, 111, 100]⟩, .string ⟨#[112, 97, 114, 97, 109, 115]⟩] 9 (0, 0)) ∧ mb + 1 < g0) ∧ (W.heap[g5]? = some (.cells #[.int .i64 3, .int .i64 0, .string t, .slice none 0 0, .slice none 0 0, .int .i64 ek, .int .i64 en, .string et, .slice ena enl enc, .slice eia eil eic] 25 (0, 0)) ∧ mb + 1 < g5)
      | _ => True) (fun _ _ _ => True) (by kernel_rfl) (by kernel_rfl) (by kernel_rfl) (fun _ => trivial) ?_ ?_ ?_
  · intro j v W W2 hcw hR
    match j, hR with
    | 0, hR => obtain ⟨g0, h1, f0⟩ := hR; exact ⟨g0, h1, kp1 hcw f0⟩
    | 1, hR => exact hR
    | 2, hR => exact hR
    | 3, hR => exact hR
    | 4, hR => exact hR
    | 5, hR => obtain ⟨g5, h1, f5⟩ := hR; exact ⟨g5, h1, kp1 hcw f5⟩
    | 6, hR => obtain ⟨g0, g5, h1, f0, f5⟩ := hR; exact ⟨g0, g5, h1, kp1 hcw f0, kp1 hcw f5⟩
    | (j + 7), hR => exact trivial
  · intro q o ho hn listed u W hun hall hd hc hG K hK
    match q, ho, hn, hun, hd, hK with
    | 0, ho, _, hun, hd, hK =>
      cases ho
      simp only [List.getElem_toArray, List.getElem_cons_zero, List.getElem_cons_succ]
      simp only [putU, Nat.reduceAdd, Act.put, List.setIfInBounds_toArray, List.set_cons_zero, List.set_cons_succ]
      have hS := HS.out W (Hw3.out.trans ((show Chg [] w3 w3.drew from (Chg.refl _ _).drew).trans hc)) (fun g hg => hc.block g hg (by simp))
      have m1 := hS.1
      have m2 := hS.2.1
      have m3 := hS.2.2.1
      have b0 := hS.2.2.2.1
      have b1 := hS.2.2.2.2.1
      have b2 := hS.2.2.2.2.2.1
      have b3 := hS.2.2.2.2.2.2.1
      have b4 := hS.2.2.2.2.2.2.2
      clear hS
      go_simp
      have hcw : Chg [] W (W.alloc (.cells #[.string ⟨#[109, 101, 116, 104, 111, 100]⟩, .string ⟨#[112, 97, 114, 97, 109, 115]⟩] 9)) := (Chg.refl _ _).alloc _
      have hgt : mb + 1 < W.heap.size := Nat.lt_of_lt_of_le Hlt.out (Nat.le_trans (show w3.heap.size ≤ w3.drew.heap.size from Nat.le_refl _) hc.size)
      have hk := hK _ _ hcw ⟨W.heap.size, rfl, ⟨heap_at _ _ _ rfl, hgt⟩⟩ trivial
      simp only [putU, Nat.reduceAdd, Act.put, List.setIfInBounds_toArray, List.set_cons_zero, List.set_cons_succ, List.getElem_toArray, List.getElem_cons_zero, List.getElem_cons_succ] at hk
      exact hk
    | 1, ho, _, hun, hd, hK =>
      cases ho
      simp only [List.getElem_toArray, List.getElem_cons_zero, List.getElem_cons_succ]
      simp only [putU, Nat.reduceAdd, Act.put, List.setIfInBounds_toArray, List.set_cons_zero, List.set_cons_succ]
      have hS := HS.out W (Hw3.out.trans ((show Chg [] w3 w3.drew from (Chg.refl _ _).drew).trans hc)) (fun g hg => hc.block g hg (by simp))
      have m1 := hS.1
      have m2 := hS.2.1
      have m3 := hS.2.2.1
      have b0 := hS.2.2.2.1
      have b1 := hS.2.2.2.2.1
      have b2 := hS.2.2.2.2.2.1
      have b3 := hS.2.2.2.2.2.2.1
      have b4 := hS.2.2.2.2.2.2.2
      clear hS
      go_simp
      have hk := hK _ _ (Chg.refl [] W) rfl trivial
      simp only [putU, Nat.reduceAdd, Act.put, List.setIfInBounds_toArray, List.set_cons_zero, List.set_cons_succ, List.getElem_toArray, List.getElem_cons_zero, List.getElem_cons_succ] at hk
      exact hk
    | 2, ho, _, hun, hd, hK =>
      cases ho
      simp only [List.getElem_toArray, List.getElem_cons_zero, List.getElem_cons_succ]
      have h1 : u 1 = .pointer (some ⟨mb, 3, none⟩) := hd 1 (by kernel_rfl) (by decide)
      simp only [putU, Nat.reduceAdd, Act.put, List.setIfInBounds_toArray, List.set_cons_zero, List.set_cons_succ, h1]
      have hS := HS.out W (Hw3.out.trans ((show Chg [] w3 w3.drew from (Chg.refl _ _).drew).trans hc)) (fun g hg => hc.block g hg (by simp))
      have m1 := hS.1
      have m2 := hS.2.1
      have m3 := hS.2.2.1
      have b0 := hS.2.2.2.1
      have b1 := hS.2.2.2.2.1
      have b2 := hS.2.2.2.2.2.1
      have b3 := hS.2.2.2.2.2.2.1
      have b4 := hS.2.2.2.2.2.2.2
      clear hS
      go_simp
      have hk := hK _ _ (Chg.refl [] W) rfl trivial
      simp only [putU, Nat.reduceAdd, Act.put, List.setIfInBounds_toArray, List.set_cons_zero, List.set_cons_succ, List.getElem_toArray, List.getElem_cons_zero, List.getElem_cons_succ, h1] at hk
      exact hk
    | 3, ho, _, hun, hd, hK =>
      cases ho
      simp only [List.getElem_toArray, List.getElem_cons_zero, List.getElem_cons_succ]
      have h2 : u 2 = .string t := hd 2 (by kernel_rfl) (by decide)
      simp only [putU, Nat.reduceAdd, Act.put, List.setIfInBounds_toArray, List.set_cons_zero, List.set_cons_succ, h2]
      have hS := HS.out W (Hw3.out.trans ((show Chg [] w3 w3.drew from (Chg.refl _ _).drew).trans hc)) (fun g hg => hc.block g hg (by simp))
      have m1 := hS.1
      have m2 := hS.2.1
      have m3 := hS.2.2.1
      have b0 := hS.2.2.2.1
      have b1 := hS.2.2.2.2.1
      have b2 := hS.2.2.2.2.2.1
      have b3 := hS.2.2.2.2.2.2.1
      have b4 := hS.2.2.2.2.2.2.2
      clear hS
      go_simp
      refine (textV_any t W).mono ?_
      rintro e X ⟨rfl, hcx⟩
      have hk := hK _ _ hcx rfl trivial
      simp only [putU, Nat.reduceAdd, Act.put, List.setIfInBounds_toArray, List.set_cons_zero, List.set_cons_succ, List.getElem_toArray, List.getElem_cons_zero, List.getElem_cons_succ, h2] at hk
      exact hk
    | 4, ho, _, hun, hd, hK =>
      cases ho
      simp only [List.getElem_toArray, List.getElem_cons_zero, List.getElem_cons_succ]
      simp only [putU, Nat.reduceAdd, Act.put, List.setIfInBounds_toArray, List.set_cons_zero, List.set_cons_succ]
      have hS := HS.out W (Hw3.out.trans ((show Chg [] w3 w3.drew from (Chg.refl _ _).drew).trans hc)) (fun g hg => hc.block g hg (by simp))
      have m1 := hS.1
      have m2 := hS.2.1
      have m3 := hS.2.2.1
      have b0 := hS.2.2.2.1
      have b1 := hS.2.2.2.2.1
      have b2 := hS.2.2.2.2.2.1
      have b3 := hS.2.2.2.2.2.2.1
      have b4 := hS.2.2.2.2.2.2.2
      clear hS
      go_simp
      have hk := hK _ _ (Chg.refl [] W) rfl trivial
      simp only [putU, Nat.reduceAdd, Act.put, List.setIfInBounds_toArray, List.set_cons_zero, List.set_cons_succ, List.getElem_toArray, List.getElem_cons_zero, List.getElem_cons_succ] at hk
      exact hk
    | 5, ho, _, hun, hd, hK =>
      cases ho
      simp only [List.getElem_toArray, List.getElem_cons_zero, List.getElem_cons_succ]
      have h3 : u 3 = .agg #[.int .i64 3, .int .i64 0, .string t, .slice none 0 0, .slice none 0 0] := hd 3 (by kernel_rfl) (by decide)
      have h4 : u 4 = .agg #[.int .i64 ek, .int .i64 en, .string et, .slice ena enl enc, .slice eia eil eic] := hd 4 (by kernel_rfl) (by decide)
      simp only [putU, Nat.reduceAdd, Act.put, List.setIfInBounds_toArray, List.set_cons_zero, List.set_cons_succ, h3, h4]
      have hS := HS.out W (Hw3.out.trans ((show Chg [] w3 w3.drew from (Chg.refl _ _).drew).trans hc)) (fun g hg => hc.block g hg (by simp))
      have m1 := hS.1
      have m2 := hS.2.1
      have m3 := hS.2.2.1
      have b0 := hS.2.2.2.1
      have b1 := hS.2.2.2.2.1
      have b2 := hS.2.2.2.2.2.1
      have b3 := hS.2.2.2.2.2.2.1
      have b4 := hS.2.2.2.2.2.2.2
      clear hS
      go_simp
      have hcw : Chg [] W (W.alloc (.cells #[.int .i64 3, .int .i64 0, .string t, .slice none 0 0, .slice none 0 0, .int .i64 ek, .int .i64 en, .string et, .slice ena enl enc, .slice eia eil eic] 25)) := (Chg.refl _ _).alloc _
      have hgt : mb + 1 < W.heap.size := Nat.lt_of_lt_of_le Hlt.out (Nat.le_trans (show w3.heap.size ≤ w3.drew.heap.size from Nat.le_refl _) hc.size)
      have hk := hK _ _ hcw ⟨W.heap.size, rfl, ⟨heap_at _ _ _ rfl, hgt⟩⟩ trivial
      simp only [putU, Nat.reduceAdd, Act.put, List.setIfInBounds_toArray, List.set_cons_zero, List.set_cons_succ, List.getElem_toArray, List.getElem_cons_zero, List.getElem_cons_succ, h3, h4] at hk
      exact hk
    | 6, ho, _, hun, hd, hK =>
      cases ho
      simp only [List.getElem_toArray, List.getElem_cons_zero, List.getElem_cons_succ]
      have h0 : ∃ g0, u 0 = .slice (some ⟨g0, 0, none⟩) 2 2 ∧ (W.heap[g0]? = some (.cells #[.string ⟨#[109, 101, 116, 104, 111, 100]⟩, .string ⟨#[112, 97, 114, 97, 109, 115]⟩] 9 (0, 0)) ∧ mb + 1 < g0) := hd 0 (by kernel_rfl) (by decide)
      obtain ⟨g0, h0, f0⟩ := h0
      have h5 : ∃ g5, u 5 = .slice (some ⟨g5, 0, none⟩) 2 2 ∧ (W.heap[g5]? = some (.cells #[.int .i64 3, .int .i64 0, .string t, .slice none 0 0, .slice none 0 0, .int .i64 ek, .int .i64 en, .string et, .slice ena enl enc, .slice eia eil eic] 25 (0, 0)) ∧ mb + 1 < g5) := hd 5 (by kernel_rfl) (by decide)
      obtain ⟨g5, h5, f5⟩ := h5
      simp only [putU, Nat.reduceAdd, Act.put, List.setIfInBounds_toArray, List.set_cons_zero, List.set_cons_succ, h0, h5]
      have hS := HS.out W (Hw3.out.trans ((show Chg [] w3 w3.drew from (Chg.refl _ _).drew).trans hc)) (fun g hg => hc.block g hg (by simp))
      have m1 := hS.1
      have m2 := hS.2.1
      have m3 := hS.2.2.1
      have b0 := hS.2.2.2.1
      have b1 := hS.2.2.2.2.1
      have b2 := hS.2.2.2.2.2.1
      have b3 := hS.2.2.2.2.2.2.1
      have b4 := hS.2.2.2.2.2.2.2
      clear hS
      go_simp
      refine (object_any (some ⟨g0, 0, none⟩) (some ⟨g5, 0, none⟩) 2 2 2 2 W).mono ?_
      rintro e X ⟨rfl, hcx⟩
      have hk := hK _ _ hcx ⟨g0, g5, rfl, kp1 hcx f0, kp1 hcx f5⟩ trivial
      simp only [putU, Nat.reduceAdd, Act.put, List.setIfInBounds_toArray, List.set_cons_zero, List.set_cons_succ, List.getElem_toArray, List.getElem_cons_zero, List.getElem_cons_succ, h0, h5] at hk
      exact hk
    | (q + 7), _, hn, _, _, _ => exact absurd hn (by omega)
  · intro u W hc hR hG
    have h6 : ∃ g0 g5, u 6 = .agg #[.int .i64 5, .int .i64 0, .string ⟨#[]⟩, .slice (some ⟨g0, 0, none⟩) 2 2, .slice (some ⟨g5, 0, none⟩) 2 2] ∧ (W.heap[g0]? = some (.cells #[.string ⟨#[109, 101, 116, 104, 111, 100]⟩, .string ⟨#[112, 97, 114, 97, 109, 115]⟩] 9 (0, 0)) ∧ mb + 1 < g0) ∧ (W.heap[g5]? = some (.cells #[.int .i64 3, .int .i64 0, .string t, .slice none 0 0, .slice none 0 0, .int .i64 ek, .int .i64 en, .string et, .slice ena enl enc, .slice eia eil eic] 25 (0, 0)) ∧ mb + 1 < g5) := hR 6 (by decide)
    obtain ⟨g0, g5, h6, f0, f5⟩ := h6
    have hcW := Hw3.out.trans ((show Chg [] w3 w3.drew from (Chg.refl _ _).drew).trans hc)
    have Hend3 := Lib.hid ((show Chg [] w3 w3.drew from (Chg.refl _ _).drew).trans hc)
    have hr3 := (hcW.block (mb + 1) (lt_of_obj Hr1.out) (by simp)).trans Hr1.out
    obtain ⟨r0, r1, r2, r3, r4⟩ := box_kept (mb + 1) hr3 (Chg.refl [] W)
    have fr := fun i => frozen_of_heap (i := i) hr3
    have lr := lt_of_cell r0
    simp only [putU, Nat.reduceAdd, Act.put, List.setIfInBounds_toArray, List.set_cons_zero, List.set_cons_succ, h6]
    refine anyU_one (k := 7) (by kernel_rfl) rfl (fun K hK => ?_)
    go_simp
    refine hK _ _ (fun _ => trivial) trivial ?_
    clear hK K
    refine anyU_done (by kernel_rfl) ?_
    have Hend := Lib.hid hcW
    have F0 := Lib.hid f0
    have F5 := Lib.hid f5
    clear hcW f0 f5 hc hR hG hr3
    go_wp2_with fail
    refine bodyPost_ret (v := .agg #[.int .i64 5, .int .i64 0, .string ⟨#[]⟩, .slice (some ⟨g0, 0, none⟩) 2 2, .slice (some ⟨g5, 0, none⟩) 2 2]) (by simp [results, Tryd.results33, go_sem, r0, r1, r2, r3, r4]) rfl ?_
    have hcs := st5_chg W (mb + 1) 0 ⟨5, 0, ⟨#[]⟩, some ⟨g0, 0, none⟩, 2, 2, some ⟨g5, 0, none⟩, 2, 2⟩
    have hbd := Hbody.out W Hend.out hcs Hend3.out
    show ToPostB (.mk 5 0 ⟨#[]⟩ [⟨#[109, 101, 116, 104, 111, 100]⟩, ⟨#[112, 97, 114, 97, 109, 115]⟩] [(.mk 3 0 t [] []), b]) w _ (st5 W (mb + 1) 0 ⟨5, 0, ⟨#[]⟩, some ⟨g0, 0, none⟩, 2, 2, some ⟨g5, 0, none⟩, 2, 2⟩)
    generalize st5 W (mb + 1) 0 ⟨5, 0, ⟨#[]⟩, some ⟨g0, 0, none⟩, 2, 2, some ⟨g5, 0, none⟩, 2, 2⟩ = X at hcs hbd ⊢
    exact toB2_end (i := i) (c := c) Hts.out ((hcs.block g0 (lt_of_obj F0.out.1) (by have := F0.out.2; simp; omega)).trans F0.out.1) ((hcs.block g5 (lt_of_obj F5.out.1) (by have := F5.out.2; simp; omega)).trans F5.out.1) (by have := F0.out.2; omega) (by have := F5.out.2; omega) Hmb.out hbd ((HcA.out.trans Hend.out).comp hcs fun g hg => Or.inr (by have := List.mem_singleton.1 hg; have := Hmb.out; omega))
theorem toB3_end {mb f : Nat} {i c ek en : Int} {t et : ByteArray} {ena eia : Option Addr} {enl enc eil eic : Nat} {b : J} {w W : World} {g0 g5 : Nat} (ht : t.size ≤ maxLen) (q0 : W.heap[g0]? = some (.cells #[.string ⟨#[105, 100]⟩, .string ⟨#[114, 101, 115, 117, 108, 116]⟩] 9 (0, 0))) (q5 : W.heap[g5]? = some (.cells #[.int .i64 2, .int .i64 i, .string ⟨#[]⟩, .slice none 0 0, .slice none 0 0, .int .i64 ek, .int .i64 en, .string et, .slice ena enl enc, .slice eia eil eic] 25 (0, 0))) (l0 : mb ≤ g0) (l5 : mb ≤ g5) (hm : mb = w.heap.size) (hb : JN w.heap.size f W (Ev.val ⟨ek, en, et, ena, enl, enc, eia, eil, eic⟩) b) (hc : Chg [] w W) :
    ToPostB (.mk 5 0 ⟨#[]⟩ [⟨#[105, 100]⟩, ⟨#[114, 101, 115, 117, 108, 116]⟩] [(.mk 2 i ⟨#[]⟩ [] []), b]) w (.returned (.agg #[.int .i64 5, .int .i64 0, .string ⟨#[]⟩, .slice (some ⟨g0, 0, none⟩) 2 2, .slice (some ⟨g5, 0, none⟩) 2 2])) W :=
  ⟨_, _, rfl, JN.mk (nms_2 q0 (by omega) (by decide) (by decide)) (els_2 (f := f + 1) (lt_of_obj q5) (by omega) (rd_leaf (cell_of_heap q5 rfl) (cell_of_heap q5 rfl) (cell_of_heap q5 rfl) (cell_of_heap q5 rfl) (cell_of_heap q5 rfl) (by decide)) (rd_val (e := ⟨ek, en, et, ena, enl, enc, eia, eil, eic⟩) hb (cell_of_heap q5 rfl) (cell_of_heap q5 rfl) (cell_of_heap q5 rfl) (cell_of_heap q5 rfl) (cell_of_heap q5 rfl))) (by decide), hc⟩
set_option maxRecDepth 100000 in
set_option maxHeartbeats 16000000 in
theorem toB3 (p : Nat → Prop) (f : Nat) (i c : Int) (t : ByteArray) (e : Ev) (b : J) (w : World) (ht : t.size ≤ maxLen) (hb : JV p f w e.val b) (hs : Sm b) : Calls Tryd.prog 33 #[mB 3 i c t e] w (ToPostB (.mk 5 0 ⟨#[]⟩ [⟨#[105, 100]⟩, ⟨#[114, 101, 115, 117, 108, 116]⟩] [(.mk 2 i ⟨#[]⟩ [] []), b]) w) := by
  obtain ⟨xk, xn, xt, xna, xnl, xnc, xia, xil, xic⟩ := e
  unfold mB
  unfold Ev.val at hb
  simp only at hb ⊢
  obtain ⟨w1, hw1⟩ : ∃ x, x = (w.alloc (.cells #[.int .i64 3, .int .i64 i, .int .i64 c, .string t, .int .i64 xk, .int .i64 xn, .string xt, .slice xna xnl xnc, .slice xia xil xic] 27)).alloc (.cells #[.int .i64 0, .int .i64 0, .string ⟨#[]⟩, .slice none 0 0, .slice none 0 0] 25) := ⟨_, rfl⟩
  obtain ⟨mb, hmb⟩ : ∃ x, x = w.heap.size := ⟨_, rfl⟩
  have hc1 : Chg [] w w1 := by rw [hw1]; exact ((Chg.refl _ _).alloc _).alloc _
  have hm1 : w1.heap[mb]? = some (.cells #[.int .i64 3, .int .i64 i, .int .i64 c, .string t, .int .i64 xk, .int .i64 xn, .string xt, .slice xna xnl xnc, .slice xia xil xic] 27 (0, 0)) := by
    rw [hw1, hmb, heap_past _ _ _ (by simp)]
    exact heap_at _ _ _ rfl
  have hr1 : w1.heap[mb + 1]? = some (.cells #[.int .i64 0, .int .i64 0, .string ⟨#[]⟩, .slice none 0 0, .slice none 0 0] 25 (0, 0)) := by
    rw [hw1, hmb]
    exact heap_at _ _ _ (by simp)
  have Hcl := Lib.hid (cloneR_any p f w1 b _ (hb.kept (S := fun _ => False) hc1.p (fun _ _ h => h)) hs)
  have Hmb := Lib.hid hmb
  have HcA := Lib.hid hc1
  have Hm1 := Lib.hid hm1
  have Hr1 := Lib.hid hr1
  have Hts := Lib.hid ht
  clear hc1 hm1 hr1 ht hb hs
  go_enter Tryd.func33, Tryd.ntmps33
  go_wp2_with fail
  rw [← hw1, ← hmb]
  clear hw1 hmb
  refine Hcl.out.mono ?_
  rintro e w2 ⟨v2, rfl, hv2, hc2⟩
  obtain ⟨⟨ek, en, et, ena, enl, enc, eia, eil, eic⟩, rfl⟩ := hv2.ev'
  unfold Ev.val
  obtain ⟨w3, hw3⟩ : ∃ x, x = w2.alloc (.cells #[.int .i64 ek, .int .i64 en, .string et, .slice ena enl enc, .slice eia eil eic] 25) := ⟨_, rfl⟩
  obtain ⟨bb, hbb⟩ : ∃ x, x = w2.heap.size := ⟨_, rfl⟩
  have hc23 : Chg [] w2 w3 := by rw [hw3]; exact (Chg.refl _ _).alloc _
  have hc3 : Chg [] w1 w3 := hc2.trans hc23
  have hb3 : w3.heap[bb]? = some (.cells #[.int .i64 ek, .int .i64 en, .string et, .slice ena enl enc, .slice eia eil eic] 25 (0, 0)) := by rw [hw3, hbb]; exact heap_at _ _ _ rfl
  obtain ⟨m0, m1, m2, m3, m4, m5, m6, m7, m8⟩ := msg_cells mb Hm1.out hc3
  have Hw3 := Lib.hid (hc3)
  have Hlt : Hid (mb + 1 < w3.heap.size) := Lib.hid (Nat.lt_of_lt_of_le (lt_of_obj Hr1.out) hc3.size)
  have HS : Hid (∀ W, Chg [] w1 W → (∀ g, g < w3.heap.size → W.heap[g]? = w3.heap[g]?) → W.cell? ⟨mb, 1, none⟩ = some (.int .i64 i) ∧ W.cell? ⟨mb, 2, none⟩ = some (.int .i64 c) ∧ W.cell? ⟨mb, 3, none⟩ = some (.string t) ∧ W.cell? ⟨bb, 0, none⟩ = some (.int .i64 ek) ∧ W.cell? ⟨bb, 1, none⟩ = some (.int .i64 en) ∧ W.cell? ⟨bb, 2, none⟩ = some (.string et) ∧ W.cell? ⟨bb, 3, none⟩ = some (.slice ena enl enc) ∧ W.cell? ⟨bb, 4, none⟩ = some (.slice eia eil eic)) := Lib.hid (fun W hW hB => by
    have e0 := hB mb (Nat.lt_trans (Nat.lt_succ_self _) Hlt.out)
    have e1 := hB bb (lt_of_obj hb3)
    have q := (Hw3.out.block mb (lt_of_obj Hm1.out) (by simp)).trans Hm1.out
    exact ⟨cell_of_heap (e0.trans q) rfl, cell_of_heap (e0.trans q) rfl, cell_of_heap (e0.trans q) rfl, cell_of_heap (e1.trans hb3) rfl, cell_of_heap (e1.trans hb3) rfl, cell_of_heap (e1.trans hb3) rfl, cell_of_heap (e1.trans hb3) rfl, cell_of_heap (e1.trans hb3) rfl⟩)
  have Hbody : Hid (∀ W {e : Ev}, Chg [] w1 W → Chg [mb + 1] W (st5 W (mb + 1) 0 e) → Chg [] w3 W → JN w.heap.size (f + 1) (st5 W (mb + 1) 0 e) (Ev.val ⟨ek, en, et, ena, enl, enc, eia, eil, eic⟩) b) := Lib.hid (fun W e hW hst hW3 => by
    have hv := hv2.same (hc23.trans hW3)
    refine (hv.kept hst.toP fun g hg hm => ?_).imp fun g hg => ⟨Nat.le_trans HcA.out.size hg.1, Nat.lt_of_lt_of_le hg.2 hst.size⟩
    have := List.mem_singleton.1 hm
    have := lt_of_obj Hr1.out
    have := hg.1
    omega)
  clear hc2 hc3 hb3 hc23 hv2
  go_upto_region 2 with fail
  rw [← hw3, ← hbb]
  clear hw3 hbb
  go_upto_region 8 with fail
  clear m0 m1 m2 m3 m4 m5 m6 m7 m8
  refine wp_region_put 7 [some 32, some 33, some 34, some 35, some 36, some 37, some 38] (fun j v W => match j with
      | 0 => ∃ g0, v = .slice (some ⟨g0, 0, none⟩) 2 2 ∧ (W.heap[g0]? = some (.cells #[.string ⟨#[105, 100]⟩, .string ⟨#[114, 101, 115, 117, 108, 116]⟩] 9 (0, 0)) ∧ mb + 1 < g0)
      | 1 => v = .pointer (some ⟨mb, 1, none⟩)
      | 2 => v = .int .i64 i
      | 3 => v = .agg #[.int .i64 2, .int .i64 i, .string ⟨#[]⟩, .slice none 0 0, .slice none 0 0]
      | 4 => v = .agg #[.int .i64 ek, .int .i64 en, .string et, .slice ena enl enc, .slice eia eil eic]
      | 5 => ∃ g5, v = .slice (some ⟨g5, 0, none⟩) 2 2 ∧ (W.heap[g5]? = some (.cells #[.int .i64 2, .int .i64 i, .string ⟨#[]⟩, .slice none 0 0, .slice none 0 0, .int .i64 ek, .int .i64 en, .string et, .slice ena enl enc, .slice eia eil eic] 25 (0, 0)) ∧ mb + 1 < g5)
      | 6 => ∃ g0 g5, v = .agg #[.int .i64 5, .int .i64 0, .string ⟨#[]⟩, .slice (some ⟨g0, 0, none⟩) 2 2, .slice (some ⟨g5, 0, none⟩) 2 2] ∧ (W.heap[g0]? = some (.cells #[.string ⟨#[105, 100]⟩, .string ⟨#[114, 101, 115, 117, 108, 116]⟩] 9 (0, 0)) ∧ mb + 1 < g0) ∧ (W.heap[g5]? = some (.cells #[.int .i64 2, .int .i64 i, .string ⟨#[]⟩, .slice none 0 0, .slice none 0 0, .int .i64 ek, .int .i64 en, .string et, .slice ena enl enc, .slice eia eil eic] 25 (0, 0)) ∧ mb + 1 < g5)
      | _ => True) (fun _ _ _ => True) (by kernel_rfl) (by kernel_rfl) (by kernel_rfl) (fun _ => trivial) ?_ ?_ ?_
  · intro j v W W2 hcw hR
    match j, hR with
    | 0, hR => obtain ⟨g0, h1, f0⟩ := hR; exact ⟨g0, h1, kp1 hcw f0⟩
    | 1, hR => exact hR
    | 2, hR => exact hR
    | 3, hR => exact hR
    | 4, hR => exact hR
    | 5, hR => obtain ⟨g5, h1, f5⟩ := hR; exact ⟨g5, h1, kp1 hcw f5⟩
    | 6, hR => obtain ⟨g0, g5, h1, f0, f5⟩ := hR; exact ⟨g0, g5, h1, kp1 hcw f0, kp1 hcw f5⟩
    | (j + 7), hR => exact trivial
  · intro q o ho hn listed u W hun hall hd hc hG K hK
    match q, ho, hn, hun, hd, hK with
    | 0, ho, _, hun, hd, hK =>
      cases ho
      simp only [List.getElem_toArray, List.getElem_cons_zero, List.getElem_cons_succ]
      simp only [putU, Nat.reduceAdd, Act.put, List.setIfInBounds_toArray, List.set_cons_zero, List.set_cons_succ]
      have hS := HS.out W (Hw3.out.trans ((show Chg [] w3 w3.drew from (Chg.refl _ _).drew).trans hc)) (fun g hg => hc.block g hg (by simp))
      have m1 := hS.1
      have m2 := hS.2.1
      have m3 := hS.2.2.1
      have b0 := hS.2.2.2.1
      have b1 := hS.2.2.2.2.1
      have b2 := hS.2.2.2.2.2.1
      have b3 := hS.2.2.2.2.2.2.1
      have b4 := hS.2.2.2.2.2.2.2
      clear hS
      go_simp
      have hcw : Chg [] W (W.alloc (.cells #[.string ⟨#[105, 100]⟩, .string ⟨#[114, 101, 115, 117, 108, 116]⟩] 9)) := (Chg.refl _ _).alloc _
      have hgt : mb + 1 < W.heap.size := Nat.lt_of_lt_of_le Hlt.out (Nat.le_trans (show w3.heap.size ≤ w3.drew.heap.size from Nat.le_refl _) hc.size)
      have hk := hK _ _ hcw ⟨W.heap.size, rfl, ⟨heap_at _ _ _ rfl, hgt⟩⟩ trivial
      simp only [putU, Nat.reduceAdd, Act.put, List.setIfInBounds_toArray, List.set_cons_zero, List.set_cons_succ, List.getElem_toArray, List.getElem_cons_zero, List.getElem_cons_succ] at hk
      exact hk
    | 1, ho, _, hun, hd, hK =>
      cases ho
      simp only [List.getElem_toArray, List.getElem_cons_zero, List.getElem_cons_succ]
      simp only [putU, Nat.reduceAdd, Act.put, List.setIfInBounds_toArray, List.set_cons_zero, List.set_cons_succ]
      have hS := HS.out W (Hw3.out.trans ((show Chg [] w3 w3.drew from (Chg.refl _ _).drew).trans hc)) (fun g hg => hc.block g hg (by simp))
      have m1 := hS.1
      have m2 := hS.2.1
      have m3 := hS.2.2.1
      have b0 := hS.2.2.2.1
      have b1 := hS.2.2.2.2.1
      have b2 := hS.2.2.2.2.2.1
      have b3 := hS.2.2.2.2.2.2.1
      have b4 := hS.2.2.2.2.2.2.2
      clear hS
      go_simp
      have hk := hK _ _ (Chg.refl [] W) rfl trivial
      simp only [putU, Nat.reduceAdd, Act.put, List.setIfInBounds_toArray, List.set_cons_zero, List.set_cons_succ, List.getElem_toArray, List.getElem_cons_zero, List.getElem_cons_succ] at hk
      exact hk
    | 2, ho, _, hun, hd, hK =>
      cases ho
      simp only [List.getElem_toArray, List.getElem_cons_zero, List.getElem_cons_succ]
      have h1 : u 1 = .pointer (some ⟨mb, 1, none⟩) := hd 1 (by kernel_rfl) (by decide)
      simp only [putU, Nat.reduceAdd, Act.put, List.setIfInBounds_toArray, List.set_cons_zero, List.set_cons_succ, h1]
      have hS := HS.out W (Hw3.out.trans ((show Chg [] w3 w3.drew from (Chg.refl _ _).drew).trans hc)) (fun g hg => hc.block g hg (by simp))
      have m1 := hS.1
      have m2 := hS.2.1
      have m3 := hS.2.2.1
      have b0 := hS.2.2.2.1
      have b1 := hS.2.2.2.2.1
      have b2 := hS.2.2.2.2.2.1
      have b3 := hS.2.2.2.2.2.2.1
      have b4 := hS.2.2.2.2.2.2.2
      clear hS
      go_simp
      have hk := hK _ _ (Chg.refl [] W) rfl trivial
      simp only [putU, Nat.reduceAdd, Act.put, List.setIfInBounds_toArray, List.set_cons_zero, List.set_cons_succ, List.getElem_toArray, List.getElem_cons_zero, List.getElem_cons_succ, h1] at hk
      exact hk
    | 3, ho, _, hun, hd, hK =>
      cases ho
      simp only [List.getElem_toArray, List.getElem_cons_zero, List.getElem_cons_succ]
      have h2 : u 2 = .int .i64 i := hd 2 (by kernel_rfl) (by decide)
      simp only [putU, Nat.reduceAdd, Act.put, List.setIfInBounds_toArray, List.set_cons_zero, List.set_cons_succ, h2]
      have hS := HS.out W (Hw3.out.trans ((show Chg [] w3 w3.drew from (Chg.refl _ _).drew).trans hc)) (fun g hg => hc.block g hg (by simp))
      have m1 := hS.1
      have m2 := hS.2.1
      have m3 := hS.2.2.1
      have b0 := hS.2.2.2.1
      have b1 := hS.2.2.2.2.1
      have b2 := hS.2.2.2.2.2.1
      have b3 := hS.2.2.2.2.2.2.1
      have b4 := hS.2.2.2.2.2.2.2
      clear hS
      go_simp
      refine (number_any i W).mono ?_
      rintro e X ⟨rfl, hcx⟩
      have hk := hK _ _ hcx rfl trivial
      simp only [putU, Nat.reduceAdd, Act.put, List.setIfInBounds_toArray, List.set_cons_zero, List.set_cons_succ, List.getElem_toArray, List.getElem_cons_zero, List.getElem_cons_succ, h2] at hk
      exact hk
    | 4, ho, _, hun, hd, hK =>
      cases ho
      simp only [List.getElem_toArray, List.getElem_cons_zero, List.getElem_cons_succ]
      simp only [putU, Nat.reduceAdd, Act.put, List.setIfInBounds_toArray, List.set_cons_zero, List.set_cons_succ]
      have hS := HS.out W (Hw3.out.trans ((show Chg [] w3 w3.drew from (Chg.refl _ _).drew).trans hc)) (fun g hg => hc.block g hg (by simp))
      have m1 := hS.1
      have m2 := hS.2.1
      have m3 := hS.2.2.1
      have b0 := hS.2.2.2.1
      have b1 := hS.2.2.2.2.1
      have b2 := hS.2.2.2.2.2.1
      have b3 := hS.2.2.2.2.2.2.1
      have b4 := hS.2.2.2.2.2.2.2
      clear hS
      go_simp
      have hk := hK _ _ (Chg.refl [] W) rfl trivial
      simp only [putU, Nat.reduceAdd, Act.put, List.setIfInBounds_toArray, List.set_cons_zero, List.set_cons_succ, List.getElem_toArray, List.getElem_cons_zero, List.getElem_cons_succ] at hk
      exact hk
    | 5, ho, _, hun, hd, hK =>
      cases ho
      simp only [List.getElem_toArray, List.getElem_cons_zero, List.getElem_cons_succ]
      have h3 : u 3 = .agg #[.int .i64 2, .int .i64 i, .string ⟨#[]⟩, .slice none 0 0, .slice none 0 0] := hd 3 (by kernel_rfl) (by decide)
      have h4 : u 4 = .agg #[.int .i64 ek, .int .i64 en, .string et, .slice ena enl enc, .slice eia eil eic] := hd 4 (by kernel_rfl) (by decide)
      simp only [putU, Nat.reduceAdd, Act.put, List.setIfInBounds_toArray, List.set_cons_zero, List.set_cons_succ, h3, h4]
      have hS := HS.out W (Hw3.out.trans ((show Chg [] w3 w3.drew from (Chg.refl _ _).drew).trans hc)) (fun g hg => hc.block g hg (by simp))
      have m1 := hS.1
      have m2 := hS.2.1
      have m3 := hS.2.2.1
      have b0 := hS.2.2.2.1
      have b1 := hS.2.2.2.2.1
      have b2 := hS.2.2.2.2.2.1
      have b3 := hS.2.2.2.2.2.2.1
      have b4 := hS.2.2.2.2.2.2.2
      clear hS
      go_simp
      have hcw : Chg [] W (W.alloc (.cells #[.int .i64 2, .int .i64 i, .string ⟨#[]⟩, .slice none 0 0, .slice none 0 0, .int .i64 ek, .int .i64 en, .string et, .slice ena enl enc, .slice eia eil eic] 25)) := (Chg.refl _ _).alloc _
      have hgt : mb + 1 < W.heap.size := Nat.lt_of_lt_of_le Hlt.out (Nat.le_trans (show w3.heap.size ≤ w3.drew.heap.size from Nat.le_refl _) hc.size)
      have hk := hK _ _ hcw ⟨W.heap.size, rfl, ⟨heap_at _ _ _ rfl, hgt⟩⟩ trivial
      simp only [putU, Nat.reduceAdd, Act.put, List.setIfInBounds_toArray, List.set_cons_zero, List.set_cons_succ, List.getElem_toArray, List.getElem_cons_zero, List.getElem_cons_succ, h3, h4] at hk
      exact hk
    | 6, ho, _, hun, hd, hK =>
      cases ho
      simp only [List.getElem_toArray, List.getElem_cons_zero, List.getElem_cons_succ]
      have h0 : ∃ g0, u 0 = .slice (some ⟨g0, 0, none⟩) 2 2 ∧ (W.heap[g0]? = some (.cells #[.string ⟨#[105, 100]⟩, .string ⟨#[114, 101, 115, 117, 108, 116]⟩] 9 (0, 0)) ∧ mb + 1 < g0) := hd 0 (by kernel_rfl) (by decide)
      obtain ⟨g0, h0, f0⟩ := h0
      have h5 : ∃ g5, u 5 = .slice (some ⟨g5, 0, none⟩) 2 2 ∧ (W.heap[g5]? = some (.cells #[.int .i64 2, .int .i64 i, .string ⟨#[]⟩, .slice none 0 0, .slice none 0 0, .int .i64 ek, .int .i64 en, .string et, .slice ena enl enc, .slice eia eil eic] 25 (0, 0)) ∧ mb + 1 < g5) := hd 5 (by kernel_rfl) (by decide)
      obtain ⟨g5, h5, f5⟩ := h5
      simp only [putU, Nat.reduceAdd, Act.put, List.setIfInBounds_toArray, List.set_cons_zero, List.set_cons_succ, h0, h5]
      have hS := HS.out W (Hw3.out.trans ((show Chg [] w3 w3.drew from (Chg.refl _ _).drew).trans hc)) (fun g hg => hc.block g hg (by simp))
      have m1 := hS.1
      have m2 := hS.2.1
      have m3 := hS.2.2.1
      have b0 := hS.2.2.2.1
      have b1 := hS.2.2.2.2.1
      have b2 := hS.2.2.2.2.2.1
      have b3 := hS.2.2.2.2.2.2.1
      have b4 := hS.2.2.2.2.2.2.2
      clear hS
      go_simp
      refine (object_any (some ⟨g0, 0, none⟩) (some ⟨g5, 0, none⟩) 2 2 2 2 W).mono ?_
      rintro e X ⟨rfl, hcx⟩
      have hk := hK _ _ hcx ⟨g0, g5, rfl, kp1 hcx f0, kp1 hcx f5⟩ trivial
      simp only [putU, Nat.reduceAdd, Act.put, List.setIfInBounds_toArray, List.set_cons_zero, List.set_cons_succ, List.getElem_toArray, List.getElem_cons_zero, List.getElem_cons_succ, h0, h5] at hk
      exact hk
    | (q + 7), _, hn, _, _, _ => exact absurd hn (by omega)
  · intro u W hc hR hG
    have h6 : ∃ g0 g5, u 6 = .agg #[.int .i64 5, .int .i64 0, .string ⟨#[]⟩, .slice (some ⟨g0, 0, none⟩) 2 2, .slice (some ⟨g5, 0, none⟩) 2 2] ∧ (W.heap[g0]? = some (.cells #[.string ⟨#[105, 100]⟩, .string ⟨#[114, 101, 115, 117, 108, 116]⟩] 9 (0, 0)) ∧ mb + 1 < g0) ∧ (W.heap[g5]? = some (.cells #[.int .i64 2, .int .i64 i, .string ⟨#[]⟩, .slice none 0 0, .slice none 0 0, .int .i64 ek, .int .i64 en, .string et, .slice ena enl enc, .slice eia eil eic] 25 (0, 0)) ∧ mb + 1 < g5) := hR 6 (by decide)
    obtain ⟨g0, g5, h6, f0, f5⟩ := h6
    have hcW := Hw3.out.trans ((show Chg [] w3 w3.drew from (Chg.refl _ _).drew).trans hc)
    have Hend3 := Lib.hid ((show Chg [] w3 w3.drew from (Chg.refl _ _).drew).trans hc)
    have hr3 := (hcW.block (mb + 1) (lt_of_obj Hr1.out) (by simp)).trans Hr1.out
    obtain ⟨r0, r1, r2, r3, r4⟩ := box_kept (mb + 1) hr3 (Chg.refl [] W)
    have fr := fun i => frozen_of_heap (i := i) hr3
    have lr := lt_of_cell r0
    simp only [putU, Nat.reduceAdd, Act.put, List.setIfInBounds_toArray, List.set_cons_zero, List.set_cons_succ, h6]
    refine anyU_one (k := 7) (by kernel_rfl) rfl (fun K hK => ?_)
    go_simp
    refine hK _ _ (fun _ => trivial) trivial ?_
    clear hK K
    refine anyU_done (by kernel_rfl) ?_
    have Hend := Lib.hid hcW
    have F0 := Lib.hid f0
    have F5 := Lib.hid f5
    clear hcW f0 f5 hc hR hG hr3
    go_wp2_with fail
    refine bodyPost_ret (v := .agg #[.int .i64 5, .int .i64 0, .string ⟨#[]⟩, .slice (some ⟨g0, 0, none⟩) 2 2, .slice (some ⟨g5, 0, none⟩) 2 2]) (by simp [results, Tryd.results33, go_sem, r0, r1, r2, r3, r4]) rfl ?_
    have hcs := st5_chg W (mb + 1) 0 ⟨5, 0, ⟨#[]⟩, some ⟨g0, 0, none⟩, 2, 2, some ⟨g5, 0, none⟩, 2, 2⟩
    have hbd := Hbody.out W Hend.out hcs Hend3.out
    show ToPostB (.mk 5 0 ⟨#[]⟩ [⟨#[105, 100]⟩, ⟨#[114, 101, 115, 117, 108, 116]⟩] [(.mk 2 i ⟨#[]⟩ [] []), b]) w _ (st5 W (mb + 1) 0 ⟨5, 0, ⟨#[]⟩, some ⟨g0, 0, none⟩, 2, 2, some ⟨g5, 0, none⟩, 2, 2⟩)
    generalize st5 W (mb + 1) 0 ⟨5, 0, ⟨#[]⟩, some ⟨g0, 0, none⟩, 2, 2, some ⟨g5, 0, none⟩, 2, 2⟩ = X at hcs hbd ⊢
    exact toB3_end (i := i) (c := c) Hts.out ((hcs.block g0 (lt_of_obj F0.out.1) (by have := F0.out.2; simp; omega)).trans F0.out.1) ((hcs.block g5 (lt_of_obj F5.out.1) (by have := F5.out.2; simp; omega)).trans F5.out.1) (by have := F0.out.2; omega) (by have := F5.out.2; omega) Hmb.out hbd ((HcA.out.trans Hend.out).comp hcs fun g hg => Or.inr (by have := List.mem_singleton.1 hg; have := Hmb.out; omega))
theorem toB4_end {mb f : Nat} {i c ek en : Int} {t et : ByteArray} {ena eia : Option Addr} {enl enc eil eic : Nat} {b : J} {w W : World} {g0 g13 g4 g11 : Nat} (ht : t.size ≤ maxLen) (q0 : W.heap[g0]? = some (.cells #[.string ⟨#[105, 100]⟩, .string ⟨#[101, 114, 114, 111, 114]⟩] 9 (0, 0))) (q13 : W.heap[g13]? = some (.cells #[.int .i64 2, .int .i64 i, .string ⟨#[]⟩, .slice none 0 0, .slice none 0 0, .int .i64 5, .int .i64 0, .string ⟨#[]⟩, .slice (some ⟨g4, 0, none⟩) 2 2, .slice (some ⟨g11, 0, none⟩) 2 2] 25 (0, 0))) (q4 : W.heap[g4]? = some (.cells #[.string ⟨#[99, 111, 100, 101]⟩, .string ⟨#[109, 101, 115, 115, 97, 103, 101]⟩] 9 (0, 0))) (q11 : W.heap[g11]? = some (.cells #[.int .i64 2, .int .i64 c, .string ⟨#[]⟩, .slice none 0 0, .slice none 0 0, .int .i64 3, .int .i64 0, .string t, .slice none 0 0, .slice none 0 0] 25 (0, 0))) (l0 : mb ≤ g0) (l13 : mb ≤ g13) (l4 : mb ≤ g4) (l11 : mb ≤ g11) (hm : mb = w.heap.size) (hb : JN w.heap.size f W (Ev.val ⟨ek, en, et, ena, enl, enc, eia, eil, eic⟩) b) (hc : Chg [] w W) :
    ToPostB (.mk 5 0 ⟨#[]⟩ [⟨#[105, 100]⟩, ⟨#[101, 114, 114, 111, 114]⟩] [(.mk 2 i ⟨#[]⟩ [] []), (.mk 5 0 ⟨#[]⟩ [⟨#[99, 111, 100, 101]⟩, ⟨#[109, 101, 115, 115, 97, 103, 101]⟩] [(.mk 2 c ⟨#[]⟩ [] []), (.mk 3 0 t [] [])])]) w (.returned (.agg #[.int .i64 5, .int .i64 0, .string ⟨#[]⟩, .slice (some ⟨g0, 0, none⟩) 2 2, .slice (some ⟨g13, 0, none⟩) 2 2])) W :=
  ⟨_, _, rfl, JN.mk (nms_2 q0 (by omega) (by decide) (by decide)) (els_2 (f := (f + 1) + 1) (lt_of_obj q13) (by omega) (rd_leaf (cell_of_heap q13 rfl) (cell_of_heap q13 rfl) (cell_of_heap q13 rfl) (cell_of_heap q13 rfl) (cell_of_heap q13 rfl) (by decide)) (rd_obj (cell_of_heap q13 rfl) (cell_of_heap q13 rfl) (cell_of_heap q13 rfl) (cell_of_heap q13 rfl) (cell_of_heap q13 rfl) (nms_2 q4 (by omega) (by decide) (by decide)) (els_2 (f := f + 1) (lt_of_obj q11) (by omega) (rd_leaf (cell_of_heap q11 rfl) (cell_of_heap q11 rfl) (cell_of_heap q11 rfl) (cell_of_heap q11 rfl) (cell_of_heap q11 rfl) (by decide)) (rd_leaf (cell_of_heap q11 rfl) (cell_of_heap q11 rfl) (cell_of_heap q11 rfl) (cell_of_heap q11 rfl) (cell_of_heap q11 rfl) ht)))) (by decide), hc⟩
set_option maxRecDepth 100000 in
set_option maxHeartbeats 16000000 in
theorem toB4 (p : Nat → Prop) (f : Nat) (i c : Int) (t : ByteArray) (e : Ev) (b : J) (w : World) (ht : t.size ≤ maxLen) (hb : JV p f w e.val b) (hs : Sm b) : Calls Tryd.prog 33 #[mB 4 i c t e] w (ToPostB (.mk 5 0 ⟨#[]⟩ [⟨#[105, 100]⟩, ⟨#[101, 114, 114, 111, 114]⟩] [(.mk 2 i ⟨#[]⟩ [] []), (.mk 5 0 ⟨#[]⟩ [⟨#[99, 111, 100, 101]⟩, ⟨#[109, 101, 115, 115, 97, 103, 101]⟩] [(.mk 2 c ⟨#[]⟩ [] []), (.mk 3 0 t [] [])])]) w) := by
  obtain ⟨xk, xn, xt, xna, xnl, xnc, xia, xil, xic⟩ := e
  unfold mB
  unfold Ev.val at hb
  simp only at hb ⊢
  obtain ⟨w1, hw1⟩ : ∃ x, x = (w.alloc (.cells #[.int .i64 4, .int .i64 i, .int .i64 c, .string t, .int .i64 xk, .int .i64 xn, .string xt, .slice xna xnl xnc, .slice xia xil xic] 27)).alloc (.cells #[.int .i64 0, .int .i64 0, .string ⟨#[]⟩, .slice none 0 0, .slice none 0 0] 25) := ⟨_, rfl⟩
  obtain ⟨mb, hmb⟩ : ∃ x, x = w.heap.size := ⟨_, rfl⟩
  have hc1 : Chg [] w w1 := by rw [hw1]; exact ((Chg.refl _ _).alloc _).alloc _
  have hm1 : w1.heap[mb]? = some (.cells #[.int .i64 4, .int .i64 i, .int .i64 c, .string t, .int .i64 xk, .int .i64 xn, .string xt, .slice xna xnl xnc, .slice xia xil xic] 27 (0, 0)) := by
    rw [hw1, hmb, heap_past _ _ _ (by simp)]
    exact heap_at _ _ _ rfl
  have hr1 : w1.heap[mb + 1]? = some (.cells #[.int .i64 0, .int .i64 0, .string ⟨#[]⟩, .slice none 0 0, .slice none 0 0] 25 (0, 0)) := by
    rw [hw1, hmb]
    exact heap_at _ _ _ (by simp)
  have Hcl := Lib.hid (cloneR_any p f w1 b _ (hb.kept (S := fun _ => False) hc1.p (fun _ _ h => h)) hs)
  have Hmb := Lib.hid hmb
  have HcA := Lib.hid hc1
  have Hm1 := Lib.hid hm1
  have Hr1 := Lib.hid hr1
  have Hts := Lib.hid ht
  clear hc1 hm1 hr1 ht hb hs
  go_enter Tryd.func33, Tryd.ntmps33
  go_wp2_with fail
  rw [← hw1, ← hmb]
  clear hw1 hmb
  refine Hcl.out.mono ?_
  rintro e w2 ⟨v2, rfl, hv2, hc2⟩
  obtain ⟨⟨ek, en, et, ena, enl, enc, eia, eil, eic⟩, rfl⟩ := hv2.ev'
  unfold Ev.val
  obtain ⟨w3, hw3⟩ : ∃ x, x = w2.alloc (.cells #[.int .i64 ek, .int .i64 en, .string et, .slice ena enl enc, .slice eia eil eic] 25) := ⟨_, rfl⟩
  obtain ⟨bb, hbb⟩ : ∃ x, x = w2.heap.size := ⟨_, rfl⟩
  have hc23 : Chg [] w2 w3 := by rw [hw3]; exact (Chg.refl _ _).alloc _
  have hc3 : Chg [] w1 w3 := hc2.trans hc23
  have hb3 : w3.heap[bb]? = some (.cells #[.int .i64 ek, .int .i64 en, .string et, .slice ena enl enc, .slice eia eil eic] 25 (0, 0)) := by rw [hw3, hbb]; exact heap_at _ _ _ rfl
  obtain ⟨m0, m1, m2, m3, m4, m5, m6, m7, m8⟩ := msg_cells mb Hm1.out hc3
  have Hw3 := Lib.hid (hc3)
  have Hlt : Hid (mb + 1 < w3.heap.size) := Lib.hid (Nat.lt_of_lt_of_le (lt_of_obj Hr1.out) hc3.size)
  have HS : Hid (∀ W, Chg [] w1 W → (∀ g, g < w3.heap.size → W.heap[g]? = w3.heap[g]?) → W.cell? ⟨mb, 1, none⟩ = some (.int .i64 i) ∧ W.cell? ⟨mb, 2, none⟩ = some (.int .i64 c) ∧ W.cell? ⟨mb, 3, none⟩ = some (.string t) ∧ W.cell? ⟨bb, 0, none⟩ = some (.int .i64 ek) ∧ W.cell? ⟨bb, 1, none⟩ = some (.int .i64 en) ∧ W.cell? ⟨bb, 2, none⟩ = some (.string et) ∧ W.cell? ⟨bb, 3, none⟩ = some (.slice ena enl enc) ∧ W.cell? ⟨bb, 4, none⟩ = some (.slice eia eil eic)) := Lib.hid (fun W hW hB => by
    have e0 := hB mb (Nat.lt_trans (Nat.lt_succ_self _) Hlt.out)
    have e1 := hB bb (lt_of_obj hb3)
    have q := (Hw3.out.block mb (lt_of_obj Hm1.out) (by simp)).trans Hm1.out
    exact ⟨cell_of_heap (e0.trans q) rfl, cell_of_heap (e0.trans q) rfl, cell_of_heap (e0.trans q) rfl, cell_of_heap (e1.trans hb3) rfl, cell_of_heap (e1.trans hb3) rfl, cell_of_heap (e1.trans hb3) rfl, cell_of_heap (e1.trans hb3) rfl, cell_of_heap (e1.trans hb3) rfl⟩)
  have Hbody : Hid (∀ W {e : Ev}, Chg [] w1 W → Chg [mb + 1] W (st5 W (mb + 1) 0 e) → Chg [] w3 W → JN w.heap.size (f + 1) (st5 W (mb + 1) 0 e) (Ev.val ⟨ek, en, et, ena, enl, enc, eia, eil, eic⟩) b) := Lib.hid (fun W e hW hst hW3 => by
    have hv := hv2.same (hc23.trans hW3)
    refine (hv.kept hst.toP fun g hg hm => ?_).imp fun g hg => ⟨Nat.le_trans HcA.out.size hg.1, Nat.lt_of_lt_of_le hg.2 hst.size⟩
    have := List.mem_singleton.1 hm
    have := lt_of_obj Hr1.out
    have := hg.1
    omega)
  clear hc2 hc3 hb3 hc23 hv2
  go_upto_region 2 with fail
  rw [← hw3, ← hbb]
  clear hw3 hbb
  go_upto_region 10 with fail
  clear m0 m1 m2 m3 m4 m5 m6 m7 m8
  refine wp_region_put 15 [some 41, some 42, some 43, some 44, some 45, some 46, some 47, some 48, some 49, some 50, some 51, some 52, some 53, some 54, some 55] (fun j v W => match j with
      | 0 => ∃ g0, v = .slice (some ⟨g0, 0, none⟩) 2 2 ∧ (W.heap[g0]? = some (.cells #[.string ⟨#[105, 100]⟩, .string ⟨#[101, 114, 114, 111, 114]⟩] 9 (0, 0)) ∧ mb + 1 < g0)
      | 1 => v = .pointer (some ⟨mb, 1, none⟩)
      | 2 => v = .int .i64 i
      | 3 => v = .agg #[.int .i64 2, .int .i64 i, .string ⟨#[]⟩, .slice none 0 0, .slice none 0 0]
      | 4 => ∃ g4, v = .slice (some ⟨g4, 0, none⟩) 2 2 ∧ (W.heap[g4]? = some (.cells #[.string ⟨#[99, 111, 100, 101]⟩, .string ⟨#[109, 101, 115, 115, 97, 103, 101]⟩] 9 (0, 0)) ∧ mb + 1 < g4)
      | 5 => v = .pointer (some ⟨mb, 2, none⟩)
      | 6 => v = .int .i64 c
      | 7 => v = .agg #[.int .i64 2, .int .i64 c, .string ⟨#[]⟩, .slice none 0 0, .slice none 0 0]
      | 8 => v = .pointer (some ⟨mb, 3, none⟩)
      | 9 => v = .string t
      | 10 => v = .agg #[.int .i64 3, .int .i64 0, .string t, .slice none 0 0, .slice none 0 0]
      | 11 => ∃ g11, v = .slice (some ⟨g11, 0, none⟩) 2 2 ∧ (W.heap[g11]? = some (.cells #[.int .i64 2, .int .i64 c, .string ⟨#[]⟩, .slice none 0 0, .slice none 0 0, .int .i64 3, .int .i64 0, .string t, .slice none 0 0, .slice none 0 0] 25 (0, 0)) ∧ mb + 1 < g11)
      | 12 => ∃ g4 g11, v = .agg #[.int .i64 5, .int .i64 0, .string ⟨#[]⟩, .slice (some ⟨g4, 0, none⟩) 2 2, .slice (some ⟨g11, 0, none⟩) 2 2] ∧ (W.heap[g4]? = some (.cells #[.string ⟨#[99, 111, 100, 101]⟩, .string ⟨#[109, 101, 115, 115, 97, 103, 101]⟩] 9 (0, 0)) ∧ mb + 1 < g4) ∧ (W.heap[g11]? = some (.cells #[.int .i64 2, .int .i64 c, .string ⟨#[]⟩, .slice none 0 0, .slice none 0 0, .int .i64 3, .int .i64 0, .string t, .slice none 0 0, .slice none 0 0] 25 (0, 0)) ∧ mb + 1 < g11)
      | 13 => ∃ g13 g4 g11, v = .slice (some ⟨g13, 0, none⟩) 2 2 ∧ (W.heap[g13]? = some (.cells #[.int .i64 2, .int .i64 i, .string ⟨#[]⟩, .slice none 0 0, .slice none 0 0, .int .i64 5, .int .i64 0, .string ⟨#[]⟩, .slice (some ⟨g4, 0, none⟩) 2 2, .slice (some ⟨g11, 0, none⟩) 2 2] 25 (0, 0)) ∧ mb + 1 < g13) ∧ (W.heap[g4]? = some (.cells #[.string ⟨#[99, 111, 100, 101]⟩, .string ⟨#[109, 101, 115, 115, 97, 103, 101]⟩] 9 (0, 0)) ∧ mb + 1 < g4) ∧ (W.heap[g11]? = some (.cells #[.int .i64 2, .int .i64 c, .string ⟨#[]⟩, .slice none 0 0, .slice none 0 0, .int .i64 3, .int .i64 0, .string t, .slice none 0 0, .slice none 0 0] 25 (0, 0)) ∧ mb + 1 < g11)
      | 14 => ∃ g0 g13 g4 g11, v = .agg #[.int .i64 5, .int .i64 0, .string ⟨#[]⟩, .slice (some ⟨g0, 0, none⟩) 2 2, .slice (some ⟨g13, 0, none⟩) 2 2] ∧ (W.heap[g0]? = some (.cells #[.string ⟨#[105, 100]⟩, .string ⟨#[101, 114, 114, 111, 114]⟩] 9 (0, 0)) ∧ mb + 1 < g0) ∧ (W.heap[g13]? = some (.cells #[.int .i64 2, .int .i64 i, .string ⟨#[]⟩, .slice none 0 0, .slice none 0 0, .int .i64 5, .int .i64 0, .string ⟨#[]⟩, .slice (some ⟨g4, 0, none⟩) 2 2, .slice (some ⟨g11, 0, none⟩) 2 2] 25 (0, 0)) ∧ mb + 1 < g13) ∧ (W.heap[g4]? = some (.cells #[.string ⟨#[99, 111, 100, 101]⟩, .string ⟨#[109, 101, 115, 115, 97, 103, 101]⟩] 9 (0, 0)) ∧ mb + 1 < g4) ∧ (W.heap[g11]? = some (.cells #[.int .i64 2, .int .i64 c, .string ⟨#[]⟩, .slice none 0 0, .slice none 0 0, .int .i64 3, .int .i64 0, .string t, .slice none 0 0, .slice none 0 0] 25 (0, 0)) ∧ mb + 1 < g11)
      | _ => True) (fun _ _ _ => True) (by kernel_rfl) (by kernel_rfl) (by kernel_rfl) (fun _ => trivial) ?_ ?_ ?_
  · intro j v W W2 hcw hR
    match j, hR with
    | 0, hR => obtain ⟨g0, h1, f0⟩ := hR; exact ⟨g0, h1, kp1 hcw f0⟩
    | 1, hR => exact hR
    | 2, hR => exact hR
    | 3, hR => exact hR
    | 4, hR => obtain ⟨g4, h1, f4⟩ := hR; exact ⟨g4, h1, kp1 hcw f4⟩
    | 5, hR => exact hR
    | 6, hR => exact hR
    | 7, hR => exact hR
    | 8, hR => exact hR
    | 9, hR => exact hR
    | 10, hR => exact hR
    | 11, hR => obtain ⟨g11, h1, f11⟩ := hR; exact ⟨g11, h1, kp1 hcw f11⟩
    | 12, hR => obtain ⟨g4, g11, h1, f4, f11⟩ := hR; exact ⟨g4, g11, h1, kp1 hcw f4, kp1 hcw f11⟩
    | 13, hR => obtain ⟨g13, g4, g11, h1, f13, f4, f11⟩ := hR; exact ⟨g13, g4, g11, h1, kp1 hcw f13, kp1 hcw f4, kp1 hcw f11⟩
    | 14, hR => obtain ⟨g0, g13, g4, g11, h1, f0, f13, f4, f11⟩ := hR; exact ⟨g0, g13, g4, g11, h1, kp1 hcw f0, kp1 hcw f13, kp1 hcw f4, kp1 hcw f11⟩
    | (j + 15), hR => exact trivial
  · intro q o ho hn listed u W hun hall hd hc hG K hK
    match q, ho, hn, hun, hd, hK with
    | 0, ho, _, hun, hd, hK =>
      cases ho
      simp only [List.getElem_toArray, List.getElem_cons_zero, List.getElem_cons_succ]
      simp only [putU, Nat.reduceAdd, Act.put, List.setIfInBounds_toArray, List.set_cons_zero, List.set_cons_succ]
      have hS := HS.out W (Hw3.out.trans ((show Chg [] w3 w3.drew from (Chg.refl _ _).drew).trans hc)) (fun g hg => hc.block g hg (by simp))
      have m1 := hS.1
      have m2 := hS.2.1
      have m3 := hS.2.2.1
      have b0 := hS.2.2.2.1
      have b1 := hS.2.2.2.2.1
      have b2 := hS.2.2.2.2.2.1
      have b3 := hS.2.2.2.2.2.2.1
      have b4 := hS.2.2.2.2.2.2.2
      clear hS
      go_simp
      have hcw : Chg [] W (W.alloc (.cells #[.string ⟨#[105, 100]⟩, .string ⟨#[101, 114, 114, 111, 114]⟩] 9)) := (Chg.refl _ _).alloc _
      have hgt : mb + 1 < W.heap.size := Nat.lt_of_lt_of_le Hlt.out (Nat.le_trans (show w3.heap.size ≤ w3.drew.heap.size from Nat.le_refl _) hc.size)
      have hk := hK _ _ hcw ⟨W.heap.size, rfl, ⟨heap_at _ _ _ rfl, hgt⟩⟩ trivial
      simp only [putU, Nat.reduceAdd, Act.put, List.setIfInBounds_toArray, List.set_cons_zero, List.set_cons_succ, List.getElem_toArray, List.getElem_cons_zero, List.getElem_cons_succ] at hk
      exact hk
    | 1, ho, _, hun, hd, hK =>
      cases ho
      simp only [List.getElem_toArray, List.getElem_cons_zero, List.getElem_cons_succ]
      simp only [putU, Nat.reduceAdd, Act.put, List.setIfInBounds_toArray, List.set_cons_zero, List.set_cons_succ]
      have hS := HS.out W (Hw3.out.trans ((show Chg [] w3 w3.drew from (Chg.refl _ _).drew).trans hc)) (fun g hg => hc.block g hg (by simp))
      have m1 := hS.1
      have m2 := hS.2.1
      have m3 := hS.2.2.1
      have b0 := hS.2.2.2.1
      have b1 := hS.2.2.2.2.1
      have b2 := hS.2.2.2.2.2.1
      have b3 := hS.2.2.2.2.2.2.1
      have b4 := hS.2.2.2.2.2.2.2
      clear hS
      go_simp
      have hk := hK _ _ (Chg.refl [] W) rfl trivial
      simp only [putU, Nat.reduceAdd, Act.put, List.setIfInBounds_toArray, List.set_cons_zero, List.set_cons_succ, List.getElem_toArray, List.getElem_cons_zero, List.getElem_cons_succ] at hk
      exact hk
    | 2, ho, _, hun, hd, hK =>
      cases ho
      simp only [List.getElem_toArray, List.getElem_cons_zero, List.getElem_cons_succ]
      have h1 : u 1 = .pointer (some ⟨mb, 1, none⟩) := hd 1 (by kernel_rfl) (by decide)
      simp only [putU, Nat.reduceAdd, Act.put, List.setIfInBounds_toArray, List.set_cons_zero, List.set_cons_succ, h1]
      have hS := HS.out W (Hw3.out.trans ((show Chg [] w3 w3.drew from (Chg.refl _ _).drew).trans hc)) (fun g hg => hc.block g hg (by simp))
      have m1 := hS.1
      have m2 := hS.2.1
      have m3 := hS.2.2.1
      have b0 := hS.2.2.2.1
      have b1 := hS.2.2.2.2.1
      have b2 := hS.2.2.2.2.2.1
      have b3 := hS.2.2.2.2.2.2.1
      have b4 := hS.2.2.2.2.2.2.2
      clear hS
      go_simp
      have hk := hK _ _ (Chg.refl [] W) rfl trivial
      simp only [putU, Nat.reduceAdd, Act.put, List.setIfInBounds_toArray, List.set_cons_zero, List.set_cons_succ, List.getElem_toArray, List.getElem_cons_zero, List.getElem_cons_succ, h1] at hk
      exact hk
    | 3, ho, _, hun, hd, hK =>
      cases ho
      simp only [List.getElem_toArray, List.getElem_cons_zero, List.getElem_cons_succ]
      have h2 : u 2 = .int .i64 i := hd 2 (by kernel_rfl) (by decide)
      simp only [putU, Nat.reduceAdd, Act.put, List.setIfInBounds_toArray, List.set_cons_zero, List.set_cons_succ, h2]
      have hS := HS.out W (Hw3.out.trans ((show Chg [] w3 w3.drew from (Chg.refl _ _).drew).trans hc)) (fun g hg => hc.block g hg (by simp))
      have m1 := hS.1
      have m2 := hS.2.1
      have m3 := hS.2.2.1
      have b0 := hS.2.2.2.1
      have b1 := hS.2.2.2.2.1
      have b2 := hS.2.2.2.2.2.1
      have b3 := hS.2.2.2.2.2.2.1
      have b4 := hS.2.2.2.2.2.2.2
      clear hS
      go_simp
      refine (number_any i W).mono ?_
      rintro e X ⟨rfl, hcx⟩
      have hk := hK _ _ hcx rfl trivial
      simp only [putU, Nat.reduceAdd, Act.put, List.setIfInBounds_toArray, List.set_cons_zero, List.set_cons_succ, List.getElem_toArray, List.getElem_cons_zero, List.getElem_cons_succ, h2] at hk
      exact hk
    | 4, ho, _, hun, hd, hK =>
      cases ho
      simp only [List.getElem_toArray, List.getElem_cons_zero, List.getElem_cons_succ]
      simp only [putU, Nat.reduceAdd, Act.put, List.setIfInBounds_toArray, List.set_cons_zero, List.set_cons_succ]
      have hS := HS.out W (Hw3.out.trans ((show Chg [] w3 w3.drew from (Chg.refl _ _).drew).trans hc)) (fun g hg => hc.block g hg (by simp))
      have m1 := hS.1
      have m2 := hS.2.1
      have m3 := hS.2.2.1
      have b0 := hS.2.2.2.1
      have b1 := hS.2.2.2.2.1
      have b2 := hS.2.2.2.2.2.1
      have b3 := hS.2.2.2.2.2.2.1
      have b4 := hS.2.2.2.2.2.2.2
      clear hS
      go_simp
      have hcw : Chg [] W (W.alloc (.cells #[.string ⟨#[99, 111, 100, 101]⟩, .string ⟨#[109, 101, 115, 115, 97, 103, 101]⟩] 9)) := (Chg.refl _ _).alloc _
      have hgt : mb + 1 < W.heap.size := Nat.lt_of_lt_of_le Hlt.out (Nat.le_trans (show w3.heap.size ≤ w3.drew.heap.size from Nat.le_refl _) hc.size)
      have hk := hK _ _ hcw ⟨W.heap.size, rfl, ⟨heap_at _ _ _ rfl, hgt⟩⟩ trivial
      simp only [putU, Nat.reduceAdd, Act.put, List.setIfInBounds_toArray, List.set_cons_zero, List.set_cons_succ, List.getElem_toArray, List.getElem_cons_zero, List.getElem_cons_succ] at hk
      exact hk
    | 5, ho, _, hun, hd, hK =>
      cases ho
      simp only [List.getElem_toArray, List.getElem_cons_zero, List.getElem_cons_succ]
      simp only [putU, Nat.reduceAdd, Act.put, List.setIfInBounds_toArray, List.set_cons_zero, List.set_cons_succ]
      have hS := HS.out W (Hw3.out.trans ((show Chg [] w3 w3.drew from (Chg.refl _ _).drew).trans hc)) (fun g hg => hc.block g hg (by simp))
      have m1 := hS.1
      have m2 := hS.2.1
      have m3 := hS.2.2.1
      have b0 := hS.2.2.2.1
      have b1 := hS.2.2.2.2.1
      have b2 := hS.2.2.2.2.2.1
      have b3 := hS.2.2.2.2.2.2.1
      have b4 := hS.2.2.2.2.2.2.2
      clear hS
      go_simp
      have hk := hK _ _ (Chg.refl [] W) rfl trivial
      simp only [putU, Nat.reduceAdd, Act.put, List.setIfInBounds_toArray, List.set_cons_zero, List.set_cons_succ, List.getElem_toArray, List.getElem_cons_zero, List.getElem_cons_succ] at hk
      exact hk
    | 6, ho, _, hun, hd, hK =>
      cases ho
      simp only [List.getElem_toArray, List.getElem_cons_zero, List.getElem_cons_succ]
      have h5 : u 5 = .pointer (some ⟨mb, 2, none⟩) := hd 5 (by kernel_rfl) (by decide)
      simp only [putU, Nat.reduceAdd, Act.put, List.setIfInBounds_toArray, List.set_cons_zero, List.set_cons_succ, h5]
      have hS := HS.out W (Hw3.out.trans ((show Chg [] w3 w3.drew from (Chg.refl _ _).drew).trans hc)) (fun g hg => hc.block g hg (by simp))
      have m1 := hS.1
      have m2 := hS.2.1
      have m3 := hS.2.2.1
      have b0 := hS.2.2.2.1
      have b1 := hS.2.2.2.2.1
      have b2 := hS.2.2.2.2.2.1
      have b3 := hS.2.2.2.2.2.2.1
      have b4 := hS.2.2.2.2.2.2.2
      clear hS
      go_simp
      have hk := hK _ _ (Chg.refl [] W) rfl trivial
      simp only [putU, Nat.reduceAdd, Act.put, List.setIfInBounds_toArray, List.set_cons_zero, List.set_cons_succ, List.getElem_toArray, List.getElem_cons_zero, List.getElem_cons_succ, h5] at hk
      exact hk
    | 7, ho, _, hun, hd, hK =>
      cases ho
      simp only [List.getElem_toArray, List.getElem_cons_zero, List.getElem_cons_succ]
      have h6 : u 6 = .int .i64 c := hd 6 (by kernel_rfl) (by decide)
      simp only [putU, Nat.reduceAdd, Act.put, List.setIfInBounds_toArray, List.set_cons_zero, List.set_cons_succ, h6]
      have hS := HS.out W (Hw3.out.trans ((show Chg [] w3 w3.drew from (Chg.refl _ _).drew).trans hc)) (fun g hg => hc.block g hg (by simp))
      have m1 := hS.1
      have m2 := hS.2.1
      have m3 := hS.2.2.1
      have b0 := hS.2.2.2.1
      have b1 := hS.2.2.2.2.1
      have b2 := hS.2.2.2.2.2.1
      have b3 := hS.2.2.2.2.2.2.1
      have b4 := hS.2.2.2.2.2.2.2
      clear hS
      go_simp
      refine (number_any c W).mono ?_
      rintro e X ⟨rfl, hcx⟩
      have hk := hK _ _ hcx rfl trivial
      simp only [putU, Nat.reduceAdd, Act.put, List.setIfInBounds_toArray, List.set_cons_zero, List.set_cons_succ, List.getElem_toArray, List.getElem_cons_zero, List.getElem_cons_succ, h6] at hk
      exact hk
    | 8, ho, _, hun, hd, hK =>
      cases ho
      simp only [List.getElem_toArray, List.getElem_cons_zero, List.getElem_cons_succ]
      simp only [putU, Nat.reduceAdd, Act.put, List.setIfInBounds_toArray, List.set_cons_zero, List.set_cons_succ]
      have hS := HS.out W (Hw3.out.trans ((show Chg [] w3 w3.drew from (Chg.refl _ _).drew).trans hc)) (fun g hg => hc.block g hg (by simp))
      have m1 := hS.1
      have m2 := hS.2.1
      have m3 := hS.2.2.1
      have b0 := hS.2.2.2.1
      have b1 := hS.2.2.2.2.1
      have b2 := hS.2.2.2.2.2.1
      have b3 := hS.2.2.2.2.2.2.1
      have b4 := hS.2.2.2.2.2.2.2
      clear hS
      go_simp
      have hk := hK _ _ (Chg.refl [] W) rfl trivial
      simp only [putU, Nat.reduceAdd, Act.put, List.setIfInBounds_toArray, List.set_cons_zero, List.set_cons_succ, List.getElem_toArray, List.getElem_cons_zero, List.getElem_cons_succ] at hk
      exact hk
    | 9, ho, _, hun, hd, hK =>
      cases ho
      simp only [List.getElem_toArray, List.getElem_cons_zero, List.getElem_cons_succ]
      have h8 : u 8 = .pointer (some ⟨mb, 3, none⟩) := hd 8 (by kernel_rfl) (by decide)
      simp only [putU, Nat.reduceAdd, Act.put, List.setIfInBounds_toArray, List.set_cons_zero, List.set_cons_succ, h8]
      have hS := HS.out W (Hw3.out.trans ((show Chg [] w3 w3.drew from (Chg.refl _ _).drew).trans hc)) (fun g hg => hc.block g hg (by simp))
      have m1 := hS.1
      have m2 := hS.2.1
      have m3 := hS.2.2.1
      have b0 := hS.2.2.2.1
      have b1 := hS.2.2.2.2.1
      have b2 := hS.2.2.2.2.2.1
      have b3 := hS.2.2.2.2.2.2.1
      have b4 := hS.2.2.2.2.2.2.2
      clear hS
      go_simp
      have hk := hK _ _ (Chg.refl [] W) rfl trivial
      simp only [putU, Nat.reduceAdd, Act.put, List.setIfInBounds_toArray, List.set_cons_zero, List.set_cons_succ, List.getElem_toArray, List.getElem_cons_zero, List.getElem_cons_succ, h8] at hk
      exact hk
    | 10, ho, _, hun, hd, hK =>
      cases ho
      simp only [List.getElem_toArray, List.getElem_cons_zero, List.getElem_cons_succ]
      have h9 : u 9 = .string t := hd 9 (by kernel_rfl) (by decide)
      simp only [putU, Nat.reduceAdd, Act.put, List.setIfInBounds_toArray, List.set_cons_zero, List.set_cons_succ, h9]
      have hS := HS.out W (Hw3.out.trans ((show Chg [] w3 w3.drew from (Chg.refl _ _).drew).trans hc)) (fun g hg => hc.block g hg (by simp))
      have m1 := hS.1
      have m2 := hS.2.1
      have m3 := hS.2.2.1
      have b0 := hS.2.2.2.1
      have b1 := hS.2.2.2.2.1
      have b2 := hS.2.2.2.2.2.1
      have b3 := hS.2.2.2.2.2.2.1
      have b4 := hS.2.2.2.2.2.2.2
      clear hS
      go_simp
      refine (textV_any t W).mono ?_
      rintro e X ⟨rfl, hcx⟩
      have hk := hK _ _ hcx rfl trivial
      simp only [putU, Nat.reduceAdd, Act.put, List.setIfInBounds_toArray, List.set_cons_zero, List.set_cons_succ, List.getElem_toArray, List.getElem_cons_zero, List.getElem_cons_succ, h9] at hk
      exact hk
    | 11, ho, _, hun, hd, hK =>
      cases ho
      simp only [List.getElem_toArray, List.getElem_cons_zero, List.getElem_cons_succ]
      have h7 : u 7 = .agg #[.int .i64 2, .int .i64 c, .string ⟨#[]⟩, .slice none 0 0, .slice none 0 0] := hd 7 (by kernel_rfl) (by decide)
      have h10 : u 10 = .agg #[.int .i64 3, .int .i64 0, .string t, .slice none 0 0, .slice none 0 0] := hd 10 (by kernel_rfl) (by decide)
      simp only [putU, Nat.reduceAdd, Act.put, List.setIfInBounds_toArray, List.set_cons_zero, List.set_cons_succ, h7, h10]
      have hS := HS.out W (Hw3.out.trans ((show Chg [] w3 w3.drew from (Chg.refl _ _).drew).trans hc)) (fun g hg => hc.block g hg (by simp))
      have m1 := hS.1
      have m2 := hS.2.1
      have m3 := hS.2.2.1
      have b0 := hS.2.2.2.1
      have b1 := hS.2.2.2.2.1
      have b2 := hS.2.2.2.2.2.1
      have b3 := hS.2.2.2.2.2.2.1
      have b4 := hS.2.2.2.2.2.2.2
      clear hS
      go_simp
      have hcw : Chg [] W (W.alloc (.cells #[.int .i64 2, .int .i64 c, .string ⟨#[]⟩, .slice none 0 0, .slice none 0 0, .int .i64 3, .int .i64 0, .string t, .slice none 0 0, .slice none 0 0] 25)) := (Chg.refl _ _).alloc _
      have hgt : mb + 1 < W.heap.size := Nat.lt_of_lt_of_le Hlt.out (Nat.le_trans (show w3.heap.size ≤ w3.drew.heap.size from Nat.le_refl _) hc.size)
      have hk := hK _ _ hcw ⟨W.heap.size, rfl, ⟨heap_at _ _ _ rfl, hgt⟩⟩ trivial
      simp only [putU, Nat.reduceAdd, Act.put, List.setIfInBounds_toArray, List.set_cons_zero, List.set_cons_succ, List.getElem_toArray, List.getElem_cons_zero, List.getElem_cons_succ, h7, h10] at hk
      exact hk
    | 12, ho, _, hun, hd, hK =>
      cases ho
      simp only [List.getElem_toArray, List.getElem_cons_zero, List.getElem_cons_succ]
      have h4 : ∃ g4, u 4 = .slice (some ⟨g4, 0, none⟩) 2 2 ∧ (W.heap[g4]? = some (.cells #[.string ⟨#[99, 111, 100, 101]⟩, .string ⟨#[109, 101, 115, 115, 97, 103, 101]⟩] 9 (0, 0)) ∧ mb + 1 < g4) := hd 4 (by kernel_rfl) (by decide)
      obtain ⟨g4, h4, f4⟩ := h4
      have h11 : ∃ g11, u 11 = .slice (some ⟨g11, 0, none⟩) 2 2 ∧ (W.heap[g11]? = some (.cells #[.int .i64 2, .int .i64 c, .string ⟨#[]⟩, .slice none 0 0, .slice none 0 0, .int .i64 3, .int .i64 0, .string t, .slice none 0 0, .slice none 0 0] 25 (0, 0)) ∧ mb + 1 < g11) := hd 11 (by kernel_rfl) (by decide)
      obtain ⟨g11, h11, f11⟩ := h11
      simp only [putU, Nat.reduceAdd, Act.put, List.setIfInBounds_toArray, List.set_cons_zero, List.set_cons_succ, h4, h11]
      have hS := HS.out W (Hw3.out.trans ((show Chg [] w3 w3.drew from (Chg.refl _ _).drew).trans hc)) (fun g hg => hc.block g hg (by simp))
      have m1 := hS.1
      have m2 := hS.2.1
      have m3 := hS.2.2.1
      have b0 := hS.2.2.2.1
      have b1 := hS.2.2.2.2.1
      have b2 := hS.2.2.2.2.2.1
      have b3 := hS.2.2.2.2.2.2.1
      have b4 := hS.2.2.2.2.2.2.2
      clear hS
      go_simp
      refine (object_any (some ⟨g4, 0, none⟩) (some ⟨g11, 0, none⟩) 2 2 2 2 W).mono ?_
      rintro e X ⟨rfl, hcx⟩
      have hk := hK _ _ hcx ⟨g4, g11, rfl, kp1 hcx f4, kp1 hcx f11⟩ trivial
      simp only [putU, Nat.reduceAdd, Act.put, List.setIfInBounds_toArray, List.set_cons_zero, List.set_cons_succ, List.getElem_toArray, List.getElem_cons_zero, List.getElem_cons_succ, h4, h11] at hk
      exact hk
    | 13, ho, _, hun, hd, hK =>
      cases ho
      simp only [List.getElem_toArray, List.getElem_cons_zero, List.getElem_cons_succ]
      have h3 : u 3 = .agg #[.int .i64 2, .int .i64 i, .string ⟨#[]⟩, .slice none 0 0, .slice none 0 0] := hd 3 (by kernel_rfl) (by decide)
      have h12 : ∃ g4 g11, u 12 = .agg #[.int .i64 5, .int .i64 0, .string ⟨#[]⟩, .slice (some ⟨g4, 0, none⟩) 2 2, .slice (some ⟨g11, 0, none⟩) 2 2] ∧ (W.heap[g4]? = some (.cells #[.string ⟨#[99, 111, 100, 101]⟩, .string ⟨#[109, 101, 115, 115, 97, 103, 101]⟩] 9 (0, 0)) ∧ mb + 1 < g4) ∧ (W.heap[g11]? = some (.cells #[.int .i64 2, .int .i64 c, .string ⟨#[]⟩, .slice none 0 0, .slice none 0 0, .int .i64 3, .int .i64 0, .string t, .slice none 0 0, .slice none 0 0] 25 (0, 0)) ∧ mb + 1 < g11) := hd 12 (by kernel_rfl) (by decide)
      obtain ⟨g4, g11, h12, f4, f11⟩ := h12
      simp only [putU, Nat.reduceAdd, Act.put, List.setIfInBounds_toArray, List.set_cons_zero, List.set_cons_succ, h3, h12]
      have hS := HS.out W (Hw3.out.trans ((show Chg [] w3 w3.drew from (Chg.refl _ _).drew).trans hc)) (fun g hg => hc.block g hg (by simp))
      have m1 := hS.1
      have m2 := hS.2.1
      have m3 := hS.2.2.1
      have b0 := hS.2.2.2.1
      have b1 := hS.2.2.2.2.1
      have b2 := hS.2.2.2.2.2.1
      have b3 := hS.2.2.2.2.2.2.1
      have b4 := hS.2.2.2.2.2.2.2
      clear hS
      go_simp
      have hcw : Chg [] W (W.alloc (.cells #[.int .i64 2, .int .i64 i, .string ⟨#[]⟩, .slice none 0 0, .slice none 0 0, .int .i64 5, .int .i64 0, .string ⟨#[]⟩, .slice (some ⟨g4, 0, none⟩) 2 2, .slice (some ⟨g11, 0, none⟩) 2 2] 25)) := (Chg.refl _ _).alloc _
      have hgt : mb + 1 < W.heap.size := Nat.lt_of_lt_of_le Hlt.out (Nat.le_trans (show w3.heap.size ≤ w3.drew.heap.size from Nat.le_refl _) hc.size)
      have hk := hK _ _ hcw ⟨W.heap.size, g4, g11, rfl, ⟨heap_at _ _ _ rfl, hgt⟩, kp1 hcw f4, kp1 hcw f11⟩ trivial
      simp only [putU, Nat.reduceAdd, Act.put, List.setIfInBounds_toArray, List.set_cons_zero, List.set_cons_succ, List.getElem_toArray, List.getElem_cons_zero, List.getElem_cons_succ, h3, h12] at hk
      exact hk
    | 14, ho, _, hun, hd, hK =>
      cases ho
      simp only [List.getElem_toArray, List.getElem_cons_zero, List.getElem_cons_succ]
      have h0 : ∃ g0, u 0 = .slice (some ⟨g0, 0, none⟩) 2 2 ∧ (W.heap[g0]? = some (.cells #[.string ⟨#[105, 100]⟩, .string ⟨#[101, 114, 114, 111, 114]⟩] 9 (0, 0)) ∧ mb + 1 < g0) := hd 0 (by kernel_rfl) (by decide)
      obtain ⟨g0, h0, f0⟩ := h0
      have h13 : ∃ g13 g4 g11, u 13 = .slice (some ⟨g13, 0, none⟩) 2 2 ∧ (W.heap[g13]? = some (.cells #[.int .i64 2, .int .i64 i, .string ⟨#[]⟩, .slice none 0 0, .slice none 0 0, .int .i64 5, .int .i64 0, .string ⟨#[]⟩, .slice (some ⟨g4, 0, none⟩) 2 2, .slice (some ⟨g11, 0, none⟩) 2 2] 25 (0, 0)) ∧ mb + 1 < g13) ∧ (W.heap[g4]? = some (.cells #[.string ⟨#[99, 111, 100, 101]⟩, .string ⟨#[109, 101, 115, 115, 97, 103, 101]⟩] 9 (0, 0)) ∧ mb + 1 < g4) ∧ (W.heap[g11]? = some (.cells #[.int .i64 2, .int .i64 c, .string ⟨#[]⟩, .slice none 0 0, .slice none 0 0, .int .i64 3, .int .i64 0, .string t, .slice none 0 0, .slice none 0 0] 25 (0, 0)) ∧ mb + 1 < g11) := hd 13 (by kernel_rfl) (by decide)
      obtain ⟨g13, g4, g11, h13, f13, f4, f11⟩ := h13
      simp only [putU, Nat.reduceAdd, Act.put, List.setIfInBounds_toArray, List.set_cons_zero, List.set_cons_succ, h0, h13]
      have hS := HS.out W (Hw3.out.trans ((show Chg [] w3 w3.drew from (Chg.refl _ _).drew).trans hc)) (fun g hg => hc.block g hg (by simp))
      have m1 := hS.1
      have m2 := hS.2.1
      have m3 := hS.2.2.1
      have b0 := hS.2.2.2.1
      have b1 := hS.2.2.2.2.1
      have b2 := hS.2.2.2.2.2.1
      have b3 := hS.2.2.2.2.2.2.1
      have b4 := hS.2.2.2.2.2.2.2
      clear hS
      go_simp
      refine (object_any (some ⟨g0, 0, none⟩) (some ⟨g13, 0, none⟩) 2 2 2 2 W).mono ?_
      rintro e X ⟨rfl, hcx⟩
      have hk := hK _ _ hcx ⟨g0, g13, g4, g11, rfl, kp1 hcx f0, kp1 hcx f13, kp1 hcx f4, kp1 hcx f11⟩ trivial
      simp only [putU, Nat.reduceAdd, Act.put, List.setIfInBounds_toArray, List.set_cons_zero, List.set_cons_succ, List.getElem_toArray, List.getElem_cons_zero, List.getElem_cons_succ, h0, h13] at hk
      exact hk
    | (q + 15), _, hn, _, _, _ => exact absurd hn (by omega)
  · intro u W hc hR hG
    have h14 : ∃ g0 g13 g4 g11, u 14 = .agg #[.int .i64 5, .int .i64 0, .string ⟨#[]⟩, .slice (some ⟨g0, 0, none⟩) 2 2, .slice (some ⟨g13, 0, none⟩) 2 2] ∧ (W.heap[g0]? = some (.cells #[.string ⟨#[105, 100]⟩, .string ⟨#[101, 114, 114, 111, 114]⟩] 9 (0, 0)) ∧ mb + 1 < g0) ∧ (W.heap[g13]? = some (.cells #[.int .i64 2, .int .i64 i, .string ⟨#[]⟩, .slice none 0 0, .slice none 0 0, .int .i64 5, .int .i64 0, .string ⟨#[]⟩, .slice (some ⟨g4, 0, none⟩) 2 2, .slice (some ⟨g11, 0, none⟩) 2 2] 25 (0, 0)) ∧ mb + 1 < g13) ∧ (W.heap[g4]? = some (.cells #[.string ⟨#[99, 111, 100, 101]⟩, .string ⟨#[109, 101, 115, 115, 97, 103, 101]⟩] 9 (0, 0)) ∧ mb + 1 < g4) ∧ (W.heap[g11]? = some (.cells #[.int .i64 2, .int .i64 c, .string ⟨#[]⟩, .slice none 0 0, .slice none 0 0, .int .i64 3, .int .i64 0, .string t, .slice none 0 0, .slice none 0 0] 25 (0, 0)) ∧ mb + 1 < g11) := hR 14 (by decide)
    obtain ⟨g0, g13, g4, g11, h14, f0, f13, f4, f11⟩ := h14
    have hcW := Hw3.out.trans ((show Chg [] w3 w3.drew from (Chg.refl _ _).drew).trans hc)
    have Hend3 := Lib.hid ((show Chg [] w3 w3.drew from (Chg.refl _ _).drew).trans hc)
    have hr3 := (hcW.block (mb + 1) (lt_of_obj Hr1.out) (by simp)).trans Hr1.out
    obtain ⟨r0, r1, r2, r3, r4⟩ := box_kept (mb + 1) hr3 (Chg.refl [] W)
    have fr := fun i => frozen_of_heap (i := i) hr3
    have lr := lt_of_cell r0
    simp only [putU, Nat.reduceAdd, Act.put, List.setIfInBounds_toArray, List.set_cons_zero, List.set_cons_succ, h14]
    refine anyU_one (k := 15) (by kernel_rfl) rfl (fun K hK => ?_)
    go_simp
    refine hK _ _ (fun _ => trivial) trivial ?_
    clear hK K
    refine anyU_done (by kernel_rfl) ?_
    have Hend := Lib.hid hcW
    have F0 := Lib.hid f0
    have F13 := Lib.hid f13
    have F4 := Lib.hid f4
    have F11 := Lib.hid f11
    clear hcW f0 f13 f4 f11 hc hR hG hr3
    go_wp2_with fail
    refine bodyPost_ret (v := .agg #[.int .i64 5, .int .i64 0, .string ⟨#[]⟩, .slice (some ⟨g0, 0, none⟩) 2 2, .slice (some ⟨g13, 0, none⟩) 2 2]) (by simp [results, Tryd.results33, go_sem, r0, r1, r2, r3, r4]) rfl ?_
    have hcs := st5_chg W (mb + 1) 0 ⟨5, 0, ⟨#[]⟩, some ⟨g0, 0, none⟩, 2, 2, some ⟨g13, 0, none⟩, 2, 2⟩
    have hbd := Hbody.out W Hend.out hcs Hend3.out
    show ToPostB (.mk 5 0 ⟨#[]⟩ [⟨#[105, 100]⟩, ⟨#[101, 114, 114, 111, 114]⟩] [(.mk 2 i ⟨#[]⟩ [] []), (.mk 5 0 ⟨#[]⟩ [⟨#[99, 111, 100, 101]⟩, ⟨#[109, 101, 115, 115, 97, 103, 101]⟩] [(.mk 2 c ⟨#[]⟩ [] []), (.mk 3 0 t [] [])])]) w _ (st5 W (mb + 1) 0 ⟨5, 0, ⟨#[]⟩, some ⟨g0, 0, none⟩, 2, 2, some ⟨g13, 0, none⟩, 2, 2⟩)
    generalize st5 W (mb + 1) 0 ⟨5, 0, ⟨#[]⟩, some ⟨g0, 0, none⟩, 2, 2, some ⟨g13, 0, none⟩, 2, 2⟩ = X at hcs hbd ⊢
    exact toB4_end (i := i) (c := c) Hts.out ((hcs.block g0 (lt_of_obj F0.out.1) (by have := F0.out.2; simp; omega)).trans F0.out.1) ((hcs.block g13 (lt_of_obj F13.out.1) (by have := F13.out.2; simp; omega)).trans F13.out.1) ((hcs.block g4 (lt_of_obj F4.out.1) (by have := F4.out.2; simp; omega)).trans F4.out.1) ((hcs.block g11 (lt_of_obj F11.out.1) (by have := F11.out.2; simp; omega)).trans F11.out.1) (by have := F0.out.2; omega) (by have := F13.out.2; omega) (by have := F4.out.2; omega) (by have := F11.out.2; omega) Hmb.out hbd ((HcA.out.trans Hend.out).comp hcs fun g hg => Or.inr (by have := List.mem_singleton.1 hg; have := Hmb.out; omega))
theorem toB5_end {mb f : Nat} {i c ek en : Int} {t et : ByteArray} {ena eia : Option Addr} {enl enc eil eic : Nat} {b : J} {w W : World} {g0 g8 g2 g6 : Nat} (ht : t.size ≤ maxLen) (q0 : W.heap[g0]? = some (.cells #[.string ⟨#[109, 101, 116, 104, 111, 100]⟩, .string ⟨#[112, 97, 114, 97, 109, 115]⟩] 9 (0, 0))) (q8 : W.heap[g8]? = some (.cells #[.int .i64 3, .int .i64 0, .string ⟨#[36, 47, 99, 97, 110, 99, 101, 108]⟩, .slice none 0 0, .slice none 0 0, .int .i64 5, .int .i64 0, .string ⟨#[]⟩, .slice (some ⟨g2, 0, none⟩) 1 1, .slice (some ⟨g6, 0, none⟩) 1 1] 25 (0, 0))) (q2 : W.heap[g2]? = some (.cells #[.string ⟨#[105, 100]⟩] 9 (0, 0))) (q6 : W.heap[g6]? = some (.cells #[.int .i64 2, .int .i64 i, .string ⟨#[]⟩, .slice none 0 0, .slice none 0 0] 25 (0, 0))) (l0 : mb ≤ g0) (l8 : mb ≤ g8) (l2 : mb ≤ g2) (l6 : mb ≤ g6) (hm : mb = w.heap.size) (hb : JN w.heap.size f W (Ev.val ⟨ek, en, et, ena, enl, enc, eia, eil, eic⟩) b) (hc : Chg [] w W) :
    ToPostB (.mk 5 0 ⟨#[]⟩ [⟨#[109, 101, 116, 104, 111, 100]⟩, ⟨#[112, 97, 114, 97, 109, 115]⟩] [(.mk 3 0 ⟨#[36, 47, 99, 97, 110, 99, 101, 108]⟩ [] []), (.mk 5 0 ⟨#[]⟩ [⟨#[105, 100]⟩] [(.mk 2 i ⟨#[]⟩ [] [])])]) w (.returned (.agg #[.int .i64 5, .int .i64 0, .string ⟨#[]⟩, .slice (some ⟨g0, 0, none⟩) 2 2, .slice (some ⟨g8, 0, none⟩) 2 2])) W :=
  ⟨_, _, rfl, JN.mk (nms_2 q0 (by omega) (by decide) (by decide)) (els_2 (f := (f + 1) + 1) (lt_of_obj q8) (by omega) (rd_leaf (cell_of_heap q8 rfl) (cell_of_heap q8 rfl) (cell_of_heap q8 rfl) (cell_of_heap q8 rfl) (cell_of_heap q8 rfl) (by decide)) (rd_obj (cell_of_heap q8 rfl) (cell_of_heap q8 rfl) (cell_of_heap q8 rfl) (cell_of_heap q8 rfl) (cell_of_heap q8 rfl) (nms_1 q2 (by omega) (by decide)) (els_1 (f := f + 1) (lt_of_obj q6) (by omega) (rd_leaf (cell_of_heap q6 rfl) (cell_of_heap q6 rfl) (cell_of_heap q6 rfl) (cell_of_heap q6 rfl) (cell_of_heap q6 rfl) (by decide))))) (by decide), hc⟩
set_option maxRecDepth 100000 in
set_option maxHeartbeats 16000000 in
theorem toB5 (p : Nat → Prop) (f : Nat) (i c : Int) (t : ByteArray) (e : Ev) (b : J) (w : World) (ht : t.size ≤ maxLen) (hb : JV p f w e.val b) (hs : Sm b) : Calls Tryd.prog 33 #[mB 5 i c t e] w (ToPostB (.mk 5 0 ⟨#[]⟩ [⟨#[109, 101, 116, 104, 111, 100]⟩, ⟨#[112, 97, 114, 97, 109, 115]⟩] [(.mk 3 0 ⟨#[36, 47, 99, 97, 110, 99, 101, 108]⟩ [] []), (.mk 5 0 ⟨#[]⟩ [⟨#[105, 100]⟩] [(.mk 2 i ⟨#[]⟩ [] [])])]) w) := by
  obtain ⟨xk, xn, xt, xna, xnl, xnc, xia, xil, xic⟩ := e
  unfold mB
  unfold Ev.val at hb
  simp only at hb ⊢
  obtain ⟨w1, hw1⟩ : ∃ x, x = (w.alloc (.cells #[.int .i64 5, .int .i64 i, .int .i64 c, .string t, .int .i64 xk, .int .i64 xn, .string xt, .slice xna xnl xnc, .slice xia xil xic] 27)).alloc (.cells #[.int .i64 0, .int .i64 0, .string ⟨#[]⟩, .slice none 0 0, .slice none 0 0] 25) := ⟨_, rfl⟩
  obtain ⟨mb, hmb⟩ : ∃ x, x = w.heap.size := ⟨_, rfl⟩
  have hc1 : Chg [] w w1 := by rw [hw1]; exact ((Chg.refl _ _).alloc _).alloc _
  have hm1 : w1.heap[mb]? = some (.cells #[.int .i64 5, .int .i64 i, .int .i64 c, .string t, .int .i64 xk, .int .i64 xn, .string xt, .slice xna xnl xnc, .slice xia xil xic] 27 (0, 0)) := by
    rw [hw1, hmb, heap_past _ _ _ (by simp)]
    exact heap_at _ _ _ rfl
  have hr1 : w1.heap[mb + 1]? = some (.cells #[.int .i64 0, .int .i64 0, .string ⟨#[]⟩, .slice none 0 0, .slice none 0 0] 25 (0, 0)) := by
    rw [hw1, hmb]
    exact heap_at _ _ _ (by simp)
  have Hcl := Lib.hid (cloneR_any p f w1 b _ (hb.kept (S := fun _ => False) hc1.p (fun _ _ h => h)) hs)
  have Hmb := Lib.hid hmb
  have HcA := Lib.hid hc1
  have Hm1 := Lib.hid hm1
  have Hr1 := Lib.hid hr1
  have Hts := Lib.hid ht
  clear hc1 hm1 hr1 ht hb hs
  go_enter Tryd.func33, Tryd.ntmps33
  go_wp2_with fail
  rw [← hw1, ← hmb]
  clear hw1 hmb
  refine Hcl.out.mono ?_
  rintro e w2 ⟨v2, rfl, hv2, hc2⟩
  obtain ⟨⟨ek, en, et, ena, enl, enc, eia, eil, eic⟩, rfl⟩ := hv2.ev'
  unfold Ev.val
  obtain ⟨w3, hw3⟩ : ∃ x, x = w2.alloc (.cells #[.int .i64 ek, .int .i64 en, .string et, .slice ena enl enc, .slice eia eil eic] 25) := ⟨_, rfl⟩
  obtain ⟨bb, hbb⟩ : ∃ x, x = w2.heap.size := ⟨_, rfl⟩
  have hc23 : Chg [] w2 w3 := by rw [hw3]; exact (Chg.refl _ _).alloc _
  have hc3 : Chg [] w1 w3 := hc2.trans hc23
  have hb3 : w3.heap[bb]? = some (.cells #[.int .i64 ek, .int .i64 en, .string et, .slice ena enl enc, .slice eia eil eic] 25 (0, 0)) := by rw [hw3, hbb]; exact heap_at _ _ _ rfl
  obtain ⟨m0, m1, m2, m3, m4, m5, m6, m7, m8⟩ := msg_cells mb Hm1.out hc3
  have Hw3 := Lib.hid (hc3)
  have Hlt : Hid (mb + 1 < w3.heap.size) := Lib.hid (Nat.lt_of_lt_of_le (lt_of_obj Hr1.out) hc3.size)
  have HS : Hid (∀ W, Chg [] w1 W → (∀ g, g < w3.heap.size → W.heap[g]? = w3.heap[g]?) → W.cell? ⟨mb, 1, none⟩ = some (.int .i64 i) ∧ W.cell? ⟨mb, 2, none⟩ = some (.int .i64 c) ∧ W.cell? ⟨mb, 3, none⟩ = some (.string t) ∧ W.cell? ⟨bb, 0, none⟩ = some (.int .i64 ek) ∧ W.cell? ⟨bb, 1, none⟩ = some (.int .i64 en) ∧ W.cell? ⟨bb, 2, none⟩ = some (.string et) ∧ W.cell? ⟨bb, 3, none⟩ = some (.slice ena enl enc) ∧ W.cell? ⟨bb, 4, none⟩ = some (.slice eia eil eic)) := Lib.hid (fun W hW hB => by
    have e0 := hB mb (Nat.lt_trans (Nat.lt_succ_self _) Hlt.out)
    have e1 := hB bb (lt_of_obj hb3)
    have q := (Hw3.out.block mb (lt_of_obj Hm1.out) (by simp)).trans Hm1.out
    exact ⟨cell_of_heap (e0.trans q) rfl, cell_of_heap (e0.trans q) rfl, cell_of_heap (e0.trans q) rfl, cell_of_heap (e1.trans hb3) rfl, cell_of_heap (e1.trans hb3) rfl, cell_of_heap (e1.trans hb3) rfl, cell_of_heap (e1.trans hb3) rfl, cell_of_heap (e1.trans hb3) rfl⟩)
  have Hbody : Hid (∀ W {e : Ev}, Chg [] w1 W → Chg [mb + 1] W (st5 W (mb + 1) 0 e) → Chg [] w3 W → JN w.heap.size (f + 1) (st5 W (mb + 1) 0 e) (Ev.val ⟨ek, en, et, ena, enl, enc, eia, eil, eic⟩) b) := Lib.hid (fun W e hW hst hW3 => by
    have hv := hv2.same (hc23.trans hW3)
    refine (hv.kept hst.toP fun g hg hm => ?_).imp fun g hg => ⟨Nat.le_trans HcA.out.size hg.1, Nat.lt_of_lt_of_le hg.2 hst.size⟩
    have := List.mem_singleton.1 hm
    have := lt_of_obj Hr1.out
    have := hg.1
    omega)
  clear hc2 hc3 hb3 hc23 hv2
  go_upto_region 2 with fail
  rw [← hw3, ← hbb]
  clear hw3 hbb
  go_upto_region 11 with fail
  clear m0 m1 m2 m3 m4 m5 m6 m7 m8
  refine wp_region_put 10 [some 56, some 57, some 58, some 59, some 60, some 61, some 62, some 63, some 64, some 65] (fun j v W => match j with
      | 0 => ∃ g0, v = .slice (some ⟨g0, 0, none⟩) 2 2 ∧ (W.heap[g0]? = some (.cells #[.string ⟨#[109, 101, 116, 104, 111, 100]⟩, .string ⟨#[112, 97, 114, 97, 109, 115]⟩] 9 (0, 0)) ∧ mb + 1 < g0)
      | 1 => v = .agg #[.int .i64 3, .int .i64 0, .string ⟨#[36, 47, 99, 97, 110, 99, 101, 108]⟩, .slice none 0 0, .slice none 0 0]
      | 2 => ∃ g2, v = .slice (some ⟨g2, 0, none⟩) 1 1 ∧ (W.heap[g2]? = some (.cells #[.string ⟨#[105, 100]⟩] 9 (0, 0)) ∧ mb + 1 < g2)
      | 3 => v = .pointer (some ⟨mb, 1, none⟩)
      | 4 => v = .int .i64 i
      | 5 => v = .agg #[.int .i64 2, .int .i64 i, .string ⟨#[]⟩, .slice none 0 0, .slice none 0 0]
      | 6 => ∃ g6, v = .slice (some ⟨g6, 0, none⟩) 1 1 ∧ (W.heap[g6]? = some (.cells #[.int .i64 2, .int .i64 i, .string ⟨#[]⟩, .slice none 0 0, .slice none 0 0] 25 (0, 0)) ∧ mb + 1 < g6)
      | 7 => ∃ g2 g6, v = .agg #[.int .i64 5, .int .i64 0, .string ⟨#[]⟩, .slice (some ⟨g2, 0, none⟩) 1 1, .slice (some ⟨g6, 0, none⟩) 1 1] ∧ (W.heap[g2]? = some (.cells #[.string ⟨#[105, 100]⟩] 9 (0, 0)) ∧ mb + 1 < g2) ∧ (W.heap[g6]? = some (.cells #[.int .i64 2, .int .i64 i, .string ⟨#[]⟩, .slice none 0 0, .slice none 0 0] 25 (0, 0)) ∧ mb + 1 < g6)
      | 8 => ∃ g8 g2 g6, v = .slice (some ⟨g8, 0, none⟩) 2 2 ∧ (W.heap[g8]? = some (.cells #[.int .i64 3, .int .i64 0, .string ⟨#[36, 47, 99, 97, 110, 99, 101, 108]⟩, .slice none 0 0, .slice none 0 0, .int .i64 5, .int .i64 0, .string ⟨#[]⟩, .slice (some ⟨g2, 0, none⟩) 1 1, .slice (some ⟨g6, 0, none⟩) 1 1] 25 (0, 0)) ∧ mb + 1 < g8) ∧ (W.heap[g2]? = some (.cells #[.string ⟨#[105, 100]⟩] 9 (0, 0)) ∧ mb + 1 < g2) ∧ (W.heap[g6]? = some (.cells #[.int .i64 2, .int .i64 i, .string ⟨#[]⟩, .slice none 0 0, .slice none 0 0] 25 (0, 0)) ∧ mb + 1 < g6)
      | 9 => ∃ g0 g8 g2 g6, v = .agg #[.int .i64 5, .int .i64 0, .string ⟨#[]⟩, .slice (some ⟨g0, 0, none⟩) 2 2, .slice (some ⟨g8, 0, none⟩) 2 2] ∧ (W.heap[g0]? = some (.cells #[.string ⟨#[109, 101, 116, 104, 111, 100]⟩, .string ⟨#[112, 97, 114, 97, 109, 115]⟩] 9 (0, 0)) ∧ mb + 1 < g0) ∧ (W.heap[g8]? = some (.cells #[.int .i64 3, .int .i64 0, .string ⟨#[36, 47, 99, 97, 110, 99, 101, 108]⟩, .slice none 0 0, .slice none 0 0, .int .i64 5, .int .i64 0, .string ⟨#[]⟩, .slice (some ⟨g2, 0, none⟩) 1 1, .slice (some ⟨g6, 0, none⟩) 1 1] 25 (0, 0)) ∧ mb + 1 < g8) ∧ (W.heap[g2]? = some (.cells #[.string ⟨#[105, 100]⟩] 9 (0, 0)) ∧ mb + 1 < g2) ∧ (W.heap[g6]? = some (.cells #[.int .i64 2, .int .i64 i, .string ⟨#[]⟩, .slice none 0 0, .slice none 0 0] 25 (0, 0)) ∧ mb + 1 < g6)
      | _ => True) (fun _ _ _ => True) (by kernel_rfl) (by kernel_rfl) (by kernel_rfl) (fun _ => trivial) ?_ ?_ ?_
  · intro j v W W2 hcw hR
    match j, hR with
    | 0, hR => obtain ⟨g0, h1, f0⟩ := hR; exact ⟨g0, h1, kp1 hcw f0⟩
    | 1, hR => exact hR
    | 2, hR => obtain ⟨g2, h1, f2⟩ := hR; exact ⟨g2, h1, kp1 hcw f2⟩
    | 3, hR => exact hR
    | 4, hR => exact hR
    | 5, hR => exact hR
    | 6, hR => obtain ⟨g6, h1, f6⟩ := hR; exact ⟨g6, h1, kp1 hcw f6⟩
    | 7, hR => obtain ⟨g2, g6, h1, f2, f6⟩ := hR; exact ⟨g2, g6, h1, kp1 hcw f2, kp1 hcw f6⟩
    | 8, hR => obtain ⟨g8, g2, g6, h1, f8, f2, f6⟩ := hR; exact ⟨g8, g2, g6, h1, kp1 hcw f8, kp1 hcw f2, kp1 hcw f6⟩
    | 9, hR => obtain ⟨g0, g8, g2, g6, h1, f0, f8, f2, f6⟩ := hR; exact ⟨g0, g8, g2, g6, h1, kp1 hcw f0, kp1 hcw f8, kp1 hcw f2, kp1 hcw f6⟩
    | (j + 10), hR => exact trivial
  · intro q o ho hn listed u W hun hall hd hc hG K hK
    match q, ho, hn, hun, hd, hK with
    | 0, ho, _, hun, hd, hK =>
      cases ho
      simp only [List.getElem_toArray, List.getElem_cons_zero, List.getElem_cons_succ]
      simp only [putU, Nat.reduceAdd, Act.put, List.setIfInBounds_toArray, List.set_cons_zero, List.set_cons_succ]
      have hS := HS.out W (Hw3.out.trans ((show Chg [] w3 w3.drew from (Chg.refl _ _).drew).trans hc)) (fun g hg => hc.block g hg (by simp))
      have m1 := hS.1
      have m2 := hS.2.1
      have m3 := hS.2.2.1
      have b0 := hS.2.2.2.1
      have b1 := hS.2.2.2.2.1
      have b2 := hS.2.2.2.2.2.1
      have b3 := hS.2.2.2.2.2.2.1
      have b4 := hS.2.2.2.2.2.2.2
      clear hS
      go_simp
      have hcw : Chg [] W (W.alloc (.cells #[.string ⟨#[109, 101, 116, 104, 111, 100]⟩, .string ⟨#[112, 97, 114, 97, 109, 115]⟩] 9)) := (Chg.refl _ _).alloc _
      have hgt : mb + 1 < W.heap.size := Nat.lt_of_lt_of_le Hlt.out (Nat.le_trans (show w3.heap.size ≤ w3.drew.heap.size from Nat.le_refl _) hc.size)
      have hk := hK _ _ hcw ⟨W.heap.size, rfl, ⟨heap_at _ _ _ rfl, hgt⟩⟩ trivial
      simp only [putU, Nat.reduceAdd, Act.put, List.setIfInBounds_toArray, List.set_cons_zero, List.set_cons_succ, List.getElem_toArray, List.getElem_cons_zero, List.getElem_cons_succ] at hk
      exact hk
    | 1, ho, _, hun, hd, hK =>
      cases ho
      simp only [List.getElem_toArray, List.getElem_cons_zero, List.getElem_cons_succ]
      simp only [putU, Nat.reduceAdd, Act.put, List.setIfInBounds_toArray, List.set_cons_zero, List.set_cons_succ]
      have hS := HS.out W (Hw3.out.trans ((show Chg [] w3 w3.drew from (Chg.refl _ _).drew).trans hc)) (fun g hg => hc.block g hg (by simp))
      have m1 := hS.1
      have m2 := hS.2.1
      have m3 := hS.2.2.1
      have b0 := hS.2.2.2.1
      have b1 := hS.2.2.2.2.1
      have b2 := hS.2.2.2.2.2.1
      have b3 := hS.2.2.2.2.2.2.1
      have b4 := hS.2.2.2.2.2.2.2
      clear hS
      go_simp
      refine (textV_any ⟨#[36, 47, 99, 97, 110, 99, 101, 108]⟩ W).mono ?_
      rintro e X ⟨rfl, hcx⟩
      have hk := hK _ _ hcx rfl trivial
      simp only [putU, Nat.reduceAdd, Act.put, List.setIfInBounds_toArray, List.set_cons_zero, List.set_cons_succ, List.getElem_toArray, List.getElem_cons_zero, List.getElem_cons_succ] at hk
      exact hk
    | 2, ho, _, hun, hd, hK =>
      cases ho
      simp only [List.getElem_toArray, List.getElem_cons_zero, List.getElem_cons_succ]
      simp only [putU, Nat.reduceAdd, Act.put, List.setIfInBounds_toArray, List.set_cons_zero, List.set_cons_succ]
      have hS := HS.out W (Hw3.out.trans ((show Chg [] w3 w3.drew from (Chg.refl _ _).drew).trans hc)) (fun g hg => hc.block g hg (by simp))
      have m1 := hS.1
      have m2 := hS.2.1
      have m3 := hS.2.2.1
      have b0 := hS.2.2.2.1
      have b1 := hS.2.2.2.2.1
      have b2 := hS.2.2.2.2.2.1
      have b3 := hS.2.2.2.2.2.2.1
      have b4 := hS.2.2.2.2.2.2.2
      clear hS
      go_simp
      have hcw : Chg [] W (W.alloc (.cells #[.string ⟨#[105, 100]⟩] 9)) := (Chg.refl _ _).alloc _
      have hgt : mb + 1 < W.heap.size := Nat.lt_of_lt_of_le Hlt.out (Nat.le_trans (show w3.heap.size ≤ w3.drew.heap.size from Nat.le_refl _) hc.size)
      have hk := hK _ _ hcw ⟨W.heap.size, rfl, ⟨heap_at _ _ _ rfl, hgt⟩⟩ trivial
      simp only [putU, Nat.reduceAdd, Act.put, List.setIfInBounds_toArray, List.set_cons_zero, List.set_cons_succ, List.getElem_toArray, List.getElem_cons_zero, List.getElem_cons_succ] at hk
      exact hk
    | 3, ho, _, hun, hd, hK =>
      cases ho
      simp only [List.getElem_toArray, List.getElem_cons_zero, List.getElem_cons_succ]
      simp only [putU, Nat.reduceAdd, Act.put, List.setIfInBounds_toArray, List.set_cons_zero, List.set_cons_succ]
      have hS := HS.out W (Hw3.out.trans ((show Chg [] w3 w3.drew from (Chg.refl _ _).drew).trans hc)) (fun g hg => hc.block g hg (by simp))
      have m1 := hS.1
      have m2 := hS.2.1
      have m3 := hS.2.2.1
      have b0 := hS.2.2.2.1
      have b1 := hS.2.2.2.2.1
      have b2 := hS.2.2.2.2.2.1
      have b3 := hS.2.2.2.2.2.2.1
      have b4 := hS.2.2.2.2.2.2.2
      clear hS
      go_simp
      have hk := hK _ _ (Chg.refl [] W) rfl trivial
      simp only [putU, Nat.reduceAdd, Act.put, List.setIfInBounds_toArray, List.set_cons_zero, List.set_cons_succ, List.getElem_toArray, List.getElem_cons_zero, List.getElem_cons_succ] at hk
      exact hk
    | 4, ho, _, hun, hd, hK =>
      cases ho
      simp only [List.getElem_toArray, List.getElem_cons_zero, List.getElem_cons_succ]
      have h3 : u 3 = .pointer (some ⟨mb, 1, none⟩) := hd 3 (by kernel_rfl) (by decide)
      simp only [putU, Nat.reduceAdd, Act.put, List.setIfInBounds_toArray, List.set_cons_zero, List.set_cons_succ, h3]
      have hS := HS.out W (Hw3.out.trans ((show Chg [] w3 w3.drew from (Chg.refl _ _).drew).trans hc)) (fun g hg => hc.block g hg (by simp))
      have m1 := hS.1
      have m2 := hS.2.1
      have m3 := hS.2.2.1
      have b0 := hS.2.2.2.1
      have b1 := hS.2.2.2.2.1
      have b2 := hS.2.2.2.2.2.1
      have b3 := hS.2.2.2.2.2.2.1
      have b4 := hS.2.2.2.2.2.2.2
      clear hS
      go_simp
      have hk := hK _ _ (Chg.refl [] W) rfl trivial
      simp only [putU, Nat.reduceAdd, Act.put, List.setIfInBounds_toArray, List.set_cons_zero, List.set_cons_succ, List.getElem_toArray, List.getElem_cons_zero, List.getElem_cons_succ, h3] at hk
      exact hk
    | 5, ho, _, hun, hd, hK =>
      cases ho
      simp only [List.getElem_toArray, List.getElem_cons_zero, List.getElem_cons_succ]
      have h4 : u 4 = .int .i64 i := hd 4 (by kernel_rfl) (by decide)
      simp only [putU, Nat.reduceAdd, Act.put, List.setIfInBounds_toArray, List.set_cons_zero, List.set_cons_succ, h4]
      have hS := HS.out W (Hw3.out.trans ((show Chg [] w3 w3.drew from (Chg.refl _ _).drew).trans hc)) (fun g hg => hc.block g hg (by simp))
      have m1 := hS.1
      have m2 := hS.2.1
      have m3 := hS.2.2.1
      have b0 := hS.2.2.2.1
      have b1 := hS.2.2.2.2.1
      have b2 := hS.2.2.2.2.2.1
      have b3 := hS.2.2.2.2.2.2.1
      have b4 := hS.2.2.2.2.2.2.2
      clear hS
      go_simp
      refine (number_any i W).mono ?_
      rintro e X ⟨rfl, hcx⟩
      have hk := hK _ _ hcx rfl trivial
      simp only [putU, Nat.reduceAdd, Act.put, List.setIfInBounds_toArray, List.set_cons_zero, List.set_cons_succ, List.getElem_toArray, List.getElem_cons_zero, List.getElem_cons_succ, h4] at hk
      exact hk
    | 6, ho, _, hun, hd, hK =>
      cases ho
      simp only [List.getElem_toArray, List.getElem_cons_zero, List.getElem_cons_succ]
      have h5 : u 5 = .agg #[.int .i64 2, .int .i64 i, .string ⟨#[]⟩, .slice none 0 0, .slice none 0 0] := hd 5 (by kernel_rfl) (by decide)
      simp only [putU, Nat.reduceAdd, Act.put, List.setIfInBounds_toArray, List.set_cons_zero, List.set_cons_succ, h5]
      have hS := HS.out W (Hw3.out.trans ((show Chg [] w3 w3.drew from (Chg.refl _ _).drew).trans hc)) (fun g hg => hc.block g hg (by simp))
      have m1 := hS.1
      have m2 := hS.2.1
      have m3 := hS.2.2.1
      have b0 := hS.2.2.2.1
      have b1 := hS.2.2.2.2.1
      have b2 := hS.2.2.2.2.2.1
      have b3 := hS.2.2.2.2.2.2.1
      have b4 := hS.2.2.2.2.2.2.2
      clear hS
      go_simp
      have hcw : Chg [] W (W.alloc (.cells #[.int .i64 2, .int .i64 i, .string ⟨#[]⟩, .slice none 0 0, .slice none 0 0] 25)) := (Chg.refl _ _).alloc _
      have hgt : mb + 1 < W.heap.size := Nat.lt_of_lt_of_le Hlt.out (Nat.le_trans (show w3.heap.size ≤ w3.drew.heap.size from Nat.le_refl _) hc.size)
      have hk := hK _ _ hcw ⟨W.heap.size, rfl, ⟨heap_at _ _ _ rfl, hgt⟩⟩ trivial
      simp only [putU, Nat.reduceAdd, Act.put, List.setIfInBounds_toArray, List.set_cons_zero, List.set_cons_succ, List.getElem_toArray, List.getElem_cons_zero, List.getElem_cons_succ, h5] at hk
      exact hk
    | 7, ho, _, hun, hd, hK =>
      cases ho
      simp only [List.getElem_toArray, List.getElem_cons_zero, List.getElem_cons_succ]
      have h2 : ∃ g2, u 2 = .slice (some ⟨g2, 0, none⟩) 1 1 ∧ (W.heap[g2]? = some (.cells #[.string ⟨#[105, 100]⟩] 9 (0, 0)) ∧ mb + 1 < g2) := hd 2 (by kernel_rfl) (by decide)
      obtain ⟨g2, h2, f2⟩ := h2
      have h6 : ∃ g6, u 6 = .slice (some ⟨g6, 0, none⟩) 1 1 ∧ (W.heap[g6]? = some (.cells #[.int .i64 2, .int .i64 i, .string ⟨#[]⟩, .slice none 0 0, .slice none 0 0] 25 (0, 0)) ∧ mb + 1 < g6) := hd 6 (by kernel_rfl) (by decide)
      obtain ⟨g6, h6, f6⟩ := h6
      simp only [putU, Nat.reduceAdd, Act.put, List.setIfInBounds_toArray, List.set_cons_zero, List.set_cons_succ, h2, h6]
      have hS := HS.out W (Hw3.out.trans ((show Chg [] w3 w3.drew from (Chg.refl _ _).drew).trans hc)) (fun g hg => hc.block g hg (by simp))
      have m1 := hS.1
      have m2 := hS.2.1
      have m3 := hS.2.2.1
      have b0 := hS.2.2.2.1
      have b1 := hS.2.2.2.2.1
      have b2 := hS.2.2.2.2.2.1
      have b3 := hS.2.2.2.2.2.2.1
      have b4 := hS.2.2.2.2.2.2.2
      clear hS
      go_simp
      refine (object_any (some ⟨g2, 0, none⟩) (some ⟨g6, 0, none⟩) 1 1 1 1 W).mono ?_
      rintro e X ⟨rfl, hcx⟩
      have hk := hK _ _ hcx ⟨g2, g6, rfl, kp1 hcx f2, kp1 hcx f6⟩ trivial
      simp only [putU, Nat.reduceAdd, Act.put, List.setIfInBounds_toArray, List.set_cons_zero, List.set_cons_succ, List.getElem_toArray, List.getElem_cons_zero, List.getElem_cons_succ, h2, h6] at hk
      exact hk
    | 8, ho, _, hun, hd, hK =>
      cases ho
      simp only [List.getElem_toArray, List.getElem_cons_zero, List.getElem_cons_succ]
      have h1 : u 1 = .agg #[.int .i64 3, .int .i64 0, .string ⟨#[36, 47, 99, 97, 110, 99, 101, 108]⟩, .slice none 0 0, .slice none 0 0] := hd 1 (by kernel_rfl) (by decide)
      have h7 : ∃ g2 g6, u 7 = .agg #[.int .i64 5, .int .i64 0, .string ⟨#[]⟩, .slice (some ⟨g2, 0, none⟩) 1 1, .slice (some ⟨g6, 0, none⟩) 1 1] ∧ (W.heap[g2]? = some (.cells #[.string ⟨#[105, 100]⟩] 9 (0, 0)) ∧ mb + 1 < g2) ∧ (W.heap[g6]? = some (.cells #[.int .i64 2, .int .i64 i, .string ⟨#[]⟩, .slice none 0 0, .slice none 0 0] 25 (0, 0)) ∧ mb + 1 < g6) := hd 7 (by kernel_rfl) (by decide)
      obtain ⟨g2, g6, h7, f2, f6⟩ := h7
      simp only [putU, Nat.reduceAdd, Act.put, List.setIfInBounds_toArray, List.set_cons_zero, List.set_cons_succ, h1, h7]
      have hS := HS.out W (Hw3.out.trans ((show Chg [] w3 w3.drew from (Chg.refl _ _).drew).trans hc)) (fun g hg => hc.block g hg (by simp))
      have m1 := hS.1
      have m2 := hS.2.1
      have m3 := hS.2.2.1
      have b0 := hS.2.2.2.1
      have b1 := hS.2.2.2.2.1
      have b2 := hS.2.2.2.2.2.1
      have b3 := hS.2.2.2.2.2.2.1
      have b4 := hS.2.2.2.2.2.2.2
      clear hS
      go_simp
      have hcw : Chg [] W (W.alloc (.cells #[.int .i64 3, .int .i64 0, .string ⟨#[36, 47, 99, 97, 110, 99, 101, 108]⟩, .slice none 0 0, .slice none 0 0, .int .i64 5, .int .i64 0, .string ⟨#[]⟩, .slice (some ⟨g2, 0, none⟩) 1 1, .slice (some ⟨g6, 0, none⟩) 1 1] 25)) := (Chg.refl _ _).alloc _
      have hgt : mb + 1 < W.heap.size := Nat.lt_of_lt_of_le Hlt.out (Nat.le_trans (show w3.heap.size ≤ w3.drew.heap.size from Nat.le_refl _) hc.size)
      have hk := hK _ _ hcw ⟨W.heap.size, g2, g6, rfl, ⟨heap_at _ _ _ rfl, hgt⟩, kp1 hcw f2, kp1 hcw f6⟩ trivial
      simp only [putU, Nat.reduceAdd, Act.put, List.setIfInBounds_toArray, List.set_cons_zero, List.set_cons_succ, List.getElem_toArray, List.getElem_cons_zero, List.getElem_cons_succ, h1, h7] at hk
      exact hk
    | 9, ho, _, hun, hd, hK =>
      cases ho
      simp only [List.getElem_toArray, List.getElem_cons_zero, List.getElem_cons_succ]
      have h0 : ∃ g0, u 0 = .slice (some ⟨g0, 0, none⟩) 2 2 ∧ (W.heap[g0]? = some (.cells #[.string ⟨#[109, 101, 116, 104, 111, 100]⟩, .string ⟨#[112, 97, 114, 97, 109, 115]⟩] 9 (0, 0)) ∧ mb + 1 < g0) := hd 0 (by kernel_rfl) (by decide)
      obtain ⟨g0, h0, f0⟩ := h0
      have h8 : ∃ g8 g2 g6, u 8 = .slice (some ⟨g8, 0, none⟩) 2 2 ∧ (W.heap[g8]? = some (.cells #[.int .i64 3, .int .i64 0, .string ⟨#[36, 47, 99, 97, 110, 99, 101, 108]⟩, .slice none 0 0, .slice none 0 0, .int .i64 5, .int .i64 0, .string ⟨#[]⟩, .slice (some ⟨g2, 0, none⟩) 1 1, .slice (some ⟨g6, 0, none⟩) 1 1] 25 (0, 0)) ∧ mb + 1 < g8) ∧ (W.heap[g2]? = some (.cells #[.string ⟨#[105, 100]⟩] 9 (0, 0)) ∧ mb + 1 < g2) ∧ (W.heap[g6]? = some (.cells #[.int .i64 2, .int .i64 i, .string ⟨#[]⟩, .slice none 0 0, .slice none 0 0] 25 (0, 0)) ∧ mb + 1 < g6) := hd 8 (by kernel_rfl) (by decide)
      obtain ⟨g8, g2, g6, h8, f8, f2, f6⟩ := h8
      simp only [putU, Nat.reduceAdd, Act.put, List.setIfInBounds_toArray, List.set_cons_zero, List.set_cons_succ, h0, h8]
      have hS := HS.out W (Hw3.out.trans ((show Chg [] w3 w3.drew from (Chg.refl _ _).drew).trans hc)) (fun g hg => hc.block g hg (by simp))
      have m1 := hS.1
      have m2 := hS.2.1
      have m3 := hS.2.2.1
      have b0 := hS.2.2.2.1
      have b1 := hS.2.2.2.2.1
      have b2 := hS.2.2.2.2.2.1
      have b3 := hS.2.2.2.2.2.2.1
      have b4 := hS.2.2.2.2.2.2.2
      clear hS
      go_simp
      refine (object_any (some ⟨g0, 0, none⟩) (some ⟨g8, 0, none⟩) 2 2 2 2 W).mono ?_
      rintro e X ⟨rfl, hcx⟩
      have hk := hK _ _ hcx ⟨g0, g8, g2, g6, rfl, kp1 hcx f0, kp1 hcx f8, kp1 hcx f2, kp1 hcx f6⟩ trivial
      simp only [putU, Nat.reduceAdd, Act.put, List.setIfInBounds_toArray, List.set_cons_zero, List.set_cons_succ, List.getElem_toArray, List.getElem_cons_zero, List.getElem_cons_succ, h0, h8] at hk
      exact hk
    | (q + 10), _, hn, _, _, _ => exact absurd hn (by omega)
  · intro u W hc hR hG
    have h9 : ∃ g0 g8 g2 g6, u 9 = .agg #[.int .i64 5, .int .i64 0, .string ⟨#[]⟩, .slice (some ⟨g0, 0, none⟩) 2 2, .slice (some ⟨g8, 0, none⟩) 2 2] ∧ (W.heap[g0]? = some (.cells #[.string ⟨#[109, 101, 116, 104, 111, 100]⟩, .string ⟨#[112, 97, 114, 97, 109, 115]⟩] 9 (0, 0)) ∧ mb + 1 < g0) ∧ (W.heap[g8]? = some (.cells #[.int .i64 3, .int .i64 0, .string ⟨#[36, 47, 99, 97, 110, 99, 101, 108]⟩, .slice none 0 0, .slice none 0 0, .int .i64 5, .int .i64 0, .string ⟨#[]⟩, .slice (some ⟨g2, 0, none⟩) 1 1, .slice (some ⟨g6, 0, none⟩) 1 1] 25 (0, 0)) ∧ mb + 1 < g8) ∧ (W.heap[g2]? = some (.cells #[.string ⟨#[105, 100]⟩] 9 (0, 0)) ∧ mb + 1 < g2) ∧ (W.heap[g6]? = some (.cells #[.int .i64 2, .int .i64 i, .string ⟨#[]⟩, .slice none 0 0, .slice none 0 0] 25 (0, 0)) ∧ mb + 1 < g6) := hR 9 (by decide)
    obtain ⟨g0, g8, g2, g6, h9, f0, f8, f2, f6⟩ := h9
    have hcW := Hw3.out.trans ((show Chg [] w3 w3.drew from (Chg.refl _ _).drew).trans hc)
    have Hend3 := Lib.hid ((show Chg [] w3 w3.drew from (Chg.refl _ _).drew).trans hc)
    have hr3 := (hcW.block (mb + 1) (lt_of_obj Hr1.out) (by simp)).trans Hr1.out
    obtain ⟨r0, r1, r2, r3, r4⟩ := box_kept (mb + 1) hr3 (Chg.refl [] W)
    have fr := fun i => frozen_of_heap (i := i) hr3
    have lr := lt_of_cell r0
    simp only [putU, Nat.reduceAdd, Act.put, List.setIfInBounds_toArray, List.set_cons_zero, List.set_cons_succ, h9]
    refine anyU_one (k := 10) (by kernel_rfl) rfl (fun K hK => ?_)
    go_simp
    refine hK _ _ (fun _ => trivial) trivial ?_
    clear hK K
    refine anyU_done (by kernel_rfl) ?_
    have Hend := Lib.hid hcW
    have F0 := Lib.hid f0
    have F8 := Lib.hid f8
    have F2 := Lib.hid f2
    have F6 := Lib.hid f6
    clear hcW f0 f8 f2 f6 hc hR hG hr3
    go_wp2_with fail
    refine bodyPost_ret (v := .agg #[.int .i64 5, .int .i64 0, .string ⟨#[]⟩, .slice (some ⟨g0, 0, none⟩) 2 2, .slice (some ⟨g8, 0, none⟩) 2 2]) (by simp [results, Tryd.results33, go_sem, r0, r1, r2, r3, r4]) rfl ?_
    have hcs := st5_chg W (mb + 1) 0 ⟨5, 0, ⟨#[]⟩, some ⟨g0, 0, none⟩, 2, 2, some ⟨g8, 0, none⟩, 2, 2⟩
    have hbd := Hbody.out W Hend.out hcs Hend3.out
    show ToPostB (.mk 5 0 ⟨#[]⟩ [⟨#[109, 101, 116, 104, 111, 100]⟩, ⟨#[112, 97, 114, 97, 109, 115]⟩] [(.mk 3 0 ⟨#[36, 47, 99, 97, 110, 99, 101, 108]⟩ [] []), (.mk 5 0 ⟨#[]⟩ [⟨#[105, 100]⟩] [(.mk 2 i ⟨#[]⟩ [] [])])]) w _ (st5 W (mb + 1) 0 ⟨5, 0, ⟨#[]⟩, some ⟨g0, 0, none⟩, 2, 2, some ⟨g8, 0, none⟩, 2, 2⟩)
    generalize st5 W (mb + 1) 0 ⟨5, 0, ⟨#[]⟩, some ⟨g0, 0, none⟩, 2, 2, some ⟨g8, 0, none⟩, 2, 2⟩ = X at hcs hbd ⊢
    exact toB5_end (i := i) (c := c) Hts.out ((hcs.block g0 (lt_of_obj F0.out.1) (by have := F0.out.2; simp; omega)).trans F0.out.1) ((hcs.block g8 (lt_of_obj F8.out.1) (by have := F8.out.2; simp; omega)).trans F8.out.1) ((hcs.block g2 (lt_of_obj F2.out.1) (by have := F2.out.2; simp; omega)).trans F2.out.1) ((hcs.block g6 (lt_of_obj F6.out.1) (by have := F6.out.2; simp; omega)).trans F6.out.1) (by have := F0.out.2; omega) (by have := F8.out.2; omega) (by have := F2.out.2; omega) (by have := F6.out.2; omega) Hmb.out hbd ((HcA.out.trans Hend.out).comp hcs fun g hg => Or.inr (by have := List.mem_singleton.1 hg; have := Hmb.out; omega))
end Go.Proofs.YtiklgipcgdgkoaaDoor.Jv
