/- Part of the proof of topCrashedLaw_holds. -/
import Derived.Test.YtjlknaahpjiibaaGreatDoorQbf
import Derived.Test.YtjlknaahpjiibaaGreatDoorQbg
namespace Go.Proofs.YtjlknaahpjiibaaGreatDoor.Jv
open List (getElem_toArray getElem_cons_zero getElem_cons_succ setIfInBounds_toArray set_cons_zero set_cons_succ)
open Go.RowKit Go.ChangeMaps Go.MapKept
set_option linter.unusedVariables false
set_option linter.unusedSimpArgs false
def ToPostB (j : J) (w : World) (e : Ending) (w' : World) : Prop := ∃ (f : Nat) (v : Value), e = .returned v ∧ JN w.heap.size f w' v j ∧ Chg [] w w'
theorem rd_val {W : World} {p : Nat → Prop} {f n o : Nat} {e : Ev} {j : J} (h : JV p f W e.val j) (h0 : W.cell? ⟨n, o, none⟩ = some (.int .i64 e.k)) (h1 : W.cell? ⟨n, o + 1, none⟩ = some (.int .i64 e.n)) (h2 : W.cell? ⟨n, o + 2, none⟩ = some (.string e.t)) (h3 : W.cell? ⟨n, o + 3, none⟩ = some (.slice e.na e.nl e.nc)) (h4 : W.cell? ⟨n, o + 4, none⟩ = some (.slice e.ia e.il e.ic)) : rdJ p (f + 1) W ⟨n, o, none⟩ j := by
 obtain ⟨nv, iv, he, hn, hi, ht⟩ := h
 unfold Ev.val at he
 simp only [Value.agg.injEq, Array.mk.injEq, List.cons.injEq, Value.int.injEq, Value.string.injEq, and_true, true_and] at he
 obtain ⟨e0, e1, e2, rfl, rfl⟩ := he
 exact ⟨by rw [h0, e0], by rw [h1, e1], ⟨by rw [h2, e2], ht⟩, _, _, h3, h4, hn, hi⟩
theorem kp1 {W W2 : World} {g mb : Nat} {o : Obj} (hc : Chg [] W W2) (h : W.heap[g]? = some o ∧ mb + 1 < g) : W2.heap[g]? = some o ∧ mb + 1 < g := ⟨(hc.block g (lt_of_obj h.1) (by simp)).trans h.1, h.2⟩
theorem toB1_end {mb f : Nat} {i c ek en : Int} {t et : ByteArray} {ena eia : Option Addr} {enl enc eil eic : Nat} {b : J} {w W : World} {g0 g8 : Nat} (ht : t.size ≤ maxLen) (q0 : W.heap[g0]? = some (.cells #[.string ⟨#[105, 100]⟩, .string ⟨#[109, 101, 116, 104, 111, 100]⟩, .string ⟨#[112, 97, 114, 97, 109, 115]⟩] 9 (0, 0))) (q8 : W.heap[g8]? = some (.cells #[.int .i64 2, .int .i64 i, .string ⟨#[]⟩, .slice none 0 0, .slice none 0 0, .int .i64 3, .int .i64 0, .string t, .slice none 0 0, .slice none 0 0, .int .i64 ek, .int .i64 en, .string et, .slice ena enl enc, .slice eia eil eic] 59 (0, 0))) (l0 : mb ≤ g0) (l8 : mb ≤ g8) (hm : mb = w.heap.size) (hb : JN w.heap.size f W (Ev.val ⟨ek, en, et, ena, enl, enc, eia, eil, eic⟩) b) (hc : Chg [] w W) :
 ToPostB (.mk 5 0 ⟨#[]⟩ [⟨#[105, 100]⟩, ⟨#[109, 101, 116, 104, 111, 100]⟩, ⟨#[112, 97, 114, 97, 109, 115]⟩] [(.mk 2 i ⟨#[]⟩ [] []), (.mk 3 0 t [] []), b]) w (.returned (.agg #[.int .i64 5, .int .i64 0, .string ⟨#[]⟩, .slice (some ⟨g0, 0, none⟩) 3 3, .slice (some ⟨g8, 0, none⟩) 3 3])) W :=
 ⟨_, _, rfl, JN.mk (nms_3 q0 (by omega) (by decide) (by decide) (by decide)) (els_3 (f := f + 1) (lt_of_obj q8) (by omega) (rd_leaf (cell_of_heap q8 rfl) (cell_of_heap q8 rfl) (cell_of_heap q8 rfl) (cell_of_heap q8 rfl) (cell_of_heap q8 rfl) (by decide)) (rd_leaf (cell_of_heap q8 rfl) (cell_of_heap q8 rfl) (cell_of_heap q8 rfl) (cell_of_heap q8 rfl) (cell_of_heap q8 rfl) ht) (rd_val (e := ⟨ek, en, et, ena, enl, enc, eia, eil, eic⟩) hb (cell_of_heap q8 rfl) (cell_of_heap q8 rfl) (cell_of_heap q8 rfl) (cell_of_heap q8 rfl) (cell_of_heap q8 rfl))) (by decide), hc⟩
set_option maxRecDepth 100000 in
set_option maxHeartbeats 16000000 in
theorem toB1 (p : Nat → Prop) (f : Nat) (i c : Int) (t : ByteArray) (e : Ev) (b : J) (w : World) (ht : t.size ≤ maxLen) (hb : JV p f w e.val b) (hs : Sm b) : Calls Tryz.prog 75 #[mB 1 i c t e] w (ToPostB (.mk 5 0 ⟨#[]⟩ [⟨#[105, 100]⟩, ⟨#[109, 101, 116, 104, 111, 100]⟩, ⟨#[112, 97, 114, 97, 109, 115]⟩] [(.mk 2 i ⟨#[]⟩ [] []), (.mk 3 0 t [] []), b]) w) := by
 obtain ⟨xk, xn, xt, xna, xnl, xnc, xia, xil, xic⟩ := e
 unfold mB
 unfold Ev.val at hb
 simp only at hb ⊢
 obtain ⟨w1, hw1⟩ : ∃ x, x = (w.alloc (.cells #[.int .i64 1, .int .i64 i, .int .i64 c, .string t, .int .i64 xk, .int .i64 xn, .string xt, .slice xna xnl xnc, .slice xia xil xic] 61)).alloc (.cells #[.int .i64 0, .int .i64 0, .string ⟨#[]⟩, .slice none 0 0, .slice none 0 0] 59) := ⟨_, rfl⟩
 obtain ⟨mb, hmb⟩ : ∃ x, x = w.heap.size := ⟨_, rfl⟩
 have hc1 : Chg [] w w1 := by rw [hw1]; exact ((Chg.refl _ _).alloc _).alloc _
 have hm1 : w1.heap[mb]? = some (.cells #[.int .i64 1, .int .i64 i, .int .i64 c, .string t, .int .i64 xk, .int .i64 xn, .string xt, .slice xna xnl xnc, .slice xia xil xic] 61 (0, 0)) := by
  rw [hw1, hmb, heap_past _ _ _ (by simp)]
  exact heap_at _ _ _ rfl
 have hr1 : w1.heap[mb + 1]? = some (.cells #[.int .i64 0, .int .i64 0, .string ⟨#[]⟩, .slice none 0 0, .slice none 0 0] 59 (0, 0)) := by
  rw [hw1, hmb]
  exact heap_at _ _ _ (by simp)
 have Hcl := Lib.hid (cloneR_any p f w1 b _ (hb.kept (S := fun _ => False) hc1.p (fun _ _ h => h)) hs)
 have Hmb := Lib.hid hmb
 have HcA := Lib.hid hc1
 have Hm1 := Lib.hid hm1
 have Hr1 := Lib.hid hr1
 have Hts := Lib.hid ht
 clear hc1 hm1 hr1 ht hb hs
 go_enter Tryz.func75, Tryz.ntmps75
 go_wp2_with fail
 rw [← hw1, ← hmb]
 clear hw1 hmb
 refine Hcl.out.mono ?_
 rintro e w2 ⟨v2, rfl, hv2, hc2⟩
 obtain ⟨⟨ek, en, et, ena, enl, enc, eia, eil, eic⟩, rfl⟩ := hv2.ev'
 unfold Ev.val
 obtain ⟨w3, hw3⟩ : ∃ x, x = w2.alloc (.cells #[.int .i64 ek, .int .i64 en, .string et, .slice ena enl enc, .slice eia eil eic] 59) := ⟨_, rfl⟩
 obtain ⟨bb, hbb⟩ : ∃ x, x = w2.heap.size := ⟨_, rfl⟩
 have hc23 : Chg [] w2 w3 := by rw [hw3]; exact (Chg.refl _ _).alloc _
 have hc3 : Chg [] w1 w3 := hc2.trans hc23
 have hb3 : w3.heap[bb]? = some (.cells #[.int .i64 ek, .int .i64 en, .string et, .slice ena enl enc, .slice eia eil eic] 59 (0, 0)) := by rw [hw3, hbb]; exact heap_at _ _ _ rfl
 obtain ⟨m0, m1, m2, m3, m4, m5, m6, m7, m8⟩ := msg_cells mb Hm1.out hc3
 have Hw3 := Lib.hid (hc3)
 have Hlt : Hid (mb + 1 < w3.heap.size) := Lib.hid (Nat.lt_of_lt_of_le (lt_of_obj Hr1.out) hc3.size)
 have HS : Hid (∀ W, Chg [] w1 W → (∀ g, g < w3.heap.size → W.heap[g]? = w3.heap[g]?) → W.cell? ⟨mb, 1, none⟩ = some (.int .i64 i) ∧ W.cell? ⟨mb, 2, none⟩ = some (.int .i64 c) ∧ W.cell? ⟨mb, 3, none⟩ = some (.string t) ∧ W.cell? ⟨bb, 0, none⟩ = some (.int .i64 ek) ∧ W.cell? ⟨bb, 1, none⟩ = some (.int .i64 en) ∧ W.cell? ⟨bb, 2, none⟩ = some (.string et) ∧ W.cell? ⟨bb, 3, none⟩ = some (.slice ena enl enc) ∧ W.cell? ⟨bb, 4, none⟩ = some (.slice eia eil eic)) := Lib.hid (fun W hW hB => by
  have e0 := hB mb (Nat.lt_trans (Nat.lt_succ_self _) Hlt.out)
  have e1 := hB bb (lt_of_obj hb3)
  have q := (Hw3.out.block mb (lt_of_obj Hm1.out) (by simp)).trans Hm1.out
  exact ⟨cell_of_heap (e0.trans q) rfl, cell_of_heap (e0.trans q) rfl, cell_of_heap (e0.trans q) rfl, cell_of_heap (e1.trans hb3) rfl, cell_of_heap (e1.trans hb3) rfl, cell_of_heap (e1.trans hb3) rfl, cell_of_heap (e1.trans hb3) rfl, cell_of_heap (e1.trans hb3) rfl⟩)
 have Hbody : Hid (∀ W {e : Ev}, Chg [] w1 W → Chg [mb + 1] W (st5 W (mb + 1) 0 e) → Chg [] w3 W → JN w.heap.size (f + 1) (st5 W (mb + 1) 0 e) (Ev.val ⟨ek, en, et, ena, enl, enc, eia, eil, eic⟩) b) := Lib.hid (fun W e hW hst hW3 => by
  have hv := hv2.same (hc23.trans hW3)
  refine (hv.kept hst.toP fun g hg hm => ?_).imp fun g hg => ⟨Nat.le_trans HcA.out.size hg.1, Nat.lt_of_lt_of_le hg.2 hst.size⟩
  have := List.mem_singleton.1 hm
  have := lt_of_obj Hr1.out
  have := hg.1
  omega)
 clear hc2 hc3 hb3 hc23 hv2
 go_upto_region 2 with fail
 rw [← hw3, ← hbb]
 clear hw3 hbb
 go_upto_region 4 with fail
 clear m0 m1 m2 m3 m4 m5 m6 m7 m8
 refine wp_region_put 10 [some 11, some 12, some 13, some 14, some 15, some 16, some 17, some 18, some 19, some 20] (fun j v W => match j with
  | 0 => ∃ g0, v = .slice (some ⟨g0, 0, none⟩) 3 3 ∧ (W.heap[g0]? = some (.cells #[.string ⟨#[105, 100]⟩, .string ⟨#[109, 101, 116, 104, 111, 100]⟩, .string ⟨#[112, 97, 114, 97, 109, 115]⟩] 9 (0, 0)) ∧ mb + 1 < g0)
  | 1 => v = .pointer (some ⟨mb, 1, none⟩)
  | 2 => v = .int .i64 i
  | 3 => v = .agg #[.int .i64 2, .int .i64 i, .string ⟨#[]⟩, .slice none 0 0, .slice none 0 0]
  | 4 => v = .pointer (some ⟨mb, 3, none⟩)
  | 5 => v = .string t
  | 6 => v = .agg #[.int .i64 3, .int .i64 0, .string t, .slice none 0 0, .slice none 0 0]
  | 7 => v = .agg #[.int .i64 ek, .int .i64 en, .string et, .slice ena enl enc, .slice eia eil eic]
  | 8 => ∃ g8, v = .slice (some ⟨g8, 0, none⟩) 3 3 ∧ (W.heap[g8]? = some (.cells #[.int .i64 2, .int .i64 i, .string ⟨#[]⟩, .slice none 0 0, .slice none 0 0, .int .i64 3, .int .i64 0, .string t, .slice none 0 0, .slice none 0 0, .int .i64 ek, .int .i64 en, .string et, .slice ena enl enc, .slice eia eil eic] 59 (0, 0)) ∧ mb + 1 < g8)
  | 9 => ∃ g0 g8, v = .agg #[.int .i64 5, .int .i64 0, .string ⟨#[]⟩, .slice (some ⟨g0, 0, none⟩) 3 3, .slice (some ⟨g8, 0, none⟩) 3 3] ∧ (W.heap[g0]? = some (.cells #[.string ⟨#[105, 100]⟩, .string ⟨#[109, 101, 116, 104, 111, 100]⟩, .string ⟨#[112, 97, 114, 97, 109, 115]⟩] 9 (0, 0)) ∧ mb + 1 < g0) ∧ (W.heap[g8]? = some (.cells #[.int .i64 2, .int .i64 i, .string ⟨#[]⟩, .slice none 0 0, .slice none 0 0, .int .i64 3, .int .i64 0, .string t, .slice none 0 0, .slice none 0 0, .int .i64 ek, .int .i64 en, .string et, .slice ena enl enc, .slice eia eil eic] 59 (0, 0)) ∧ mb + 1 < g8)
  | _ => True) (fun _ _ _ => True) (by kernel_rfl) (by kernel_rfl) (by kernel_rfl) (fun _ => trivial) ?_ ?_ ?_
 · intro j v W W2 hcw hR
   match j, hR with
   | 0, hR => obtain ⟨g0, h1, f0⟩ := hR; exact ⟨g0, h1, kp1 hcw f0⟩
   | 1, hR => exact hR
   | 2, hR => exact hR
   | 3, hR => exact hR
   | 4, hR => exact hR
   | 5, hR => exact hR
   | 6, hR => exact hR
   | 7, hR => exact hR
   | 8, hR => obtain ⟨g8, h1, f8⟩ := hR; exact ⟨g8, h1, kp1 hcw f8⟩
   | 9, hR => obtain ⟨g0, g8, h1, f0, f8⟩ := hR; exact ⟨g0, g8, h1, kp1 hcw f0, kp1 hcw f8⟩
   | (j + 10), hR => exact trivial
 · intro q o ho hn listed u W hun hall hd hc hG K hK
   match q, ho, hn, hun, hd, hK with
   | 0, ho, _, hun, hd, hK =>
     cases ho
     simp only [getElem_toArray, getElem_cons_zero, getElem_cons_succ]
     simp only [putU, Nat.reduceAdd, Act.put, setIfInBounds_toArray, set_cons_zero, set_cons_succ]
     have hS := HS.out W (Hw3.out.trans ((show Chg [] w3 w3.drew from (Chg.refl _ _).drew).trans hc)) (fun g hg => hc.block g hg (by simp))
     have m1 := hS.1
     have m2 := hS.2.1
     have m3 := hS.2.2.1
     have b0 := hS.2.2.2.1
     have b1 := hS.2.2.2.2.1
     have b2 := hS.2.2.2.2.2.1
     have b3 := hS.2.2.2.2.2.2.1
     have b4 := hS.2.2.2.2.2.2.2
     clear hS
     go_simp
     have hcw : Chg [] W (W.alloc (.cells #[.string ⟨#[105, 100]⟩, .string ⟨#[109, 101, 116, 104, 111, 100]⟩, .string ⟨#[112, 97, 114, 97, 109, 115]⟩] 9)) := (Chg.refl _ _).alloc _
     have hgt : mb + 1 < W.heap.size := Nat.lt_of_lt_of_le Hlt.out (Nat.le_trans (show w3.heap.size ≤ w3.drew.heap.size from Nat.le_refl _) hc.size)
     have hk := hK _ _ hcw ⟨W.heap.size, rfl, ⟨heap_at _ _ _ rfl, hgt⟩⟩ trivial
     simp only [putU, Nat.reduceAdd, Act.put, setIfInBounds_toArray, set_cons_zero, set_cons_succ, getElem_toArray, getElem_cons_zero, getElem_cons_succ] at hk
     exact hk
   | 1, ho, _, hun, hd, hK =>
     cases ho
     simp only [getElem_toArray, getElem_cons_zero, getElem_cons_succ]
     simp only [putU, Nat.reduceAdd, Act.put, setIfInBounds_toArray, set_cons_zero, set_cons_succ]
     have hS := HS.out W (Hw3.out.trans ((show Chg [] w3 w3.drew from (Chg.refl _ _).drew).trans hc)) (fun g hg => hc.block g hg (by simp))
     have m1 := hS.1
     have m2 := hS.2.1
     have m3 := hS.2.2.1
     have b0 := hS.2.2.2.1
     have b1 := hS.2.2.2.2.1
     have b2 := hS.2.2.2.2.2.1
     have b3 := hS.2.2.2.2.2.2.1
     have b4 := hS.2.2.2.2.2.2.2
     clear hS
     go_simp
     have hk := hK _ _ (Chg.refl [] W) rfl trivial
     simp only [putU, Nat.reduceAdd, Act.put, setIfInBounds_toArray, set_cons_zero, set_cons_succ, getElem_toArray, getElem_cons_zero, getElem_cons_succ] at hk
     exact hk
   | 2, ho, _, hun, hd, hK =>
     cases ho
     simp only [getElem_toArray, getElem_cons_zero, getElem_cons_succ]
     have h1 : u 1 = .pointer (some ⟨mb, 1, none⟩) := hd 1 (by kernel_rfl) (by decide)
     simp only [putU, Nat.reduceAdd, Act.put, setIfInBounds_toArray, set_cons_zero, set_cons_succ, h1]
     have hS := HS.out W (Hw3.out.trans ((show Chg [] w3 w3.drew from (Chg.refl _ _).drew).trans hc)) (fun g hg => hc.block g hg (by simp))
     have m1 := hS.1
     have m2 := hS.2.1
     have m3 := hS.2.2.1
     have b0 := hS.2.2.2.1
     have b1 := hS.2.2.2.2.1
     have b2 := hS.2.2.2.2.2.1
     have b3 := hS.2.2.2.2.2.2.1
     have b4 := hS.2.2.2.2.2.2.2
     clear hS
     go_simp
     have hk := hK _ _ (Chg.refl [] W) rfl trivial
     simp only [putU, Nat.reduceAdd, Act.put, setIfInBounds_toArray, set_cons_zero, set_cons_succ, getElem_toArray, getElem_cons_zero, getElem_cons_succ, h1] at hk
     exact hk
   | 3, ho, _, hun, hd, hK =>
     cases ho
     simp only [getElem_toArray, getElem_cons_zero, getElem_cons_succ]
     have h2 : u 2 = .int .i64 i := hd 2 (by kernel_rfl) (by decide)
     simp only [putU, Nat.reduceAdd, Act.put, setIfInBounds_toArray, set_cons_zero, set_cons_succ, h2]
     have hS := HS.out W (Hw3.out.trans ((show Chg [] w3 w3.drew from (Chg.refl _ _).drew).trans hc)) (fun g hg => hc.block g hg (by simp))
     have m1 := hS.1
     have m2 := hS.2.1
     have m3 := hS.2.2.1
     have b0 := hS.2.2.2.1
     have b1 := hS.2.2.2.2.1
     have b2 := hS.2.2.2.2.2.1
     have b3 := hS.2.2.2.2.2.2.1
     have b4 := hS.2.2.2.2.2.2.2
     clear hS
     go_simp
     refine (number_any i W).mono ?_
     rintro e X ⟨rfl, hcx⟩
     have hk := hK _ _ hcx rfl trivial
     simp only [putU, Nat.reduceAdd, Act.put, setIfInBounds_toArray, set_cons_zero, set_cons_succ, getElem_toArray, getElem_cons_zero, getElem_cons_succ, h2] at hk
     exact hk
   | 4, ho, _, hun, hd, hK =>
     cases ho
     simp only [getElem_toArray, getElem_cons_zero, getElem_cons_succ]
     simp only [putU, Nat.reduceAdd, Act.put, setIfInBounds_toArray, set_cons_zero, set_cons_succ]
     have hS := HS.out W (Hw3.out.trans ((show Chg [] w3 w3.drew from (Chg.refl _ _).drew).trans hc)) (fun g hg => hc.block g hg (by simp))
     have m1 := hS.1
     have m2 := hS.2.1
     have m3 := hS.2.2.1
     have b0 := hS.2.2.2.1
     have b1 := hS.2.2.2.2.1
     have b2 := hS.2.2.2.2.2.1
     have b3 := hS.2.2.2.2.2.2.1
     have b4 := hS.2.2.2.2.2.2.2
     clear hS
     go_simp
     have hk := hK _ _ (Chg.refl [] W) rfl trivial
     simp only [putU, Nat.reduceAdd, Act.put, setIfInBounds_toArray, set_cons_zero, set_cons_succ, getElem_toArray, getElem_cons_zero, getElem_cons_succ] at hk
     exact hk
   | 5, ho, _, hun, hd, hK =>
     cases ho
     simp only [getElem_toArray, getElem_cons_zero, getElem_cons_succ]
     have h4 : u 4 = .pointer (some ⟨mb, 3, none⟩) := hd 4 (by kernel_rfl) (by decide)
     simp only [putU, Nat.reduceAdd, Act.put, setIfInBounds_toArray, set_cons_zero, set_cons_succ, h4]
     have hS := HS.out W (Hw3.out.trans ((show Chg [] w3 w3.drew from (Chg.refl _ _).drew).trans hc)) (fun g hg => hc.block g hg (by simp))
     have m1 := hS.1
     have m2 := hS.2.1
     have m3 := hS.2.2.1
     have b0 := hS.2.2.2.1
     have b1 := hS.2.2.2.2.1
     have b2 := hS.2.2.2.2.2.1
     have b3 := hS.2.2.2.2.2.2.1
     have b4 := hS.2.2.2.2.2.2.2
     clear hS
     go_simp
     have hk := hK _ _ (Chg.refl [] W) rfl trivial
     simp only [putU, Nat.reduceAdd, Act.put, setIfInBounds_toArray, set_cons_zero, set_cons_succ, getElem_toArray, getElem_cons_zero, getElem_cons_succ, h4] at hk
     exact hk
   | 6, ho, _, hun, hd, hK =>
     cases ho
     simp only [getElem_toArray, getElem_cons_zero, getElem_cons_succ]
     have h5 : u 5 = .string t := hd 5 (by kernel_rfl) (by decide)
     simp only [putU, Nat.reduceAdd, Act.put, setIfInBounds_toArray, set_cons_zero, set_cons_succ, h5]
     have hS := HS.out W (Hw3.out.trans ((show Chg [] w3 w3.drew from (Chg.refl _ _).drew).trans hc)) (fun g hg => hc.block g hg (by simp))
     have m1 := hS.1
     have m2 := hS.2.1
     have m3 := hS.2.2.1
     have b0 := hS.2.2.2.1
     have b1 := hS.2.2.2.2.1
     have b2 := hS.2.2.2.2.2.1
     have b3 := hS.2.2.2.2.2.2.1
     have b4 := hS.2.2.2.2.2.2.2
     clear hS
     go_simp
     refine (textV_any t W).mono ?_
     rintro e X ⟨rfl, hcx⟩
     have hk := hK _ _ hcx rfl trivial
     simp only [putU, Nat.reduceAdd, Act.put, setIfInBounds_toArray, set_cons_zero, set_cons_succ, getElem_toArray, getElem_cons_zero, getElem_cons_succ, h5] at hk
     exact hk
   | 7, ho, _, hun, hd, hK =>
     cases ho
     simp only [getElem_toArray, getElem_cons_zero, getElem_cons_succ]
     simp only [putU, Nat.reduceAdd, Act.put, setIfInBounds_toArray, set_cons_zero, set_cons_succ]
     have hS := HS.out W (Hw3.out.trans ((show Chg [] w3 w3.drew from (Chg.refl _ _).drew).trans hc)) (fun g hg => hc.block g hg (by simp))
     have m1 := hS.1
     have m2 := hS.2.1
     have m3 := hS.2.2.1
     have b0 := hS.2.2.2.1
     have b1 := hS.2.2.2.2.1
     have b2 := hS.2.2.2.2.2.1
     have b3 := hS.2.2.2.2.2.2.1
     have b4 := hS.2.2.2.2.2.2.2
     clear hS
     go_simp
     have hk := hK _ _ (Chg.refl [] W) rfl trivial
     simp only [putU, Nat.reduceAdd, Act.put, setIfInBounds_toArray, set_cons_zero, set_cons_succ, getElem_toArray, getElem_cons_zero, getElem_cons_succ] at hk
     exact hk
   | 8, ho, _, hun, hd, hK =>
     cases ho
     simp only [getElem_toArray, getElem_cons_zero, getElem_cons_succ]
     have h3 : u 3 = .agg #[.int .i64 2, .int .i64 i, .string ⟨#[]⟩, .slice none 0 0, .slice none 0 0] := hd 3 (by kernel_rfl) (by decide)
     have h6 : u 6 = .agg #[.int .i64 3, .int .i64 0, .string t, .slice none 0 0, .slice none 0 0] := hd 6 (by kernel_rfl) (by decide)
     have h7 : u 7 = .agg #[.int .i64 ek, .int .i64 en, .string et, .slice ena enl enc, .slice eia eil eic] := hd 7 (by kernel_rfl) (by decide)
     simp only [putU, Nat.reduceAdd, Act.put, setIfInBounds_toArray, set_cons_zero, set_cons_succ, h3, h6, h7]
     have hS := HS.out W (Hw3.out.trans ((show Chg [] w3 w3.drew from (Chg.refl _ _).drew).trans hc)) (fun g hg => hc.block g hg (by simp))
     have m1 := hS.1
     have m2 := hS.2.1
     have m3 := hS.2.2.1
     have b0 := hS.2.2.2.1
     have b1 := hS.2.2.2.2.1
     have b2 := hS.2.2.2.2.2.1
     have b3 := hS.2.2.2.2.2.2.1
     have b4 := hS.2.2.2.2.2.2.2
     clear hS
     go_simp
     have hcw : Chg [] W (W.alloc (.cells #[.int .i64 2, .int .i64 i, .string ⟨#[]⟩, .slice none 0 0, .slice none 0 0, .int .i64 3, .int .i64 0, .string t, .slice none 0 0, .slice none 0 0, .int .i64 ek, .int .i64 en, .string et, .slice ena enl enc, .slice eia eil eic] 59)) := (Chg.refl _ _).alloc _
     have hgt : mb + 1 < W.heap.size := Nat.lt_of_lt_of_le Hlt.out (Nat.le_trans (show w3.heap.size ≤ w3.drew.heap.size from Nat.le_refl _) hc.size)
     have hk := hK _ _ hcw ⟨W.heap.size, rfl, ⟨heap_at _ _ _ rfl, hgt⟩⟩ trivial
     simp only [putU, Nat.reduceAdd, Act.put, setIfInBounds_toArray, set_cons_zero, set_cons_succ, getElem_toArray, getElem_cons_zero, getElem_cons_succ, h3, h6, h7] at hk
     exact hk
   | 9, ho, _, hun, hd, hK =>
     cases ho
     simp only [getElem_toArray, getElem_cons_zero, getElem_cons_succ]
     have h0 : ∃ g0, u 0 = .slice (some ⟨g0, 0, none⟩) 3 3 ∧ (W.heap[g0]? = some (.cells #[.string ⟨#[105, 100]⟩, .string ⟨#[109, 101, 116, 104, 111, 100]⟩, .string ⟨#[112, 97, 114, 97, 109, 115]⟩] 9 (0, 0)) ∧ mb + 1 < g0) := hd 0 (by kernel_rfl) (by decide)
     obtain ⟨g0, h0, f0⟩ := h0
     have h8 : ∃ g8, u 8 = .slice (some ⟨g8, 0, none⟩) 3 3 ∧ (W.heap[g8]? = some (.cells #[.int .i64 2, .int .i64 i, .string ⟨#[]⟩, .slice none 0 0, .slice none 0 0, .int .i64 3, .int .i64 0, .string t, .slice none 0 0, .slice none 0 0, .int .i64 ek, .int .i64 en, .string et, .slice ena enl enc, .slice eia eil eic] 59 (0, 0)) ∧ mb + 1 < g8) := hd 8 (by kernel_rfl) (by decide)
     obtain ⟨g8, h8, f8⟩ := h8
     simp only [putU, Nat.reduceAdd, Act.put, setIfInBounds_toArray, set_cons_zero, set_cons_succ, h0, h8]
     have hS := HS.out W (Hw3.out.trans ((show Chg [] w3 w3.drew from (Chg.refl _ _).drew).trans hc)) (fun g hg => hc.block g hg (by simp))
     have m1 := hS.1
     have m2 := hS.2.1
     have m3 := hS.2.2.1
     have b0 := hS.2.2.2.1
     have b1 := hS.2.2.2.2.1
     have b2 := hS.2.2.2.2.2.1
     have b3 := hS.2.2.2.2.2.2.1
     have b4 := hS.2.2.2.2.2.2.2
     clear hS
     go_simp
     refine (object_any (some ⟨g0, 0, none⟩) (some ⟨g8, 0, none⟩) 3 3 3 3 W).mono ?_
     rintro e X ⟨rfl, hcx⟩
     have hk := hK _ _ hcx ⟨g0, g8, rfl, kp1 hcx f0, kp1 hcx f8⟩ trivial
     simp only [putU, Nat.reduceAdd, Act.put, setIfInBounds_toArray, set_cons_zero, set_cons_succ, getElem_toArray, getElem_cons_zero, getElem_cons_succ, h0, h8] at hk
     exact hk
   | (q + 10), _, hn, _, _, _ => exact absurd hn (by omega)
 · intro u W hc hR hG
   have h9 : ∃ g0 g8, u 9 = .agg #[.int .i64 5, .int .i64 0, .string ⟨#[]⟩, .slice (some ⟨g0, 0, none⟩) 3 3, .slice (some ⟨g8, 0, none⟩) 3 3] ∧ (W.heap[g0]? = some (.cells #[.string ⟨#[105, 100]⟩, .string ⟨#[109, 101, 116, 104, 111, 100]⟩, .string ⟨#[112, 97, 114, 97, 109, 115]⟩] 9 (0, 0)) ∧ mb + 1 < g0) ∧ (W.heap[g8]? = some (.cells #[.int .i64 2, .int .i64 i, .string ⟨#[]⟩, .slice none 0 0, .slice none 0 0, .int .i64 3, .int .i64 0, .string t, .slice none 0 0, .slice none 0 0, .int .i64 ek, .int .i64 en, .string et, .slice ena enl enc, .slice eia eil eic] 59 (0, 0)) ∧ mb + 1 < g8) := hR 9 (by decide)
   obtain ⟨g0, g8, h9, f0, f8⟩ := h9
   have hcW := Hw3.out.trans ((show Chg [] w3 w3.drew from (Chg.refl _ _).drew).trans hc)
   have Hend3 := Lib.hid ((show Chg [] w3 w3.drew from (Chg.refl _ _).drew).trans hc)
   have hr3 := (hcW.block (mb + 1) (lt_of_obj Hr1.out) (by simp)).trans Hr1.out
   obtain ⟨r0, r1, r2, r3, r4⟩ := box_kept (mb + 1) hr3 (Chg.refl [] W)
   have fr := fun i => frozen_of_heap (i := i) hr3
   have lr := lt_of_cell r0
   simp only [putU, Nat.reduceAdd, Act.put, setIfInBounds_toArray, set_cons_zero, set_cons_succ, h9]
   refine anyU_one (k := 10) (by kernel_rfl) rfl (fun K hK => ?_)
   go_simp
   refine hK _ _ (fun _ => trivial) trivial ?_
   clear hK K
   refine anyU_done (by kernel_rfl) ?_
   have Hend := Lib.hid hcW
   have F0 := Lib.hid f0
   have F8 := Lib.hid f8
   clear hcW f0 f8 hc hR hG hr3
   go_wp2_with fail
   refine bodyPost_ret (v := .agg #[.int .i64 5, .int .i64 0, .string ⟨#[]⟩, .slice (some ⟨g0, 0, none⟩) 3 3, .slice (some ⟨g8, 0, none⟩) 3 3]) (by simp [results, Tryz.results75, go_sem, r0, r1, r2, r3, r4]) rfl ?_
   have hcs := st5_chg W (mb + 1) 0 ⟨5, 0, ⟨#[]⟩, some ⟨g0, 0, none⟩, 3, 3, some ⟨g8, 0, none⟩, 3, 3⟩
   have hbd := Hbody.out W Hend.out hcs Hend3.out
   show ToPostB (.mk 5 0 ⟨#[]⟩ [⟨#[105, 100]⟩, ⟨#[109, 101, 116, 104, 111, 100]⟩, ⟨#[112, 97, 114, 97, 109, 115]⟩] [(.mk 2 i ⟨#[]⟩ [] []), (.mk 3 0 t [] []), b]) w _ (st5 W (mb + 1) 0 ⟨5, 0, ⟨#[]⟩, some ⟨g0, 0, none⟩, 3, 3, some ⟨g8, 0, none⟩, 3, 3⟩)
   generalize st5 W (mb + 1) 0 ⟨5, 0, ⟨#[]⟩, some ⟨g0, 0, none⟩, 3, 3, some ⟨g8, 0, none⟩, 3, 3⟩ = X at hcs hbd ⊢
   exact toB1_end (i := i) (c := c) Hts.out ((hcs.block g0 (lt_of_obj F0.out.1) (by have := F0.out.2; simp; omega)).trans F0.out.1) ((hcs.block g8 (lt_of_obj F8.out.1) (by have := F8.out.2; simp; omega)).trans F8.out.1) (by have := F0.out.2; omega) (by have := F8.out.2; omega) Hmb.out hbd ((HcA.out.trans Hend.out).comp hcs fun g hg => Or.inr (by have := List.mem_singleton.1 hg; have := Hmb.out; omega))
theorem toB2_end {mb f : Nat} {i c ek en : Int} {t et : ByteArray} {ena eia : Option Addr} {enl enc eil eic : Nat} {b : J} {w W : World} {g0 g5 : Nat} (ht : t.size ≤ maxLen) (q0 : W.heap[g0]? = some (.cells #[.string ⟨#[109, 101, 116, 104, 111, 100]⟩, .string ⟨#[112, 97, 114, 97, 109, 115]⟩] 9 (0, 0))) (q5 : W.heap[g5]? = some (.cells #[.int .i64 3, .int .i64 0, .string t, .slice none 0 0, .slice none 0 0, .int .i64 ek, .int .i64 en, .string et, .slice ena enl enc, .slice eia eil eic] 59 (0, 0))) (l0 : mb ≤ g0) (l5 : mb ≤ g5) (hm : mb = w.heap.size) (hb : JN w.heap.size f W (Ev.val ⟨ek, en, et, ena, enl, enc, eia, eil, eic⟩) b) (hc : Chg [] w W) :
 ToPostB (.mk 5 0 ⟨#[]⟩ [⟨#[109, 101, 116, 104, 111, 100]⟩, ⟨#[112, 97, 114, 97, 109, 115]⟩] [(.mk 3 0 t [] []), b]) w (.returned (.agg #[.int .i64 5, .int .i64 0, .string ⟨#[]⟩, .slice (some ⟨g0, 0, none⟩) 2 2, .slice (some ⟨g5, 0, none⟩) 2 2])) W :=
 ⟨_, _, rfl, JN.mk (nms_2 q0 (by omega) (by decide) (by decide)) (els_2 (f := f + 1) (lt_of_obj q5) (by omega) (rd_leaf (cell_of_heap q5 rfl) (cell_of_heap q5 rfl) (cell_of_heap q5 rfl) (cell_of_heap q5 rfl) (cell_of_heap q5 rfl) ht) (rd_val (e := ⟨ek, en, et, ena, enl, enc, eia, eil, eic⟩) hb (cell_of_heap q5 rfl) (cell_of_heap q5 rfl) (cell_of_heap q5 rfl) (cell_of_heap q5 rfl) (cell_of_heap q5 rfl))) (by decide), hc⟩
set_option maxRecDepth 100000 in
set_option maxHeartbeats 16000000 in
theorem toB2 (p : Nat → Prop) (f : Nat) (i c : Int) (t : ByteArray) (e : Ev) (b : J) (w : World) (ht : t.size ≤ maxLen) (hb : JV p f w e.val b) (hs : Sm b) : Calls Tryz.prog 75 #[mB 2 i c t e] w (ToPostB (.mk 5 0 ⟨#[]⟩ [⟨#[109, 101, 116, 104, 111, 100]⟩, ⟨#[112, 97, 114, 97, 109, 115]⟩] [(.mk 3 0 t [] []), b]) w) := by
 obtain ⟨xk, xn, xt, xna, xnl, xnc, xia, xil, xic⟩ := e
 unfold mB
 unfold Ev.val at hb
 simp only at hb ⊢
 obtain ⟨w1, hw1⟩ : ∃ x, x = (w.alloc (.cells #[.int .i64 2, .int .i64 i, .int .i64 c, .string t, .int .i64 xk, .int .i64 xn, .string xt, .slice xna xnl xnc, .slice xia xil xic] 61)).alloc (.cells #[.int .i64 0, .int .i64 0, .string ⟨#[]⟩, .slice none 0 0, .slice none 0 0] 59) := ⟨_, rfl⟩
 obtain ⟨mb, hmb⟩ : ∃ x, x = w.heap.size := ⟨_, rfl⟩
 have hc1 : Chg [] w w1 := by rw [hw1]; exact ((Chg.refl _ _).alloc _).alloc _
 have hm1 : w1.heap[mb]? = some (.cells #[.int .i64 2, .int .i64 i, .int .i64 c, .string t, .int .i64 xk, .int .i64 xn, .string xt, .slice xna xnl xnc, .slice xia xil xic] 61 (0, 0)) := by
  rw [hw1, hmb, heap_past _ _ _ (by simp)]
  exact heap_at _ _ _ rfl
 have hr1 : w1.heap[mb + 1]? = some (.cells #[.int .i64 0, .int .i64 0, .string ⟨#[]⟩, .slice none 0 0, .slice none 0 0] 59 (0, 0)) := by
  rw [hw1, hmb]
  exact heap_at _ _ _ (by simp)
 have Hcl := Lib.hid (cloneR_any p f w1 b _ (hb.kept (S := fun _ => False) hc1.p (fun _ _ h => h)) hs)
 have Hmb := Lib.hid hmb
 have HcA := Lib.hid hc1
 have Hm1 := Lib.hid hm1
 have Hr1 := Lib.hid hr1
 have Hts := Lib.hid ht
 clear hc1 hm1 hr1 ht hb hs
 go_enter Tryz.func75, Tryz.ntmps75
 go_wp2_with fail
 rw [← hw1, ← hmb]
 clear hw1 hmb
 refine Hcl.out.mono ?_
 rintro e w2 ⟨v2, rfl, hv2, hc2⟩
 obtain ⟨⟨ek, en, et, ena, enl, enc, eia, eil, eic⟩, rfl⟩ := hv2.ev'
 unfold Ev.val
 obtain ⟨w3, hw3⟩ : ∃ x, x = w2.alloc (.cells #[.int .i64 ek, .int .i64 en, .string et, .slice ena enl enc, .slice eia eil eic] 59) := ⟨_, rfl⟩
 obtain ⟨bb, hbb⟩ : ∃ x, x = w2.heap.size := ⟨_, rfl⟩
 have hc23 : Chg [] w2 w3 := by rw [hw3]; exact (Chg.refl _ _).alloc _
 have hc3 : Chg [] w1 w3 := hc2.trans hc23
 have hb3 : w3.heap[bb]? = some (.cells #[.int .i64 ek, .int .i64 en, .string et, .slice ena enl enc, .slice eia eil eic] 59 (0, 0)) := by rw [hw3, hbb]; exact heap_at _ _ _ rfl
 obtain ⟨m0, m1, m2, m3, m4, m5, m6, m7, m8⟩ := msg_cells mb Hm1.out hc3
 have Hw3 := Lib.hid (hc3)
 have Hlt : Hid (mb + 1 < w3.heap.size) := Lib.hid (Nat.lt_of_lt_of_le (lt_of_obj Hr1.out) hc3.size)
 have HS : Hid (∀ W, Chg [] w1 W → (∀ g, g < w3.heap.size → W.heap[g]? = w3.heap[g]?) → W.cell? ⟨mb, 1, none⟩ = some (.int .i64 i) ∧ W.cell? ⟨mb, 2, none⟩ = some (.int .i64 c) ∧ W.cell? ⟨mb, 3, none⟩ = some (.string t) ∧ W.cell? ⟨bb, 0, none⟩ = some (.int .i64 ek) ∧ W.cell? ⟨bb, 1, none⟩ = some (.int .i64 en) ∧ W.cell? ⟨bb, 2, none⟩ = some (.string et) ∧ W.cell? ⟨bb, 3, none⟩ = some (.slice ena enl enc) ∧ W.cell? ⟨bb, 4, none⟩ = some (.slice eia eil eic)) := Lib.hid (fun W hW hB => by
  have e0 := hB mb (Nat.lt_trans (Nat.lt_succ_self _) Hlt.out)
  have e1 := hB bb (lt_of_obj hb3)
  have q := (Hw3.out.block mb (lt_of_obj Hm1.out) (by simp)).trans Hm1.out
  exact ⟨cell_of_heap (e0.trans q) rfl, cell_of_heap (e0.trans q) rfl, cell_of_heap (e0.trans q) rfl, cell_of_heap (e1.trans hb3) rfl, cell_of_heap (e1.trans hb3) rfl, cell_of_heap (e1.trans hb3) rfl, cell_of_heap (e1.trans hb3) rfl, cell_of_heap (e1.trans hb3) rfl⟩)
 have Hbody : Hid (∀ W {e : Ev}, Chg [] w1 W → Chg [mb + 1] W (st5 W (mb + 1) 0 e) → Chg [] w3 W → JN w.heap.size (f + 1) (st5 W (mb + 1) 0 e) (Ev.val ⟨ek, en, et, ena, enl, enc, eia, eil, eic⟩) b) := Lib.hid (fun W e hW hst hW3 => by
  have hv := hv2.same (hc23.trans hW3)
  refine (hv.kept hst.toP fun g hg hm => ?_).imp fun g hg => ⟨Nat.le_trans HcA.out.size hg.1, Nat.lt_of_lt_of_le hg.2 hst.size⟩
  have := List.mem_singleton.1 hm
  have := lt_of_obj Hr1.out
  have := hg.1
  omega)
 clear hc2 hc3 hb3 hc23 hv2
 go_upto_region 2 with fail
 rw [← hw3, ← hbb]
 clear hw3 hbb
 go_upto_region 6 with fail
 clear m0 m1 m2 m3 m4 m5 m6 m7 m8
 refine wp_region_put 7 [some 23, some 24, some 25, some 26, some 27, some 28, some 29] (fun j v W => match j with
  | 0 => ∃ g0, v = .slice (some ⟨g0, 0, none⟩) 2 2 ∧ (W.heap[g0]? = some (.cells #[.string ⟨#[109, 101, 116, 104, 111, 100]⟩, .string ⟨#[112, 97, 114, 97, 109, 115]⟩] 9 (0, 0)) ∧ mb + 1 < g0)
  | 1 => v = .pointer (some ⟨mb, 3, none⟩)
  | 2 => v = .string t
  | 3 => v = .agg #[.int .i64 3, .int .i64 0, .string t, .slice none 0 0, .slice none 0 0]
  | 4 => v = .agg #[.int .i64 ek, .int .i64 en, .string et, .slice ena enl enc, .slice eia eil eic]
  | 5 => ∃ g5, v = .slice (some ⟨g5, 0, none⟩) 2 2 ∧ (W.heap[g5]? = some (.cells #[.int .i64 3, .int .i64 0, .string t, .slice none 0 0, .slice none 0 0, .int .i64 ek, .int .i64 en, .string et, .slice ena enl enc, .slice eia eil eic] 59 (0, 0)) ∧ mb + 1 < g5)
  | 6 => ∃ g0 g5, v = .agg #[.int .i64 5, .int .i64 0, .string ⟨#[]⟩, .slice (some ⟨g0, 0, none⟩) 2 2, .slice (some ⟨g5, 0, none⟩) 2 2] ∧ (W.heap[g0]? = some (.cells #[.string ⟨#[109, 101, 116, 104, 111, 100]⟩, .string ⟨#[112, 97, 114, 97, 109, 115]⟩] 9 (0, 0)) ∧ mb + 1 < g0) ∧ (W.heap[g5]? = some (.cells #[.int .i64 3, .int .i64 0, .string t, .slice none 0 0, .slice none 0 0, .int .i64 ek, .int .i64 en, .string et, .slice ena enl enc, .slice eia eil eic] 59 (0, 0)) ∧ mb + 1 < g5)
  | _ => True) (fun _ _ _ => True) (by kernel_rfl) (by kernel_rfl) (by kernel_rfl) (fun _ => trivial) ?_ ?_ ?_
 · intro j v W W2 hcw hR
   match j, hR with
   | 0, hR => obtain ⟨g0, h1, f0⟩ := hR; exact ⟨g0, h1, kp1 hcw f0⟩
   | 1, hR => exact hR
   | 2, hR => exact hR
   | 3, hR => exact hR
   | 4, hR => exact hR
   | 5, hR => obtain ⟨g5, h1, f5⟩ := hR; exact ⟨g5, h1, kp1 hcw f5⟩
   | 6, hR => obtain ⟨g0, g5, h1, f0, f5⟩ := hR; exact ⟨g0, g5, h1, kp1 hcw f0, kp1 hcw f5⟩
   | (j + 7), hR => exact trivial
 · intro q o ho hn listed u W hun hall hd hc hG K hK
   match q, ho, hn, hun, hd, hK with
   | 0, ho, _, hun, hd, hK =>
     cases ho
     simp only [getElem_toArray, getElem_cons_zero, getElem_cons_succ]
     simp only [putU, Nat.reduceAdd, Act.put, setIfInBounds_toArray, set_cons_zero, set_cons_succ]
     have hS := HS.out W (Hw3.out.trans ((show Chg [] w3 w3.drew from (Chg.refl _ _).drew).trans hc)) (fun g hg => hc.block g hg (by simp))
     have m1 := hS.1
     have m2 := hS.2.1
     have m3 := hS.2.2.1
     have b0 := hS.2.2.2.1
     have b1 := hS.2.2.2.2.1
     have b2 := hS.2.2.2.2.2.1
     have b3 := hS.2.2.2.2.2.2.1
     have b4 := hS.2.2.2.2.2.2.2
     clear hS
     go_simp
     have hcw : Chg [] W (W.alloc (.cells #[.string ⟨#[109, 101, 116, 104, 111, 100]⟩, .string ⟨#[112, 97, 114, 97, 109, 115]⟩] 9)) := (Chg.refl _ _).alloc _
     have hgt : mb + 1 < W.heap.size := Nat.lt_of_lt_of_le Hlt.out (Nat.le_trans (show w3.heap.size ≤ w3.drew.heap.size from Nat.le_refl _) hc.size)
     have hk := hK _ _ hcw ⟨W.heap.size, rfl, ⟨heap_at _ _ _ rfl, hgt⟩⟩ trivial
     simp only [putU, Nat.reduceAdd, Act.put, setIfInBounds_toArray, set_cons_zero, set_cons_succ, getElem_toArray, getElem_cons_zero, getElem_cons_succ] at hk
     exact hk
   | 1, ho, _, hun, hd, hK =>
     cases ho
     simp only [getElem_toArray, getElem_cons_zero, getElem_cons_succ]
     simp only [putU, Nat.reduceAdd, Act.put, setIfInBounds_toArray, set_cons_zero, set_cons_succ]
     have hS := HS.out W (Hw3.out.trans ((show Chg [] w3 w3.drew from (Chg.refl _ _).drew).trans hc)) (fun g hg => hc.block g hg (by simp))
     have m1 := hS.1
     have m2 := hS.2.1
     have m3 := hS.2.2.1
     have b0 := hS.2.2.2.1
     have b1 := hS.2.2.2.2.1
     have b2 := hS.2.2.2.2.2.1
     have b3 := hS.2.2.2.2.2.2.1
     have b4 := hS.2.2.2.2.2.2.2
     clear hS
     go_simp
     have hk := hK _ _ (Chg.refl [] W) rfl trivial
     simp only [putU, Nat.reduceAdd, Act.put, setIfInBounds_toArray, set_cons_zero, set_cons_succ, getElem_toArray, getElem_cons_zero, getElem_cons_succ] at hk
     exact hk
   | 2, ho, _, hun, hd, hK =>
     cases ho
     simp only [getElem_toArray, getElem_cons_zero, getElem_cons_succ]
     have h1 : u 1 = .pointer (some ⟨mb, 3, none⟩) := hd 1 (by kernel_rfl) (by decide)
     simp only [putU, Nat.reduceAdd, Act.put, setIfInBounds_toArray, set_cons_zero, set_cons_succ, h1]
     have hS := HS.out W (Hw3.out.trans ((show Chg [] w3 w3.drew from (Chg.refl _ _).drew).trans hc)) (fun g hg => hc.block g hg (by simp))
     have m1 := hS.1
     have m2 := hS.2.1
     have m3 := hS.2.2.1
     have b0 := hS.2.2.2.1
     have b1 := hS.2.2.2.2.1
     have b2 := hS.2.2.2.2.2.1
     have b3 := hS.2.2.2.2.2.2.1
     have b4 := hS.2.2.2.2.2.2.2
     clear hS
     go_simp
     have hk := hK _ _ (Chg.refl [] W) rfl trivial
     simp only [putU, Nat.reduceAdd, Act.put, setIfInBounds_toArray, set_cons_zero, set_cons_succ, getElem_toArray, getElem_cons_zero, getElem_cons_succ, h1] at hk
     exact hk
   | 3, ho, _, hun, hd, hK =>
     cases ho
     simp only [getElem_toArray, getElem_cons_zero, getElem_cons_succ]
     have h2 : u 2 = .string t := hd 2 (by kernel_rfl) (by decide)
     simp only [putU, Nat.reduceAdd, Act.put, setIfInBounds_toArray, set_cons_zero, set_cons_succ, h2]
     have hS := HS.out W (Hw3.out.trans ((show Chg [] w3 w3.drew from (Chg.refl _ _).drew).trans hc)) (fun g hg => hc.block g hg (by simp))
     have m1 := hS.1
     have m2 := hS.2.1
     have m3 := hS.2.2.1
     have b0 := hS.2.2.2.1
     have b1 := hS.2.2.2.2.1
     have b2 := hS.2.2.2.2.2.1
     have b3 := hS.2.2.2.2.2.2.1
     have b4 := hS.2.2.2.2.2.2.2
     clear hS
     go_simp
     refine (textV_any t W).mono ?_
     rintro e X ⟨rfl, hcx⟩
     have hk := hK _ _ hcx rfl trivial
     simp only [putU, Nat.reduceAdd, Act.put, setIfInBounds_toArray, set_cons_zero, set_cons_succ, getElem_toArray, getElem_cons_zero, getElem_cons_succ, h2] at hk
     exact hk
   | 4, ho, _, hun, hd, hK =>
     cases ho
     simp only [getElem_toArray, getElem_cons_zero, getElem_cons_succ]
     simp only [putU, Nat.reduceAdd, Act.put, setIfInBounds_toArray, set_cons_zero, set_cons_succ]
     have hS := HS.out W (Hw3.out.trans ((show Chg [] w3 w3.drew from (Chg.refl _ _).drew).trans hc)) (fun g hg => hc.block g hg (by simp))
     have m1 := hS.1
     have m2 := hS.2.1
     have m3 := hS.2.2.1
     have b0 := hS.2.2.2.1
     have b1 := hS.2.2.2.2.1
     have b2 := hS.2.2.2.2.2.1
     have b3 := hS.2.2.2.2.2.2.1
     have b4 := hS.2.2.2.2.2.2.2
     clear hS
     go_simp
     have hk := hK _ _ (Chg.refl [] W) rfl trivial
     simp only [putU, Nat.reduceAdd, Act.put, setIfInBounds_toArray, set_cons_zero, set_cons_succ, getElem_toArray, getElem_cons_zero, getElem_cons_succ] at hk
     exact hk
   | 5, ho, _, hun, hd, hK =>
     cases ho
     simp only [getElem_toArray, getElem_cons_zero, getElem_cons_succ]
     have h3 : u 3 = .agg #[.int .i64 3, .int .i64 0, .string t, .slice none 0 0, .slice none 0 0] := hd 3 (by kernel_rfl) (by decide)
     have h4 : u 4 = .agg #[.int .i64 ek, .int .i64 en, .string et, .slice ena enl enc, .slice eia eil eic] := hd 4 (by kernel_rfl) (by decide)
     simp only [putU, Nat.reduceAdd, Act.put, setIfInBounds_toArray, set_cons_zero, set_cons_succ, h3, h4]
     have hS := HS.out W (Hw3.out.trans ((show Chg [] w3 w3.drew from (Chg.refl _ _).drew).trans hc)) (fun g hg => hc.block g hg (by simp))
     have m1 := hS.1
     have m2 := hS.2.1
     have m3 := hS.2.2.1
     have b0 := hS.2.2.2.1
     have b1 := hS.2.2.2.2.1
     have b2 := hS.2.2.2.2.2.1
     have b3 := hS.2.2.2.2.2.2.1
     have b4 := hS.2.2.2.2.2.2.2
     clear hS
     go_simp
     have hcw : Chg [] W (W.alloc (.cells #[.int .i64 3, .int .i64 0, .string t, .slice none 0 0, .slice none 0 0, .int .i64 ek, .int .i64 en, .string et, .slice ena enl enc, .slice eia eil eic] 59)) := (Chg.refl _ _).alloc _
     have hgt : mb + 1 < W.heap.size := Nat.lt_of_lt_of_le Hlt.out (Nat.le_trans (show w3.heap.size ≤ w3.drew.heap.size from Nat.le_refl _) hc.size)
     have hk := hK _ _ hcw ⟨W.heap.size, rfl, ⟨heap_at _ _ _ rfl, hgt⟩⟩ trivial
     simp only [putU, Nat.reduceAdd, Act.put, setIfInBounds_toArray, set_cons_zero, set_cons_succ, getElem_toArray, getElem_cons_zero, getElem_cons_succ, h3, h4] at hk
     exact hk
   | 6, ho, _, hun, hd, hK =>
     cases ho
     simp only [getElem_toArray, getElem_cons_zero, getElem_cons_succ]
     have h0 : ∃ g0, u 0 = .slice (some ⟨g0, 0, none⟩) 2 2 ∧ (W.heap[g0]? = some (.cells #[.string ⟨#[109, 101, 116, 104, 111, 100]⟩, .string ⟨#[112, 97, 114, 97, 109, 115]⟩] 9 (0, 0)) ∧ mb + 1 < g0) := hd 0 (by kernel_rfl) (by decide)
     obtain ⟨g0, h0, f0⟩ := h0
     have h5 : ∃ g5, u 5 = .slice (some ⟨g5, 0, none⟩) 2 2 ∧ (W.heap[g5]? = some (.cells #[.int .i64 3, .int .i64 0, .string t, .slice none 0 0, .slice none 0 0, .int .i64 ek, .int .i64 en, .string et, .slice ena enl enc, .slice eia eil eic] 59 (0, 0)) ∧ mb + 1 < g5) := hd 5 (by kernel_rfl) (by decide)
     obtain ⟨g5, h5, f5⟩ := h5
     simp only [putU, Nat.reduceAdd, Act.put, setIfInBounds_toArray, set_cons_zero, set_cons_succ, h0, h5]
     have hS := HS.out W (Hw3.out.trans ((show Chg [] w3 w3.drew from (Chg.refl _ _).drew).trans hc)) (fun g hg => hc.block g hg (by simp))
     have m1 := hS.1
     have m2 := hS.2.1
     have m3 := hS.2.2.1
     have b0 := hS.2.2.2.1
     have b1 := hS.2.2.2.2.1
     have b2 := hS.2.2.2.2.2.1
     have b3 := hS.2.2.2.2.2.2.1
     have b4 := hS.2.2.2.2.2.2.2
     clear hS
     go_simp
     refine (object_any (some ⟨g0, 0, none⟩) (some ⟨g5, 0, none⟩) 2 2 2 2 W).mono ?_
     rintro e X ⟨rfl, hcx⟩
     have hk := hK _ _ hcx ⟨g0, g5, rfl, kp1 hcx f0, kp1 hcx f5⟩ trivial
     simp only [putU, Nat.reduceAdd, Act.put, setIfInBounds_toArray, set_cons_zero, set_cons_succ, getElem_toArray, getElem_cons_zero, getElem_cons_succ, h0, h5] at hk
     exact hk
   | (q + 7), _, hn, _, _, _ => exact absurd hn (by omega)
 · intro u W hc hR hG
   have h6 : ∃ g0 g5, u 6 = .agg #[.int .i64 5, .int .i64 0, .string ⟨#[]⟩, .slice (some ⟨g0, 0, none⟩) 2 2, .slice (some ⟨g5, 0, none⟩) 2 2] ∧ (W.heap[g0]? = some (.cells #[.string ⟨#[109, 101, 116, 104, 111, 100]⟩, .string ⟨#[112, 97, 114, 97, 109, 115]⟩] 9 (0, 0)) ∧ mb + 1 < g0) ∧ (W.heap[g5]? = some (.cells #[.int .i64 3, .int .i64 0, .string t, .slice none 0 0, .slice none 0 0, .int .i64 ek, .int .i64 en, .string et, .slice ena enl enc, .slice eia eil eic] 59 (0, 0)) ∧ mb + 1 < g5) := hR 6 (by decide)
   obtain ⟨g0, g5, h6, f0, f5⟩ := h6
   have hcW := Hw3.out.trans ((show Chg [] w3 w3.drew from (Chg.refl _ _).drew).trans hc)
   have Hend3 := Lib.hid ((show Chg [] w3 w3.drew from (Chg.refl _ _).drew).trans hc)
   have hr3 := (hcW.block (mb + 1) (lt_of_obj Hr1.out) (by simp)).trans Hr1.out
   obtain ⟨r0, r1, r2, r3, r4⟩ := box_kept (mb + 1) hr3 (Chg.refl [] W)
   have fr := fun i => frozen_of_heap (i := i) hr3
   have lr := lt_of_cell r0
   simp only [putU, Nat.reduceAdd, Act.put, setIfInBounds_toArray, set_cons_zero, set_cons_succ, h6]
   refine anyU_one (k := 7) (by kernel_rfl) rfl (fun K hK => ?_)
   go_simp
   refine hK _ _ (fun _ => trivial) trivial ?_
   clear hK K
   refine anyU_done (by kernel_rfl) ?_
   have Hend := Lib.hid hcW
   have F0 := Lib.hid f0
   have F5 := Lib.hid f5
   clear hcW f0 f5 hc hR hG hr3
   go_wp2_with fail
   refine bodyPost_ret (v := .agg #[.int .i64 5, .int .i64 0, .string ⟨#[]⟩, .slice (some ⟨g0, 0, none⟩) 2 2, .slice (some ⟨g5, 0, none⟩) 2 2]) (by simp [results, Tryz.results75, go_sem, r0, r1, r2, r3, r4]) rfl ?_
   have hcs := st5_chg W (mb + 1) 0 ⟨5, 0, ⟨#[]⟩, some ⟨g0, 0, none⟩, 2, 2, some ⟨g5, 0, none⟩, 2, 2⟩
   have hbd := Hbody.out W Hend.out hcs Hend3.out
   show ToPostB (.mk 5 0 ⟨#[]⟩ [⟨#[109, 101, 116, 104, 111, 100]⟩, ⟨#[112, 97, 114, 97, 109, 115]⟩] [(.mk 3 0 t [] []), b]) w _ (st5 W (mb + 1) 0 ⟨5, 0, ⟨#[]⟩, some ⟨g0, 0, none⟩, 2, 2, some ⟨g5, 0, none⟩, 2, 2⟩)
   generalize st5 W (mb + 1) 0 ⟨5, 0, ⟨#[]⟩, some ⟨g0, 0, none⟩, 2, 2, some ⟨g5, 0, none⟩, 2, 2⟩ = X at hcs hbd ⊢
   exact toB2_end (i := i) (c := c) Hts.out ((hcs.block g0 (lt_of_obj F0.out.1) (by have := F0.out.2; simp; omega)).trans F0.out.1) ((hcs.block g5 (lt_of_obj F5.out.1) (by have := F5.out.2; simp; omega)).trans F5.out.1) (by have := F0.out.2; omega) (by have := F5.out.2; omega) Hmb.out hbd ((HcA.out.trans Hend.out).comp hcs fun g hg => Or.inr (by have := List.mem_singleton.1 hg; have := Hmb.out; omega))
def isNJ (b : J) : Bool := decide (b.kind = 0) && (decide (b.num = 0) && (decide (b.text = ⟨#[]⟩) && decide (b.names.length + b.elems.length = 0)))
def wfJ (k i c : Int) (t : ByteArray) (b : J) : Bool := (if k = 2 then decide (i = 0) else decide (0 ≤ i) && decide (i ≤ 2147483647)) && ((if k = 4 then decide (1 ≤ c) && decide (c ≤ 99) else decide (c = 0)) && ((if k = 4 ∨ k = 5 then isNJ b else true) && vmM k t))
def toM (k i c : Int) (t : ByteArray) (b : J) : J :=
 if k = 1 then .mk 5 0 ⟨#[]⟩ [⟨#[105, 100]⟩, ⟨#[109, 101, 116, 104, 111, 100]⟩, ⟨#[112, 97, 114, 97, 109, 115]⟩] [.mk 2 i ⟨#[]⟩ [] [], .mk 3 0 t [] [], b]
 else if k = 2 then .mk 5 0 ⟨#[]⟩ [⟨#[109, 101, 116, 104, 111, 100]⟩, ⟨#[112, 97, 114, 97, 109, 115]⟩] [.mk 3 0 t [] [], b]
 else if k = 3 then .mk 5 0 ⟨#[]⟩ [⟨#[105, 100]⟩, ⟨#[114, 101, 115, 117, 108, 116]⟩] [.mk 2 i ⟨#[]⟩ [] [], b]
 else if k = 4 then .mk 5 0 ⟨#[]⟩ [⟨#[105, 100]⟩, ⟨#[101, 114, 114, 111, 114]⟩] [.mk 2 i ⟨#[]⟩ [] [], .mk 5 0 ⟨#[]⟩ [⟨#[99, 111, 100, 101]⟩, ⟨#[109, 101, 115, 115, 97, 103, 101]⟩] [.mk 2 c ⟨#[]⟩ [] [], .mk 3 0 t [] []]]
 else .mk 5 0 ⟨#[]⟩ [⟨#[109, 101, 116, 104, 111, 100]⟩, ⟨#[112, 97, 114, 97, 109, 115]⟩] [.mk 3 0 ⟨#[36, 47, 99, 97, 110, 99, 101, 108]⟩ [] [], .mk 5 0 ⟨#[]⟩ [⟨#[105, 100]⟩] [.mk 2 i ⟨#[]⟩ [] []]]
def encM (k i c : Int) (t : ByteArray) (b : J) : Int × J :=
 if k < 1 ∨ 5 < k then (7, J.zero) else if wfJ k i c t b = false then (3, J.zero) else if b.valid u8 ≠ 0 then (b.valid u8, J.zero) else if (toM k i c t b).valid u8 ≠ 0 then ((toM k i c t b).valid u8, J.zero) else (0, toM k i c t b)
theorem toM_any (p : Nat → Prop) (f : Nat) (k i c : Int) (t : ByteArray) (e : Ev) (b : J) (w : World) (hk : 1 ≤ k ∧ k ≤ 2) (ht : t.size ≤ maxLen) (hb : JV p f w e.val b) (hs : Sm b) : Calls Tryz.prog 75 #[mB k i c t e] w (ToPostB (toM k i c t b) w) := by
 have : k = 1 ∨ k = 2 := by omega
 rcases this with rfl | rfl
 · exact toB1 p f i c t e b w ht hb hs
 · exact toB2 p f i c t e b w ht hb hs
theorem JV.lens {p : Nat → Prop} {f : Nat} {w : World} {e : Ev} {b : J} (h : JV p f w e.val b) : e.k = b.kind ∧ e.n = b.num ∧ e.t = b.text ∧ e.nl = b.names.length ∧ e.il = b.elems.length ∧ e.nl ≤ maxLen ∧ e.il ≤ maxLen := by
 obtain ⟨na, nc, ia, ic, hv, _, _, h1, h2, _⟩ := h.shape
 unfold Ev.val at hv
 simp only [Value.agg.injEq, Array.mk.injEq, List.cons.injEq, Value.int.injEq, Value.string.injEq, Value.slice.injEq, and_true, true_and] at hv
 obtain ⟨e0, e1, e2, ⟨_, e3, _⟩, _, e4, _⟩ := hv
 exact ⟨e0, e1, e2, e3, e4, by omega, by omega⟩
theorem isN_J {p : Nat → Prop} {f : Nat} {w : World} {e : Ev} {b : J} (h : JV p f w e.val b) : isN e = isNJ b := by
 obtain ⟨h0, h1, h2, h3, h4, _⟩ := h.lens
 unfold isN isNJ
 rw [h0, h1, h2, h3, h4]
theorem wf_J {p : Nat → Prop} {f : Nat} {w : World} {e : Ev} {b : J} (h : JV p f w e.val b) (k i c : Int) (t : ByteArray) : wfB k i c t e = wfJ k i c t b := by
 unfold wfB wfJ
 rw [isN_J h]
def EncPost (r : Int × J) (w : World) (e : Ending) (w' : World) : Prop := ∃ (f : Nat) (ev : Ev), e = .returned (.tuple #[ev.val, .int .i64 r.1]) ∧ JN w.heap.size f w' ev.val r.2 ∧ Chg [] w w'
theorem zeroN (B f : Nat) (w : World) : JN B f w (Ev.val ev0) J.zero := JN.mk (SlR.nil _ _ _ _) (SlR.nil _ _ _ _) (by decide)
theorem JV.chg {p : Nat → Prop} {f : Nat} {w w' : World} {v : Value} {j : J} (h : JV p f w v j) (hc : Chg [] w w') : JV p f w' v j := h.kept (S := fun _ => False) hc.p (fun _ _ h => h)
set_option maxRecDepth 100000 in
set_option maxHeartbeats 8000000 in
theorem encode_b (p : Nat → Prop) (f : Nat) (k i c : Int) (t : ByteArray) (e : Ev) (b : J) (w : World) (hk2 : k ≤ 2) (ht : t.size ≤ maxLen) (hb : JV p f w e.val b) (hp : ∀ g, p g → g < w.heap.size) (hT : Tb w) : Calls Tryz.prog 41 #[mB k i c t e] w (EncPost (encM k i c t b) w) := by
 have Hk2 := Lib.hid hk2
 clear hk2
 obtain ⟨w1, hw1⟩ : ∃ x, x = (w.alloc (.cells #[.int .i64 k, .int .i64 i, .int .i64 c, .string t, .int .i64 e.k, .int .i64 e.n, .string e.t, .slice e.na e.nl e.nc, .slice e.ia e.il e.ic] 61)).alloc (.cells #[.int .i64 0, .int .i64 0, .string ⟨#[]⟩, .slice none 0 0, .slice none 0 0] 59) := ⟨_, rfl⟩
 obtain ⟨mb, hmb⟩ : ∃ x, x = w.heap.size := ⟨_, rfl⟩
 have hc1 : Chg [] w w1 := by rw [hw1]; exact ((Chg.refl _ _).alloc _).alloc _
 have hm1 : w1.heap[mb]? = some (.cells #[.int .i64 k, .int .i64 i, .int .i64 c, .string t, .int .i64 e.k, .int .i64 e.n, .string e.t, .slice e.na e.nl e.nc, .slice e.ia e.il e.ic] 61 (0, 0)) := by
  rw [hw1, hmb, heap_past _ _ _ (by simp)]
  exact heap_at _ _ _ rfl
 have hr1 : w1.heap[mb + 1]? = some (.cells #[.int .i64 0, .int .i64 0, .string ⟨#[]⟩, .slice none 0 0, .slice none 0 0] 59 (0, 0)) := by
  rw [hw1, hmb]
  exact heap_at _ _ _ (by simp)
 have Hmb := Lib.hid hmb
 have Hc1 := Lib.hid hc1
 have Hm1 := Lib.hid hm1
 have Hr1 := Lib.hid hr1
 have HT := Lib.hid hT
 have Hb := Lib.hid (fun W (hc : Chg [] w W) => hb.chg hc)
 have Hp := Lib.hid hp
 have fin : ∀ r : Int × J, encM k i c t b = r → Hid (encM k i c t b = r) := fun r h => Lib.hid h
 have Hno : Hid (∀ (z : Int) W, Chg [] w1 W → encM k i c t b = (z, J.zero) → EncPost (encM k i c t b) w (.returned (.tuple #[.agg #[.int .i64 0, .int .i64 0, .string ⟨#[]⟩, .slice none 0 0, .slice none 0 0], .int .i64 z])) (st5 W (mb + 1) 0 ev0)) := Lib.hid (fun z W hW hz => by
  have hcs := st5_chg W (mb + 1) 0 ev0
  rw [hz]
  exact ⟨0, ev0, rfl, zeroN _ _ _, (Hc1.out.trans hW).comp hcs fun g hg => Or.inr (by have := List.mem_singleton.1 hg; have := Hmb.out; omega)⟩)
 by_cases hk : k < 1 ∨ 5 < k
 · have HF := fin (7, J.zero) (by unfold encM; rw [if_pos hk])
   obtain ⟨m0, m1, m2, m3, m4, m5, m6, m7, m8⟩ := msg_cells mb hm1 (Chg.refl [] w1)
   obtain ⟨r0, r1, r2, r3, r4⟩ := box_kept (mb + 1) hr1 (Chg.refl [] w1)
   have fr := fun i => frozen_of_heap (i := i) hr1
   have lr := lt_of_cell r0
   unfold mB
   clear hT hb hp hc1 hm1 hr1 fin
   by_cases hk1 : k < 1
   · have d1 : decide (k < 1) = true := decide_eq_true hk1
     clear hk hk1
     go_enter Tryz.func41, Tryz.ntmps41
     go_upto_region 1 with fail
     rw [← hw1, ← hmb]
     clear hw1 hmb
     go_wp2_with fail
     refine bodyPost_ret (v := .tuple #[.agg #[.int .i64 0, .int .i64 0, .string ⟨#[]⟩, .slice none 0 0, .slice none 0 0], .int .i64 7]) (by simp [results, Tryz.results41, go_sem, r0, r1, r2, r3, r4]) rfl ?_
     exact Hno.out 7 w1 (Chg.refl _ _) HF.out
   · have d1 : decide (k < 1) = false := decide_eq_false hk1
     have d2 : decide (k > 5) = true := decide_eq_true (by omega)
     clear hk hk1
     go_enter Tryz.func41, Tryz.ntmps41
     go_upto_region 1 with fail
     rw [← hw1, ← hmb]
     clear hw1 hmb
     go_wp2_with fail
     refine bodyPost_ret (v := .tuple #[.agg #[.int .i64 0, .int .i64 0, .string ⟨#[]⟩, .slice none 0 0, .slice none 0 0], .int .i64 7]) (by simp [results, Tryz.results41, go_sem, r0, r1, r2, r3, r4]) rfl ?_
     exact Hno.out 7 w1 (Chg.refl _ _) HF.out
 have d1 : decide (k < 1) = false := decide_eq_false (by omega)
 have d2 : decide (k > 5) = false := decide_eq_false (by omega)
 have hkk : 1 ≤ k ∧ k ≤ 5 := by omega
 have HW := Lib.hid (fun W (hc : Chg [] w W) => wellFormed_b k i c t e W hkk (HT.out.new hc) ht ⟨hb.lens.2.2.2.2.2.1, hb.lens.2.2.2.2.2.2⟩)
 rw [wf_J hb k i c t] at HW
 have Hkk := Lib.hid (And.intro hkk ht)
 have HE : Hid (encM k i c t b = if wfJ k i c t b = false then (3, J.zero) else if b.valid u8 ≠ 0 then (b.valid u8, J.zero) else if (toM k i c t b).valid u8 ≠ 0 then ((toM k i c t b).valid u8, J.zero) else (0, toM k i c t b)) := Lib.hid (by
  unfold encM
  rw [if_neg hk])
 have HO := Lib.hid (fun W (hc : Chg [] w W) hs => toM_any p f k i c t e b W ⟨hkk.1, Hk2.out⟩ ht (Hb.out W hc) hs)
 generalize wfJ k i c t b = wfb at HW HE
 unfold mB Ev.val at *
 clear hT hb hp hc1 hm1 hr1 fin hk hkk ht
 go_enter Tryz.func41, Tryz.ntmps41
 go_upto_region 1 with fail
 rw [← hw1, ← hmb]
 clear hw1 hmb
 obtain ⟨m0, m1, m2, m3, m4, m5, m6, m7, m8⟩ := msg_cells mb Hm1.out (Chg.refl [] w1)
 go_wp2_with fail
 refine (HW.out w1 Hc1.out).mono ?_
 rintro e1 w2 ⟨rfl, hc2⟩
 have Hd2 := Lib.hid hc2
 have Hc2 := Lib.hid (Hc1.out.trans hc2)
 obtain ⟨m0, m1, m2, m3, m4, m5, m6, m7, m8⟩ := msg_cells mb Hm1.out hc2
 have hr2 := (hc2.block (mb + 1) (lt_of_obj Hr1.out) (by simp)).trans Hr1.out
 clear hc2
 cases wfb
 · obtain ⟨r0, r1, r2, r3, r4⟩ := box_kept (mb + 1) hr2 (Chg.refl [] w2)
   have fr := fun i => frozen_of_heap (i := i) hr2
   have lr := lt_of_cell r0
   clear hr2
   go_wp2_with fail
   refine bodyPost_ret (v := .tuple #[.agg #[.int .i64 0, .int .i64 0, .string ⟨#[]⟩, .slice none 0 0, .slice none 0 0], .int .i64 3]) (by simp [results, Tryz.results41, go_sem, r0, r1, r2, r3, r4]) rfl ?_
   exact Hno.out 3 w2 Hd2.out (by rw [HE.out]; rfl)
 clear hr2
 go_wp2_with fail
 refine (Validate_any p f w2 b _ (Hb.out w2 Hc2.out) (HT.out.new Hc2.out) (fun g hg => Nat.lt_of_lt_of_le (Hp.out g hg) Hc2.out.size)).mono ?_
 rintro e1 w3 ⟨rfl, hc3⟩
 have Hd3 := Lib.hid (Hd2.out.trans hc3)
 have Hc3 := Lib.hid (Hc2.out.trans hc3)
 obtain ⟨m0, m1, m2, m3, m4, m5, m6, m7, m8⟩ := msg_cells mb Hm1.out Hd3.out
 have hr3 := (Hd3.out.block (mb + 1) (lt_of_obj Hr1.out) (by simp)).trans Hr1.out
 clear hc3
 by_cases hbv : b.valid u8 = 0
 case neg =>
  have HE2 := Lib.hid (show encM k i c t b = (b.valid u8, J.zero) by rw [HE.out, if_neg (by simp), if_pos hbv])
  have hz2 : (b.valid u8 != 0) = true := by simpa using hbv
  obtain ⟨z, hz⟩ : ∃ z, b.valid u8 = z := ⟨_, rfl⟩
  rw [hz] at HE2 hz2 ⊢
  obtain ⟨r0, r1, r2, r3, r4⟩ := box_kept (mb + 1) hr3 (Chg.refl [] w3)
  have fr := fun i => frozen_of_heap (i := i) hr3
  have lr := lt_of_cell r0
  clear hr3 hbv hz HE HO
  go_wp2_with fail
  refine bodyPost_ret (v := .tuple #[.agg #[.int .i64 0, .int .i64 0, .string ⟨#[]⟩, .slice none 0 0, .slice none 0 0], .int .i64 z]) (by simp [results, Tryz.results41, go_sem, r0, r1, r2, r3, r4]) rfl ?_
  exact Hno.out z w3 Hd3.out HE2.out
 case pos =>
  rw [hbv]
  have HE2 := Lib.hid (show encM k i c t b = if (toM k i c t b).valid u8 ≠ 0 then ((toM k i c t b).valid u8, J.zero) else (0, toM k i c t b) by rw [HE.out, if_neg (by simp), if_neg (by simp [hbv])])
  have HO3 := Lib.hid (HO.out w3 Hc3.out (Sm.of hbv))
  clear hr3 hbv HE HO
  generalize toM k i c t b = j at HE2 HO3
  go_wp2_with fail
  refine HO3.out.mono ?_
  rintro e1 w4 ⟨f4, v4, rfl, hv4, hc4⟩
  obtain ⟨ev, rfl⟩ := hv4.ev'
  have Hd4 := Lib.hid (Hd3.out.trans hc4)
  have Hc4 := Lib.hid (Hc3.out.trans hc4)
  have Hv4 := Lib.hid hv4
  have Hg3 : Hid (mb + 1 < w3.heap.size ∧ w.heap.size ≤ w3.heap.size) := Lib.hid ⟨Nat.lt_of_lt_of_le (lt_of_obj Hr1.out) Hd3.out.size, Hc3.out.size⟩
  clear hv4 hc4 m0 m1 m2 m3 m4 m5 m6 m7 m8
  unfold Ev.val at *
  obtain ⟨w5, hw5⟩ : ∃ x, x = w4.alloc (.cells #[.int .i64 ev.k, .int .i64 ev.n, .string ev.t, .slice ev.na ev.nl ev.nc, .slice ev.ia ev.il ev.ic] 59) := ⟨_, rfl⟩
  obtain ⟨vb, hvb⟩ : ∃ x, x = w4.heap.size := ⟨_, rfl⟩
  have hc5 : Chg [] w4 w5 := by rw [hw5]; exact (Chg.refl _ _).alloc _
  have hb5 : w5.heap[vb]? = some (.cells #[.int .i64 ev.k, .int .i64 ev.n, .string ev.t, .slice ev.na ev.nl ev.nc, .slice ev.ia ev.il ev.ic] 59 (0, 0)) := by rw [hw5, hvb]; exact heap_at _ _ _ rfl
  have Hd5 := Lib.hid (Hd4.out.trans hc5)
  have Hc5 := Lib.hid (Hc4.out.trans hc5)
  have Hv5 := Lib.hid (Hv4.out.same hc5)
  have Hb5 := Lib.hid hb5
  clear hc5 hb5
  go_upto_region 9 with fail
  rw [← hw5, ← hvb]
  clear hw5 hvb
  obtain ⟨b0, b1, b2, b3, b4⟩ := box_kept vb Hb5.out (Chg.refl [] w5)
  go_wp2_with fail
  refine (Validate_any _ f4 w5 j _ Hv5.out (HT.out.new Hc5.out) (fun g hg => hg.2)).mono ?_
  rintro e1 w6 ⟨rfl, hc6⟩
  have Hc6 := Lib.hid (Hc5.out.trans hc6)
  have Hd6 := Lib.hid (Hd5.out.trans hc6)
  have Hv6 := Lib.hid (Hv5.out.same hc6)
  obtain ⟨b0, b1, b2, b3, b4⟩ := box_kept vb Hb5.out hc6
  have hr6 := ((Hd5.out.trans hc6).block (mb + 1) (lt_of_obj Hr1.out) (by simp)).trans Hr1.out
  obtain ⟨r0, r1, r2, r3, r4⟩ := box_kept (mb + 1) hr6 (Chg.refl [] w6)
  have fr := fun i => frozen_of_heap (i := i) hr6
  have lr := lt_of_cell r0
  clear hc6 hr6
  by_cases hjv : j.valid u8 = 0
  · rw [hjv]
    have HE3 := Lib.hid (show encM k i c t b = (0, j) by rw [HE2.out, if_neg (by simp [hjv])])
    clear hjv
    go_wp2_with fail
    refine bodyPost_ret (v := .tuple #[.agg #[.int .i64 ev.k, .int .i64 ev.n, .string ev.t, .slice ev.na ev.nl ev.nc, .slice ev.ia ev.il ev.ic], .int .i64 0]) (by simp [results, Tryz.results41, go_sem, r0, r1, r2, r3, r4]) rfl ?_
    have hcs := st5_chg w6 (mb + 1) 0 ev
    have hmbw := Hmb.out
    have h3 := Hg3.out
    have hv := (Hv6.out.kept hcs.toP fun g hg hm => by have := List.mem_singleton.1 hm; have := hg.1; omega).imp (q := fun g => w.heap.size ≤ g ∧ g < (st5 w6 (mb + 1) 0 ev).heap.size) fun g hg => ⟨by have := hg.1; omega, Nat.lt_of_lt_of_le hg.2 hcs.size⟩
    have hend : EncPost (encM k i c t b) w (.returned (.tuple #[ev.val, .int .i64 0])) (st5 w6 (mb + 1) 0 ev) := by
     rw [HE3.out]
     exact ⟨f4, ev, rfl, hv, Hc6.out.comp hcs fun g hg => Or.inr (by have := List.mem_singleton.1 hg; omega)⟩
    exact hend
  · have HE3 := Lib.hid (show encM k i c t b = (j.valid u8, J.zero) by rw [HE2.out, if_pos hjv])
    have hz2 : (j.valid u8 != 0) = true := by simpa using hjv
    obtain ⟨z, hz⟩ : ∃ z, j.valid u8 = z := ⟨_, rfl⟩
    rw [hz] at HE3 hz2 ⊢
    clear hjv hz HE2
    go_wp2_with fail
    refine bodyPost_ret (v := .tuple #[.agg #[.int .i64 0, .int .i64 0, .string ⟨#[]⟩, .slice none 0 0, .slice none 0 0], .int .i64 z]) (by simp [results, Tryz.results41, go_sem, r0, r1, r2, r3, r4]) rfl ?_
    exact Hno.out z w6 Hd6.out HE3.out
def lk (v : J) (s : ByteArray) : J := (v.findG s).getD J.zero
theorem Bd.zero : Bd J.zero := .mk (by simp) (by simp) (by simp)
theorem findG_mem {j e : J} {s : ByteArray} (h : j.findG s = some e) : e ∈ j.elems := by
 unfold J.findG at h
 by_cases hk : j.kind ≠ 5
 · rw [if_pos hk] at h; cases h
 · rw [if_neg hk] at h
   by_cases hm : j.names.findIdx (· = s) < j.names.length
   · rw [if_pos hm] at h; exact List.mem_of_getElem? h
   · rw [if_neg hm] at h; cases h
theorem Bd.lk {v : J} (h : Bd v) (s : ByteArray) : Bd (lk v s) := by
 cases hf : v.findG s with
 | none => unfold Jv.lk; rw [hf]; exact Bd.zero
 | some e =>
   unfold Jv.lk
   rw [hf]
   have hm := findG_mem hf
   obtain ⟨k, n, t, ns, es⟩ := v
   exact h.elem hm
def MePost (f : Nat) (j : J) (w : World) (e : Ending) (w' : World) : Prop := ∃ ev : Ev, e = .returned ev.val ∧ JN w.heap.size f w' ev.val j ∧ Chg [] w w'
set_option maxRecDepth 100000 in
set_option maxHeartbeats 4000000 in
theorem member_any (p : Nat → Prop) (f : Nat) (w : World) (j : J) (v : Value) (s : ByteArray) (hj : JV p f w v j) (hs : Bd j) :
 Calls Tryz.prog 137 #[v, .string s] w (MePost f (lk j s) w) := by
 obtain ⟨ej, rfl⟩ := hj.ev'
 unfold Ev.val at *
 obtain ⟨w1, hw1⟩ : ∃ x, x = (w.alloc (.cells #[.int .i64 ej.k, .int .i64 ej.n, .string ej.t, .slice ej.na ej.nl ej.nc, .slice ej.ia ej.il ej.ic] 59)).alloc (.cells #[.int .i64 0, .int .i64 0, .string ⟨#[]⟩, .slice none 0 0, .slice none 0 0] 59) := ⟨_, rfl⟩
 obtain ⟨mb, hmb⟩ : ∃ x, x = w.heap.size := ⟨_, rfl⟩
 have hc1 : Chg [] w w1 := by rw [hw1]; exact ((Chg.refl _ _).alloc _).alloc _
 have hm1 : w1.heap[mb]? = some (.cells #[.int .i64 ej.k, .int .i64 ej.n, .string ej.t, .slice ej.na ej.nl ej.nc, .slice ej.ia ej.il ej.ic] 59 (0, 0)) := by
  rw [hw1, hmb, heap_past _ _ _ (by simp)]
  exact heap_at _ _ _ rfl
 have hr1 : w1.heap[mb + 1]? = some (.cells #[.int .i64 0, .int .i64 0, .string ⟨#[]⟩, .slice none 0 0, .slice none 0 0] 59 (0, 0)) := by
  rw [hw1, hmb]
  exact heap_at _ _ _ (by simp)
 have Hmb := Lib.hid hmb
 have Hc1 := Lib.hid hc1
 have Hr1 := Lib.hid hr1
 have Hlk := Lib.hid (LookupG_any p f w1 j _ s (hj.chg hc1) hs)
 obtain ⟨b0, b1, b2, b3, b4⟩ := box_kept mb hm1 (Chg.refl [] w1)
 clear hj hs hc1 hm1 hr1
 go_enter Tryz.func137, Tryz.ntmps137
 go_upto_region 1 with fail
 rw [← hw1, ← hmb]
 clear hw1 hmb
 go_wp2_with fail
 refine Hlk.out.mono ?_
 rintro e w2 ⟨v2, rfl, hv2, hc2⟩
 obtain ⟨ev, rfl⟩ := hv2.ev'
 unfold Ev.val at *
 obtain ⟨w3, hw3⟩ : ∃ x, x = w2.alloc (.cells #[.int .i64 ev.k, .int .i64 ev.n, .string ev.t, .slice ev.na ev.nl ev.nc, .slice ev.ia ev.il ev.ic] 59) := ⟨_, rfl⟩
 obtain ⟨vb, hvb⟩ : ∃ x, x = w2.heap.size := ⟨_, rfl⟩
 have hc23 : Chg [] w2 w3 := by rw [hw3]; exact (Chg.refl _ _).alloc _
 have hb3 : w3.heap[vb]? = some (.cells #[.int .i64 ev.k, .int .i64 ev.n, .string ev.t, .slice ev.na ev.nl ev.nc, .slice ev.ia ev.il ev.ic] 59 (0, 0)) := by rw [hw3, hvb]; exact heap_at _ _ _ rfl
 have hc3 := hc2.trans hc23
 have Hv3 := Lib.hid (hv2.same hc23)
 have Hc3 := Lib.hid hc3
 have hr3 := (hc3.block (mb + 1) (lt_of_obj Hr1.out) (by simp)).trans Hr1.out
 obtain ⟨q0, q1, q2, q3, q4⟩ := box_kept vb hb3 (Chg.refl [] w3)
 obtain ⟨r0, r1, r2, r3, r4⟩ := box_kept (mb + 1) hr3 (Chg.refl [] w3)
 have fr := fun i => frozen_of_heap (i := i) hr3
 have lr := lt_of_cell r0
 clear hv2 hc2 hc23 hb3 hc3 hr3 b0 b1 b2 b3 b4
 go_upto_region 2 with fail
 rw [← hw3, ← hvb]
 clear hw3 hvb
 go_wp2_with fail
 refine bodyPost_ret (v := .agg #[.int .i64 ev.k, .int .i64 ev.n, .string ev.t, .slice ev.na ev.nl ev.nc, .slice ev.ia ev.il ev.ic]) (by simp [results, Tryz.results137, go_sem, r0, r1, r2, r3, r4]) rfl ?_
 have hcs := st5_chg w3 (mb + 1) 0 ev
 have hmbw := Hmb.out
 have hlt := lt_of_obj Hr1.out
 have hv := (Hv3.out.kept hcs.toP fun g hg hm => by have := List.mem_singleton.1 hm; have := hg.1; omega).imp (q := fun g => w.heap.size ≤ g ∧ g < (st5 w3 (mb + 1) 0 ev).heap.size) fun g hg => ⟨by have := hg.1; have := Hc1.out.size; omega, Nat.lt_of_lt_of_le hg.2 hcs.size⟩
 have hend : MePost f (lk j s) w (.returned ev.val) (st5 w3 (mb + 1) 0 ev) := ⟨ev, rfl, hv, (Hc1.out.trans Hc3.out).comp hcs fun g hg => Or.inr (by have := List.mem_singleton.1 hg; omega)⟩
 exact hend
end Go.Proofs.YtjlknaahpjiibaaGreatDoor.Jv
