/- wordindex: Update, where the document is in the index. -/
import Derived.Test.YtnkacmcggcdlpaaWiP
namespace Go.Proofs.Ytnkacmcggcdlpaa
open Go.RowKit Go.ChangeMaps Go.MapKept Go.Shelf
set_option linter.unusedVariables false
set_option linter.unusedSimpArgs false
theorem ix_of_own {w : World} {base : Nat} {v : Value} {es : List Ent} {q : Nat → Prop} {I : List Ie} (h : OwnEn w base v es) (hl : es.length = I.length) (hR : ∀ i (hi : i < es.length), EnR w q es[i] (I.getD i ie0)) : IxP (fun g => base ≤ g ∧ g < w.heap.size) q w v I := by
  obtain ⟨a, cap, rfl⟩ := ownsRow_shape h
  have hb := OwnEn.bound h
  refine ⟨a, cap, by rw [hl], by omega, hb.2.2, fun hpos => ?_⟩
  obtain ⟨g, cc, hv, hge, hgl⟩ := World.ownsRow.form h (by omega)
  simp only [Value.slice.injEq] at hv
  obtain ⟨rfl, _, rfl⟩ := hv
  refine ⟨g, 0, rfl, ⟨hge, hgl⟩, fun i hi => ?_⟩
  have hi' : i < es.length := by omega
  have hR' := hR i hi'
  rw [getD_eqI hi] at hR'
  have hcell : ∀ d u, (encE es[i])[d]? = some u → d < 3 → w.cell? ⟨g, 0 + i * 3 + d, none⟩ = some u := by
    intro d u hu hd
    rw [← enCells_get es i hi' d hd] at hu
    have := World.ownsRow.cells h (g := g) rfl _ _ hu
    rw [Addr.add_lit] at this
    rw [show 0 + i * 3 + d = 0 + (i * 3 + d) by omega]
    exact this
  refine ⟨?_, ?_, es[i].wv, hcell 2 _ rfl (by decide), hR'.2.2⟩
  · rw [← hR'.1]; exact hcell 0 _ rfl (by decide)
  · rw [← hR'.2.1]; exact hcell 1 _ rfl (by decide)
theorem enCells_set3 (es : List Ent) (k : Nat) (hk : k < es.length) (e : Ent) : (((enCells es).set (k * 3) (.string e.nm)).set (k * 3 + 1) (.int .u32 e.sum)).set (k * 3 + 2) e.wv = enCells (es.set k e) := by
  refine enCells_ext (by rw [List.length_set, List.length_set, List.length_set, List.length_set, enCells_len]) fun j hj d hd => ?_
  have hj' : j < es.length := by simpa using hj
  rw [List.getElem?_set, List.getElem?_set, List.getElem?_set]
  simp only [List.length_set, enCells_len]
  by_cases hjk : j = k
  · subst hjk
    rw [List.getElem_set_self]
    rcases (by omega : d = 0 ∨ d = 1 ∨ d = 2) with e | e | e <;> subst e
    · rw [if_neg (by omega), if_neg (by omega), if_pos (by omega), if_pos (by omega)]; rfl
    · rw [if_neg (by omega), if_pos (by omega), if_pos (by omega)]; rfl
    · rw [if_pos (by omega), if_pos (by omega)]; rfl
  · rw [if_neg (by omega), if_neg (by omega), if_neg (by omega), List.getElem_set_ne (by omega), enCells_get es j hj' d hd]
def UpPost (I J : List Ie) (w : World) (e : Ending) (w' : World) : Prop := ∃ a c, e = .returned (.tuple #[.slice a I.length c, .int .i64 0]) ∧ IxP (fun g => w.heap.size ≤ g ∧ g < w'.heap.size) (fun g => w.heap.size ≤ g ∧ g < w'.heap.size) w' (.slice a I.length c) J ∧ Chg [] w w'
set_option maxRecDepth 100000 in
set_option maxHeartbeats 4000000 in
theorem update_any (p q : Nat → Prop) (w : World) (v : Value) (I : List Ie) (nm : ByteArray) (ver : Int) (tx : ByteArray) (t : Nat) (h : IxP p q w v I) (hok : IxOk I) (hq : ∀ g, q g → g < w.heap.size) (ht : t < I.length) (hnm : (I.getD t ie0).1 = nm) (hd : DcOk [(nm, ver, tx)]) :
    Calls Try.prog 11 #[v, .agg #[.string nm, .int .i64 ver, .string tx]] w (UpPost I (I.set t (nm, (ck tx.data.toList : Nat), words tx)) w) := by
  obtain ⟨a0, c0, rfl, hml, hcp⟩ := h.shape
  have H := Lib.hid h
  have Hok := Lib.hid hok
  have Hq := Lib.hid hq
  have Hnm := Lib.hid hnm
  have Hd := Lib.hid hd
  have htx : tx.size ≤ 2000 := (hd.ok (nm, ver, tx) (by simp)).2.2
  unfold maxLen at hml
  clear h hok hq hnm hd
  obtain ⟨w1, hw1⟩ : ∃ q, q = w.alloc (.cells #[.string nm, .int .i64 ver, .string tx] 35) := ⟨_, rfl⟩
  obtain ⟨n1, hn1⟩ : ∃ q, q = w.heap.size := ⟨_, rfl⟩
  have hc1 : Chg [] w w1 := by rw [hw1]; exact (Chg.refl [] _).alloc _
  have hb1 : w1.heap[n1]? = some (.cells #[.string nm, .int .i64 ver, .string tx] 35 (0, 0)) := by rw [hw1, hn1]; exact heap_at _ _ _ rfl
  have HW1 := Lib.hid (And.intro hw1 hn1)
  have Hc1 := Lib.hid hc1
  have Hb1 := Lib.hid hb1
  clear hw1 hn1 hc1 hb1
  go_enter Try.func11, Try.ntmps11
  go_upto_region 1 with (fail)
  rw [← HW1.out.1, ← HW1.out.2]
  go_wp2_with fail
  refine (valid_any p q w1 _ I (H.out.same Hc1.out) Hok.out).mono ?_
  rintro e w2 ⟨rfl, hc2⟩
  have hbk := (hc2.block _ (lt_of_obj Hb1.out) (by simp)).trans Hb1.out
  have b0 : w2.cell? ⟨n1, 0, none⟩ = some (.string nm) := cell_of_heap hbk rfl
  have b1 : w2.cell? ⟨n1, 1, none⟩ = some (.int .i64 ver) := cell_of_heap hbk rfl
  have b2 : w2.cell? ⟨n1, 2, none⟩ = some (.string tx) := cell_of_heap hbk rfl
  have lb := lt_of_cell b0
  have Hc2 := Lib.hid (Hc1.out.trans hc2)
  have Hb2 := Lib.hid hbk
  clear hc2 hbk
  obtain ⟨w3, hw3⟩ : ∃ q, q = w2.alloc (.cells #[.string nm, .int .i64 ver, .string tx] 35) := ⟨_, rfl⟩
  obtain ⟨n3, hn3⟩ : ∃ q, q = w2.heap.size := ⟨_, rfl⟩
  have hc3 : Chg [] w2 w3 := by rw [hw3]; exact (Chg.refl [] _).alloc _
  have hb3 : w3.heap[n3]? = some (.cells #[.string ((nm, ver, tx) : Dc).1, .int .i64 ((nm, ver, tx) : Dc).2.1, .string ((nm, ver, tx) : Dc).2.2] 35 (0, 0)) := by rw [hw3, hn3]; exact heap_at _ _ _ rfl
  have Hvd := Lib.hid (validDocs_any _ w3 _ [(nm, ver, tx)] (doc1_at hb3) Hd.out)
  have HW3 := Lib.hid (And.intro hw3 hn3)
  have Hc3 := Lib.hid hc3
  clear hw3 hn3 hc3 hb3
  go_wp2_with fail
  rw [← HW3.out.1, ← HW3.out.2]
  refine Hvd.out.mono ?_
  rintro e w4 ⟨rfl, hc4⟩
  have hc34 := Hc3.out.trans hc4
  have hbk := (hc34.block _ (lt_of_obj Hb2.out) (by simp)).trans Hb2.out
  have d0 : w4.cell? ⟨n1, 0, none⟩ = some (.string nm) := cell_of_heap hbk rfl
  have d1 : w4.cell? ⟨n1, 1, none⟩ = some (.int .i64 ver) := cell_of_heap hbk rfl
  have d2 : w4.cell? ⟨n1, 2, none⟩ = some (.string tx) := cell_of_heap hbk rfl
  have ld := lt_of_cell d0
  have Hc4 := Lib.hid (Hc2.out.trans hc34)
  clear hc4 hc34 hbk b0 b1 b2 lb
  go_wp2_with fail
  refine (newEntry_any nm ver tx w4 htx).mono ?_
  rintro e w5 ⟨a5, c5, rfl, hs5, hc5⟩
  obtain ⟨kk, hkk⟩ : ∃ k, k = ((ck tx.data.toList : Nat) : Int) := ⟨_, rfl⟩
  rw [← hkk]
  obtain ⟨w6, hw6⟩ : ∃ q, q = w5.alloc (.cells #[.string nm, .int .u32 kk, .slice a5 (words tx).length c5] 43) := ⟨_, rfl⟩
  obtain ⟨n6, hn6⟩ : ∃ q, q = w5.heap.size := ⟨_, rfl⟩
  have hc6 : Chg [] w5 w6 := by rw [hw6]; exact (Chg.refl [] _).alloc _
  have hb6 : w6.heap[n6]? = some (.cells #[.string nm, .int .u32 kk, .slice a5 (words tx).length c5] 43 (0, 0)) := by rw [hw6, hn6]; exact heap_at _ _ _ rfl
  have e0 : w6.cell? ⟨n6, 0, none⟩ = some (.string nm) := cell_of_heap hb6 rfl
  have e1 : w6.cell? ⟨n6, 1, none⟩ = some (.int .u32 kk) := cell_of_heap hb6 rfl
  have e2 : w6.cell? ⟨n6, 2, none⟩ = some (.slice a5 (words tx).length c5) := cell_of_heap hb6 rfl
  have le := lt_of_cell e0
  have HW6 := Lib.hid (And.intro hw6 hn6)
  have Hc6 := Lib.hid (Hc4.out.trans (hc5.trans hc6))
  have Hs6 := Lib.hid (And.intro (hs5.same hc6) (And.intro hc6.size hc5.size))
  have Hb6 := Lib.hid hb6
  have Hkk := Lib.hid hkk
  have Hbs := Lib.hid (bsearchE_any p q w6 _ I t kk a5 (words tx).length c5 nm (H.out.same Hc6.out) Hok.out.lt (by have := Hok.out.len; omega) ht Hnm.out)
  clear hw6 hn6 hc6 hc5 hs5 hb6 hkk d0 d1 d2 ld
  go_upto_region 7 with (fail)
  rw [← HW6.out.1, ← HW6.out.2]
  go_wp2_with fail
  refine Hbs.out.mono ?_
  rintro e w7 ⟨rfl, hc7⟩
  have hc67 := Hc6.out.trans hc7
  have Hcl := Lib.hid (clone_any p q w7 _ I (H.out.same hc67) (by have := Hok.out.len; omega) (fun g hg => Nat.lt_of_lt_of_le (Hq.out g hg) hc67.size) (fun x hx => Nat.le_trans (Hok.out.ok x hx).2.2.len (by decide)))
  have hbk := (hc7.block _ (lt_of_obj Hb6.out) (by simp)).trans Hb6.out
  have Hb7 := Lib.hid hbk
  have Hc7 := Lib.hid (And.intro hc67 (Hs6.out.1.same hc7))
  clear hc67 hbk e0 e1 e2 le
  have Hc7s := Lib.hid hc7
  clear hc7
  go_wp2_with fail
  refine Hcl.out.mono ?_
  rintro e w8 ⟨v8, es, rfl, hel, hown, hR, hc8⟩
  have htl : t < es.length := by omega
  obtain ⟨a8, c8, rfl⟩ := ownsRow_shape hown
  obtain ⟨g, cc, hv, hge, hgl⟩ := World.ownsRow.form hown (by omega)
  simp only [Value.slice.injEq] at hv
  obtain ⟨rfl, hnn, rfl⟩ := hv
  clear hnn
  have hbk := (hc8.block _ (lt_of_obj Hb7.out) (by simp)).trans Hb7.out
  have e0 : w8.cell? ⟨n6, 0, none⟩ = some (.string nm) := cell_of_heap hbk rfl
  have e1 : w8.cell? ⟨n6, 1, none⟩ = some (.int .u32 kk) := cell_of_heap hbk rfl
  have e2 : w8.cell? ⟨n6, 2, none⟩ = some (.slice a5 (words tx).length c5) := cell_of_heap hbk rfl
  have le := lt_of_cell e0
  have hcell : ∀ d, d < 3 → ∃ u, w8.cell? ⟨g, t * 3 + d, none⟩ = some u := by
    intro d hd
    have hl : d < (encE es[t]).length := hd
    have hu : (encE es[t])[d]? = some ((encE es[t])[d]'hl) := List.getElem?_eq_getElem hl
    rw [← enCells_get es t htl d hd] at hu
    have := World.ownsRow.cells hown (g := g) rfl _ _ hu
    rw [Addr.add_lit, Nat.zero_add] at this
    exact ⟨_, this⟩
  obtain ⟨x0, s0⟩ := hcell 0 (by decide)
  obtain ⟨x1, s1⟩ := hcell 1 (by decide)
  obtain ⟨x2, s2⟩ := hcell 2 (by decide)
  rw [Nat.add_zero] at s0
  have hfr : ∀ i, w8.frozen? ⟨g, i, none⟩ = false := by
    rcases hown.2 with ⟨hv, _⟩ | ⟨g', cap', cur', hv, _, hh, _⟩
    · cases hv
    · cases hv
      exact fun i => frozen_of_heap hh
  have f0 := hfr (t * 3)
  have f1 := hfr (t * 3 + 1)
  have f2 := hfr (t * 3 + 2)
  have lg := lt_of_cell s0
  have ht1 : (t : Int) < I.length := by omega
  have ht0 : (0 : Int) ≤ (t : Int) := by omega
  obtain ⟨w9, hw9⟩ : ∃ q, q = ((w8.setCell ⟨g, t * 3, none⟩ (.string nm)).setCell ⟨g, t * 3 + 1, none⟩ (.int .u32 kk)).setCell ⟨g, t * 3 + 2, none⟩ (.slice a5 (words tx).length c5) := ⟨_, rfl⟩
  obtain ⟨en, hen⟩ : ∃ e, e = Ent.mk nm kk a5 (words tx).length c5 := ⟨_, rfl⟩
  have h9 : OwnEn w9 w7.heap.size (.slice (some ⟨g, 0, none⟩) es.length c8) (es.set t en) := by
    have r1 := row_set (u := .string nm) hown (i := t * 3) (by omega)
    have r2 := row_set (u := .int .u32 kk) r1 (i := t * 3 + 1) (by omega)
    have r3 := row_set (u := .slice a5 (words tx).length c5) r2 (i := t * 3 + 2) (by omega)
    rw [← hw9] at r3
    have he := enCells_set3 es t htl en
    rw [hen] at he
    unfold OwnEn
    rw [List.length_set, hen, ← he]
    exact r3
  have hc9 : Chg [g] w8 w9 := by
    rw [hw9]
    exact (((Chg.refl [g] w8).setCell (p := ⟨g, t * 3, none⟩) (Or.inl (by simp)) _).setCell (p := ⟨g, t * 3 + 1, none⟩) (Or.inl (by simp)) _).setCell (p := ⟨g, t * 3 + 2, none⟩) (Or.inl (by simp)) _
  have h79 : Chg [] w7 w9 := hc8.comp hc9 fun g' hg' => Or.inr (by rw [List.mem_singleton.1 hg']; exact hge)
  have hw7 := Hc7.out.1.size
  have hs8 := hc8.size
  have hs9 := hc9.size
  have hIx : IxP (fun g => w.heap.size ≤ g ∧ g < w9.heap.size) (fun g => w.heap.size ≤ g ∧ g < w9.heap.size) w9 (.slice (some ⟨g, 0, none⟩) es.length c8) (I.set t (nm, kk, words tx)) := by
    have hR9 : ∀ i (hi : i < (es.set t en).length), EnR w9 (fun g => w.heap.size ≤ g ∧ g < w9.heap.size) (es.set t en)[i] ((I.set t (nm, kk, words tx)).getD i ie0) := by
      intro i hi
      have hi' : i < es.length := by simpa using hi
      by_cases hit : i = t
      · subst hit
        rw [List.getElem_set_self, getD_eqI (by simpa using ht), List.getElem_set_self, hen]
        have h4 := Hs6.out.2.1
        have h5 := Hs6.out.2.2
        have h0 := Hc4.out.size
        have h6 := Hc7s.out.size
        refine ⟨rfl, rfl, (Hc7.out.2.kept (h79.p (S := fun _ => False)) fun _ _ h => h).imp fun g' hg' => ⟨by have := hg'.1; omega, by have := hg'.2; omega⟩⟩
      · rw [List.getElem_set_ne (by omega), getD_eqI (by rw [List.length_set]; omega), List.getElem_set_ne (by omega), ← getD_eqI (by omega)]
        refine (hR i hi').kept hc9.toP (fun g' hg' hm => hg'.1 (by rw [List.mem_singleton.1 hm]; rfl)) fun g' hg' => ⟨by have := hg'.2.1; omega, by have := hg'.2.2; omega⟩
    have hx := ix_of_own (I := I.set t (nm, kk, words tx)) h9 (by rw [List.length_set, List.length_set, hel]) hR9
    exact hx.imp (fun g' hg' => ⟨by have := hg'.1; omega, hg'.2⟩) fun _ h => h
  have HF := Lib.hid (show Chg [] w w9 from Hc7.out.1.trans h79)
  have HX := Lib.hid hIx
  have HW9 := Lib.hid hw9
  rw [hel] at HX
  have Hel := Lib.hid hel
  clear hIx hw9 hc9 h79 h9 hen hw7 hs8 hs9 hfr hcell hc8 hR hown hbk
  go_wp2_with fail
  rw [← HW9.out]
  go_ret2
  exact ⟨_, _, rfl, by rw [← Hkk.out]; exact HX.out, HF.out⟩
end Go.Proofs.Ytnkacmcggcdlpaa
