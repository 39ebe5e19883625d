/- Protocol messages: clone of any valid body. -/
import Derived.Test.YtiklgipcgdgkoaaDoorJrB
namespace Go.Proofs.YtiklgipcgdgkoaaDoor.Jv
open Go.RowKit Go.ChangeMaps Go.MapKept
set_option linter.unusedVariables false
set_option linter.unusedSimpArgs false
set_option maxRecDepth 100000 in
set_option maxHeartbeats 8000000 in
theorem cloneR_step (p : Nat → Prop) (f : Nat)
    (ih : ∀ f', f' < f → ∀ (w : World) (j : J) (v : Value), JV p f' w v j → Sm j → Calls Tryd.prog 39 #[v] w (ClonePost j (f' + 1) w))
    (w : World) (j : J) (v : Value) (hj : JV p f w v j) (hs : Sm j) :
    Calls Tryd.prog 39 #[v] w (ClonePost j (f + 1) w) := by
  obtain ⟨k, n, t, ns, es⟩ := j
  obtain ⟨na, nc, a, cap, rfl, hns, hes, _, ⟨hl1, hl2⟩, hts⟩ := hj.shape
  simp only [J.kind, J.num, J.text, J.names, J.elems] at hns hes hl1 hl2 hts hj ⊢
  have hlen := hs.len
  unfold maxLen at hl2
  obtain ⟨w2, hw2⟩ : ∃ x, x = (w.alloc (.cells #[.int .i64 k, .int .i64 n, .string t, .slice na ns.length nc, .slice a es.length cap] 25)).alloc (.cells #[.int .i64 0, .int .i64 0, .string ⟨#[]⟩, .slice none 0 0, .slice none 0 0] 25) := ⟨_, rfl⟩
  have hc2 : Chg [] w w2 := by rw [hw2]; exact ((Chg.refl [] w).alloc _).alloc _
  obtain ⟨b, hb⟩ : ∃ b, b = w.heap.size := ⟨_, rfl⟩
  have hb2 : w2.heap[b]? = some (.cells #[.int .i64 k, .int .i64 n, .string t, .slice na ns.length nc, .slice a es.length cap] 25 (0, 0)) := by
    rw [hw2, hb, heap_past _ _ _ (by simp)]
    exact heap_at _ _ _ rfl
  have hr2 : w2.heap[b + 1]? = some (.cells #[.int .i64 0, .int .i64 0, .string ⟨#[]⟩, .slice none 0 0, .slice none 0 0] 25 (0, 0)) := by rw [hw2, hb]; exact heap_at _ _ _ (by simp)
  have hsz2 : w2.heap.size = b + 2 := by rw [hw2, hb]; simp
  have Hcl := Lib.hid (nclone_any p w2 _ ns (strs_kept (S := fun _ => False) hns hc2.p (fun _ _ h => h)) (by omega))
  obtain ⟨b0, b1, b2, b3, b4⟩ := box_kept b hb2 (Chg.refl [] w2)
  have Hes := Lib.hid hes
  have Hc2 := Lib.hid hc2
  have Hb2 := Lib.hid (And.intro hb2 (And.intro hr2 (And.intro hsz2 hb)))
  have Hs := Lib.hid hs
  have Hlen := Lib.hid hlen
  have Hts := Lib.hid hts
  have lb := lt_of_cell b0
  have fb := fun i => frozen_of_heap (i := i) hb2
  clear hns hes hc2 hb2 hr2 hsz2 hj hs hlen hts
  go_enter Tryd.func39, Tryd.ntmps39
  go_upto_region 1 with fail
  rw [← hw2, ← hb]
  clear hw2 hb
  go_wp2_with fail
  refine Hcl.out.mono ?_
  rintro e w3 ⟨v3, rfl, ho3, hc3⟩
  obtain ⟨a3, c3, rfl⟩ := ownsRow_shape ho3.1
  have hb3 := (hc3.block b (lt_of_obj Hb2.out.1) (by simp)).trans Hb2.out.1
  have hr3 := (hc3.block (b + 1) (lt_of_obj Hb2.out.2.1) (by simp)).trans Hb2.out.2.1
  obtain ⟨w4, hw4⟩ : ∃ x, x = (w3.setCell ⟨b, 3, none⟩ (.slice a3 ns.length c3)).setCell ⟨b, 4, none⟩ (.slice none 0 0) := ⟨_, rfl⟩
  have hc4 : Chg [b] w3 w4 := by rw [hw4]; exact ((Chg.refl [b] w3).setCell (Or.inl (by simp)) _).setCell (Or.inl (by simp)) _
  have hb4 : w4.heap[b]? = some (.cells #[.int .i64 k, .int .i64 n, .string t, .slice a3 ns.length c3, .slice none 0 0] 25 (0, 0)) := by
    rw [hw4]
    exact heap_setCell_same (heap_setCell_same hb3 _) _
  have hr4 := (hc4.block (b + 1) (lt_of_obj hr3) (by simp)).trans hr3
  have hcw4 : Chg [] w w4 := (Hc2.out.trans hc3).comp hc4 (by intro x hx; right; rw [List.mem_singleton.1 hx]; have := Hb2.out.2.2.2; omega)
  have hsz := Hb2.out.2.2.1
  have ho4 := ho3.kept hc4.toP (fun g hg hm => by have := (ownsRow_ge ho3.1 hg).1; have h' := List.mem_singleton.1 hm; omega)
  have HCL : Hid (CL w w4 f k n t (.slice a3 ns.length c3) (.slice none 0 0) b ns (es.take 0)) := Lib.hid ⟨hb4, JRow.nil _ _ _, ho4.read (fun g hg => by have h' := ownsRow_ge ho4.1 hg; exact ⟨⟨by omega, h'.2⟩, by simp [Value.ownBlock]⟩), hcw4, hr4⟩
  have c33 : w3.cell? ⟨b, 3, none⟩ = some (.slice na ns.length nc) := cell_of_heap hb3 rfl
  have c34 : w3.cell? ⟨b, 4, none⟩ = some (.slice a es.length cap) := cell_of_heap hb3 rfl
  have f33 := fun i => frozen_of_heap (i := i) hb3
  clear hb3 hr3 hc4 hb4 hr4 hcw4 hsz ho4 ho3 hc3 b0 b1 b2 b3 b4 fb
  go_upto_region 3 with fail
  rw [← hw4]
  clear hw4 c33 c34 f33
  go_wp2_with fail
  go_loopw [15] (fun ii wr => ∃ (i : Nat) (ia : Option Addr) (ic : Nat), i ≤ es.length ∧ ii = .int .i64 (i : Nat) ∧ Hid (CL w wr f k n t (.slice a3 ns.length c3) (.slice ia i ic) b ns (es.take i))) (fun ii _ => es.length - (intOf ii).toNat)
  case atStart => exact ⟨0, none, 0, by omega, rfl, HCL⟩
  case round =>
    obtain ⟨i, ia, ic, hi, rfl, HC⟩ := hrel
    by_cases hlt : i < es.length
    · have hij : (i : Int) < es.length := by omega
      have hesr : SlR p 5 (rdJ p f) wr (.slice a es.length cap) es := SlR.imp Hes.out (fun _ h => h) fun ad x hp hx => rdJ.kept (S := fun _ => False) HC.out.chg.p (fun g hg e => e) hp hx
      obtain ⟨g, off, na', nc', ia', ic', rfl, hpg, e0, e1, e2, e3, e4, f', rfl, hjv⟩ := elem_at hesr hlt
      obtain ⟨el, hel⟩ : ∃ el, el = es[i] := ⟨_, rfl⟩
      rw [← hel] at e0 e1 e2 e3 e4 hjv
      have hsm : Sm el := Hs.out.elem (hel ▸ List.getElem_mem hlt)
      have htk : es.take (i + 1) = es.take i ++ [el] := by rw [List.take_add_one, List.getElem?_eq_getElem hlt, hel]; rfl
      obtain ⟨ek, hek⟩ : ∃ x, x = el.kind := ⟨_, rfl⟩
      obtain ⟨en, hen⟩ : ∃ x, x = el.num := ⟨_, rfl⟩
      obtain ⟨et, het⟩ : ∃ x, x = el.text := ⟨_, rfl⟩
      rw [← hek] at e0 hjv
      rw [← hen] at e1 hjv
      rw [← het] at e2 hjv
      obtain ⟨nl, hnl⟩ : ∃ x, x = el.names.length := ⟨_, rfl⟩
      obtain ⟨il, hil⟩ : ∃ x, x = el.elems.length := ⟨_, rfl⟩
      rw [← hnl] at e3 hjv
      rw [← hil] at e4 hjv
      obtain ⟨w5, hw5⟩ : ∃ x, x = wr.alloc (.cells #[.int .i64 ek, .int .i64 en, .string et, .slice na' nl nc', .slice ia' il ic'] 25) := ⟨_, rfl⟩
      obtain ⟨q, hq⟩ : ∃ x, x = wr.heap.size := ⟨_, rfl⟩
      have hc5 : Chg [] wr w5 := by rw [hw5]; exact (Chg.refl _ _).alloc _
      have hb5 : w5.heap[q]? = some (.cells #[.int .i64 ek, .int .i64 en, .string et, .slice na' nl nc', .slice ia' il ic'] 25 (0, 0)) := by rw [hw5, hq]; exact heap_at _ _ _ rfl
      have hbb := (hc5.block b (lt_of_obj HC.out.box) (by simp)).trans HC.out.box
      have hql := lt_of_obj hb5
      have hqb : b < q := by rw [hq]; exact lt_of_obj HC.out.box
      have Hcall := Lib.hid (fun W (hW : Chg [] w5 W) => ih f' (by omega) W el _ (hjv.kept (S := fun _ => False) (hc5.trans hW).p (fun _ _ h => h)) hsm)
      have hrow5 := HC.out.row.same hc5
      have H5 := Lib.hid (And.intro hb5 (And.intro hbb (And.intro hc5 (And.intro hrow5 htk))))
      have Hq := Lib.hid (And.intro hql (And.intro hqb hq))
      clear hesr hel hek hen het hnl hil hjv hpg hsm hb5 hbb hc5 hrow5 htk hql hqb
      go_upto_region 6 with fail
      rw [← hw5, ← hq]
      clear hw5 hq e0 e1 e2 e3 e4
      refine wp_region_U (fun w' => w'.cell? ⟨b, 4, none⟩ = some (.slice ia i ic) ∧ w'.cell? ⟨q, 0, none⟩ = some (.int .i64 ek) ∧ w'.cell? ⟨q, 1, none⟩ = some (.int .i64 en) ∧ w'.cell? ⟨q, 2, none⟩ = some (.string et) ∧ w'.cell? ⟨q, 3, none⟩ = some (.slice na' nl nc') ∧ w'.cell? ⟨q, 4, none⟩ = some (.slice ia' il ic')) (fun _ => True) 7 (by kernel_rfl) ?_
      intro wd hwd
      have hcd : Chg [] w5 wd := by rw [hwd]; exact (Chg.refl _ _).drew
      have hbd := (hcd.block q (lt_of_obj H5.out.1) (by simp)).trans H5.out.1
      have hbbd := (hcd.block b (lt_of_obj H5.out.2.1) (by simp)).trans H5.out.2.1
      have hSW := And.intro (cell_of_heap hbbd (i := 4) rfl) (box_kept q hbd (Chg.refl [] wd))
      have Hcd := Lib.hid hcd
      have Hbd := Lib.hid (And.intro hbd hbbd)
      clear hwd hcd hbd hbbd
      refine anyU_pure (i := 0) (v := .pointer (some ⟨b, 4, none⟩)) rfl (by kernel_rfl) (fun _ _ _ h => h) (Or.inl ⟨by rfl, fun w' hS => by go_simp⟩) (fun _ => hSW) trivial ?_
      simp only [Act.put, List.setIfInBounds_toArray, List.set_cons_zero, List.set_cons_succ]
      refine anyU_take (i := 1) (v := .slice ia i ic) rfl (by kernel_rfl) (fun _ _ _ h => h) (Or.inl ⟨by rfl, fun w' hS => by go_simp⟩) hSW trivial ?_
      simp only [Act.put, List.setIfInBounds_toArray, List.set_cons_zero, List.set_cons_succ]
      refine anyU_take (i := 2) (v := .agg #[.int .i64 ek, .int .i64 en, .string et, .slice na' nl nc', .slice ia' il ic']) rfl (by kernel_rfl) (fun _ _ _ h => h) (Or.inl ⟨by rfl, fun w' hS => by go_simp⟩) hSW trivial ?_
      simp only [Act.put, List.setIfInBounds_toArray, List.set_cons_zero, List.set_cons_succ]
      refine anyU_one (k := 3) (by kernel_rfl) rfl (fun K hK => ?_)
      go_simp
      refine (Hcall.out wd Hcd.out).mono ?_
      rintro e w6 ⟨v6, rfl, hv6, c6⟩
      obtain ⟨e6, rfl⟩ := hv6.ev'
      have hb6 := (c6.block q (lt_of_obj Hbd.out.1) (by simp)).trans Hbd.out.1
      have hbb6 := (c6.block b (lt_of_obj Hbd.out.2) (by simp)).trans Hbd.out.2
      have hS6 := And.intro (cell_of_heap hbb6 (i := 4) rfl) (box_kept q hb6 (Chg.refl [] w6))
      have H6 := Lib.hid (And.intro hb6 (And.intro hbb6 (And.intro hv6 c6)))
      clear hv6 c6 hb6 hbb6 hSW
      refine hK _ _ (fun _ => hS6) trivial ?_
      clear hK K
      unfold Ev.val
      refine anyU_one (k := 4) (by kernel_rfl) rfl (fun K hK => ?_)
      go_simp
      obtain ⟨w7, hw7⟩ : ∃ x, x = w6.alloc (.cells #[.int .i64 e6.k, .int .i64 e6.n, .string e6.t, .slice e6.na e6.nl e6.nc, .slice e6.ia e6.il e6.ic] 25) := ⟨_, rfl⟩
      obtain ⟨q7, hq7⟩ : ∃ x, x = w6.heap.size := ⟨_, rfl⟩
      have hc7 : Chg [] w6 w7 := by rw [hw7]; exact (Chg.refl _ _).alloc _
      have hb7 : w7.heap[q7]? = some (.cells #[.int .i64 e6.k, .int .i64 e6.n, .string e6.t, .slice e6.na e6.nl e6.nc, .slice e6.ia e6.il e6.ic] 25 (0, 0)) := by rw [hw7, hq7]; exact heap_at _ _ _ rfl
      rw [← hw7, ← hq7]
      have hb6 := (hc7.block q (lt_of_obj H6.out.1) (by simp)).trans H6.out.1
      have hbb6 := (hc7.block b (lt_of_obj H6.out.2.1) (by simp)).trans H6.out.2.1
      have hS7 := And.intro (cell_of_heap hbb6 (i := 4) rfl) (box_kept q hb6 (Chg.refl [] w7))
      have hc57 := (Hcd.out.trans H6.out.2.2.2).trans hc7
      have hv7 : JV (fun g => (b + 2 ≤ g ∧ g < w7.heap.size) ∧ (Value.slice ia i ic).ownBlock ≠ some g) (f' + 1) w7 e6.val el := (H6.out.2.2.1.same hc7).imp fun g hg => by
        have hz := Hcd.out.size
        have h1 := Hq.out
        have h2 := H5.out.2.2.1.size
        refine ⟨⟨by have := lt_of_obj HC.out.res; omega, hg.2⟩, fun e => ?_⟩
        have := (HC.out.row.own e).2
        omega
      have hrow7 := H5.out.2.2.2.1.same hc57
      have hlt8 : (es.take i).length = i := by rw [List.length_take]; omega
      obtain ⟨a8, c8, w8, hr8, hrow8, hc8, hob8⟩ := hrow7.push (e := e6) (x := el) (n := q7) 23 hb7 hv7 (by rw [hlt8]; have := Hlen.out.2; omega) (by have := lt_of_obj hbb6; have h1 := lt_of_obj HC.out.res; have h2 := H5.out.2.2.1.size; have h3 := hc57.size; omega)
      rw [hlt8] at hr8 hrow8
      rw [← H5.out.2.2.2.2] at hrow8
      have hnot : ∀ g, g < b + 2 → g ∉ (Value.slice ia i ic).ownBlock.toList := fun g hg hm => by
        have := (HC.out.row.own (g := g) (by simpa using hm)).1
        omega
      have hnq : q ∉ (Value.slice ia i ic).ownBlock.toList := fun hm => by
        have := (HC.out.row.own (g := q) (by simpa using hm)).2
        have := Hq.out.2.2
        omega
      have hb8 := (hc8.block q (lt_of_obj hb6) hnq).trans hb6
      have hbb8 := (hc8.block b (lt_of_obj hbb6) (hnot b (by omega))).trans hbb6
      have hS8 := And.intro (cell_of_heap hbb8 (i := 4) rfl) (box_kept q hb8 (Chg.refl [] w8))
      have hcw8 : Chg [] w w8 := ((HC.out.chg.trans H5.out.2.2.1).trans hc57).comp hc8 fun g hg => Or.inr (by
        have h1 := HC.out.row.own (g := g) (by simpa using hg)
        have h2 := Hb2.out.2.2.2
        omega)
      have hs58 := Nat.le_trans (Nat.le_trans H5.out.2.2.1.size hc57.size) hc8.size
      have hs57 := Nat.le_trans H5.out.2.2.1.size hc57.size
      have hnm8 : SlR (fun g => (b + 2 ≤ g ∧ g < w8.heap.size) ∧ (Value.slice a8 (i + 1) c8).ownBlock ≠ some g) 1 rdS w8 (.slice a3 ns.length c3) ns := by
        refine SlR.imp (strs_kept HC.out.nms (((H5.out.2.2.1.trans hc57).toP.mono (T := fun g => g ∈ (Value.slice ia i ic).ownBlock.toList) (by simp)).trans hc8.toP) (fun g hg hm => hg.2 (by simpa using hm))) (fun g hg => ⟨⟨hg.1.1, by have := hg.1.2; omega⟩, fun e => ?_⟩) (fun _ _ _ h => h)
        rcases hob8 with ho | ho
        · exact hg.2 (ho.symm.trans (by rw [hlt8]; exact e))
        · rw [hlt8] at ho
          rw [ho] at e
          cases e
          have := hg.1.2
          omega
      have hr88 := (hc8.block (b + 1) (by have h1 := lt_of_obj HC.out.res; have h2 := H5.out.2.2.1.size; have h3 := hc57.size; omega) (hnot (b + 1) (by omega))).trans (((H5.out.2.2.1.trans hc57).block (b + 1) (lt_of_obj HC.out.res) (by simp)).trans HC.out.res)
      have H8 := Lib.hid (And.intro hbb8 (And.intro hrow8 (And.intro hcw8 (And.intro hnm8 hr88))))
      have Hr8 := Lib.hid hr8
      clear hs58 hs57 hob8 hb6 hbb6 hc57 hv7 hrow7 hlt8 hr8 hrow8 hc8 hnot hnq hb8 hbb8 hcw8 hnm8 hr88 hc7 hb7 hw7 hq7
      refine hK _ _ (fun _ => hS7) trivial ?_
      clear hK K
      refine anyU_one (k := 5) (by kernel_rfl) rfl (fun K hK => ?_)
      rw [if_pos (by rfl)]
      refine wp_append_run _ _ 23 rfl _ _ _ _ rfl rfl Hr8.out ?_
      refine hK _ _ (fun _ => hS8) trivial ?_
      clear hK K
      simp only [Act.put, List.setIfInBounds_toArray, List.set_cons_zero, List.set_cons_succ]
      refine anyU_one (k := 6) (by kernel_rfl) rfl (fun K hK => ?_)
      go_simp
      refine hK _ _ (fun _ => hS8) trivial ?_
      clear hK K
      have k4 := hS8.1
      have f4 := frozen_of_heap (i := 4) H8.out.1
      clear hS6 hS7
      refine anyU_one (k := 7) (by kernel_rfl) rfl (fun K hK => ?_)
      go_simp
      refine hK _ _ (fun h => by simp at h) trivial ?_
      clear hK K
      refine anyU_done (by kernel_rfl) ?_
      go_wp2_with fail
      have hcs : Chg [b] w8 (w8.setCell ⟨b, 4, none⟩ (.slice a8 (i + 1) c8)) := (Chg.refl [b] w8).setCell (Or.inl (by simp)) _
      have hbw := Hb2.out.2.2.2
      refine ⟨⟨i + 1, a8, c8, by omega, by go_num, Lib.hid ⟨heap_setCell_same H8.out.1 _, H8.out.2.1.kept hcs.toP (fun g hg => by rw [List.mem_singleton.1 hg]; omega), SlR.imp (strs_kept H8.out.2.2.2.1 hcs.toP (fun g hg hm => by have := List.mem_singleton.1 hm; have := hg.1.1; omega)) (fun g hg => ⟨⟨hg.1.1, Nat.lt_of_lt_of_le hg.1.2 hcs.size⟩, hg.2⟩) (fun _ _ _ h => h), H8.out.2.2.1.setCell (Or.inr (by rw [hbw]; exact Nat.le_refl _)) _, (heap_setCell_ne _ _ _ _ (by simp)).trans H8.out.2.2.2.2⟩⟩, by simp [intOf]; omega⟩
    · obtain rfl : i = es.length := by omega
      rw [List.take_length] at HC
      obtain ⟨b0, b1, b2, b3, b4⟩ := box_kept b HC.out.box (Chg.refl [] wr)
      obtain ⟨r0, r1, r2, r3, r4⟩ := box_kept (b + 1) HC.out.res (Chg.refl [] wr)
      have fr := fun i => frozen_of_heap (i := i) HC.out.res
      have lr := lt_of_cell r0
      go_wp2_with fail
      have hC := HC.out
      refine bodyPost_ret (v := .agg #[.int .i64 k, .int .i64 n, .string t, .slice a3 ns.length c3, .slice ia es.length ic]) (by simp [results, Tryd.results39, go_sem, r0, r1, r2, r3, r4]) rfl ?_
      have hbw := Hb2.out.2.2.2
      have hcs : Chg [b + 1] wr (((((wr.setCell ⟨b + 1, 0, none⟩ (.int .i64 k)).setCell ⟨b + 1, 1, none⟩ (.int .i64 n)).setCell ⟨b + 1, 2, none⟩ (.string t)).setCell ⟨b + 1, 3, none⟩ (.slice a3 ns.length c3)).setCell ⟨b + 1, 4, none⟩ (.slice ia es.length ic)) :=
        (((((Chg.refl [b + 1] wr).setCell (Or.inl (by simp)) _).setCell (Or.inl (by simp)) _).setCell (Or.inl (by simp)) _).setCell (Or.inl (by simp)) _).setCell (Or.inl (by simp)) _
      refine ⟨_, rfl, JN.base (B := b + 2) (JN.mk ?_ ?_ Hts.out) (by omega), hC.chg.comp hcs fun g hg => Or.inr (by rw [List.mem_singleton.1 hg]; omega)⟩
      · exact SlR.imp (strs_kept hC.nms hcs.toP (fun g hg hm => by have := List.mem_singleton.1 hm; have := hg.1.1; omega)) (fun g hg => ⟨hg.1.1, Nat.lt_of_lt_of_le hg.1.2 hcs.size⟩) (fun _ _ _ h => h)
      · exact (hC.row.kept hcs.toP (fun g hg => by rw [List.mem_singleton.1 hg]; omega)).read
theorem cloneR_any (p : Nat → Prop) : ∀ (f : Nat) (w : World) (j : J) (v : Value), JV p f w v j → Sm j → Calls Tryd.prog 39 #[v] w (ClonePost j (f + 1) w) := by
  intro f
  induction f using Nat.strongRecOn with
  | ind f ih => exact fun w j v h1 h2 => cloneR_step p f ih w j v h1 h2
end Go.Proofs.YtiklgipcgdgkoaaDoor.Jv
