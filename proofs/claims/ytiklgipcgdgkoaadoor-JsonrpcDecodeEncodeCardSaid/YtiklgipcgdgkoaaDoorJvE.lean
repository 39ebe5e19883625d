/- JSON values: validate, Validate. -/
import Derived.Test.YtiklgipcgdgkoaaDoorJvD
namespace Go.Proofs.YtiklgipcgdgkoaaDoor.Jv
open Go.RowKit Go.ChangeMaps Go.MapKept
set_option linter.unusedVariables false
set_option linter.unusedSimpArgs false
def VaPost (j : J) (w : World) (e : Ending) (w' : World) : Prop := e = .returned (.int .i64 (j.vd u8)) ∧ Chg [] w w'
theorem Tb.lt {w : World} (h : Tb w) : Tryd.laysValid_ren.g 3 < w.heap.size ∧ Tryd.laysValid_ren.g 4 < w.heap.size := ⟨lt_of_cell (h.1 0 (by decide)), lt_of_cell (h.2 0 (by decide)).1⟩
theorem kind_lo {k : Int} (h : 0 ≤ k ∧ k < 6) : decide (k < 0) = false := decide_eq_false (by omega)
set_option maxRecDepth 100000 in
set_option maxHeartbeats 4000000 in
theorem validate_step (p : Nat → Prop) (f : Nat)
    (ih : ∀ f', f' < f → ∀ (w : World) (j : J) (v : Value), JV p f' w v j → Tb w → Calls Tryd.prog 52 #[v] w (VaPost j w))
    (w : World) (j : J) (v : Value) (hj : JV p f w v j) (hT : Tb w) :
    Calls Tryd.prog 52 #[v] w (VaPost j w) := by
  obtain ⟨k, n, t, ns, es⟩ := j
  obtain ⟨na, nc, a, cap, rfl, hns, hes, _, ⟨hl1, hl2⟩, _⟩ := hj.shape
  simp only [J.kind, J.num, J.text, J.names, J.elems] at hns hes hl1 hl2 hj ⊢
  unfold maxLen at hl2
  obtain ⟨w2, hw2⟩ : ∃ x, x = w.alloc (.cells #[.int .i64 k, .int .i64 n, .string t, .slice na ns.length nc, .slice a es.length cap] 25) := ⟨_, rfl⟩
  have hc2 : Chg [] w w2 := by rw [hw2]; exact (Chg.refl [] w).alloc _
  have hb2 : w2.heap[w.heap.size]? = some (.cells #[.int .i64 k, .int .i64 n, .string t, .slice na ns.length nc, .slice a es.length cap] 25 (0, 0)) := by rw [hw2]; exact heap_at _ _ _ rfl
  have hwf := fun hk => wellFormed_any p f w2 _ (.mk k n t ns es) (hj.kept (S := fun _ => False) hc2.p (fun _ _ h => h)) (hT.new hc2) hk
  have Hwf := Lib.hid hwf
  have Hes := Lib.hid hes
  have HT := Lib.hid hT
  have Hc2 := Lib.hid hc2
  have Hb2 := Lib.hid hb2
  have b0 : w2.cell? ⟨w.heap.size, 0, none⟩ = some (.int .i64 k) := cell_of_heap hb2 rfl
  have b1 : w2.cell? ⟨w.heap.size, 1, none⟩ = some (.int .i64 n) := cell_of_heap hb2 rfl
  have b2 : w2.cell? ⟨w.heap.size, 2, none⟩ = some (.string t) := cell_of_heap hb2 rfl
  have b3 : w2.cell? ⟨w.heap.size, 3, none⟩ = some (.slice na ns.length nc) := cell_of_heap hb2 rfl
  have b4 : w2.cell? ⟨w.heap.size, 4, none⟩ = some (.slice a es.length cap) := cell_of_heap hb2 rfl
  clear hwf hns hes hT hc2 hb2 hj
  have Hvd := Lib.hid (show (J.mk k n t ns es).vd u8 = if k < 0 ∨ 6 ≤ k then 7 else if wf u8 k n t ns es.length = false then 3 else vdL u8 es by rw [J.vd])
  go_enter Tryd.func52, Tryd.ntmps52
  go_upto_region 1 with fail
  rw [← hw2]
  clear hw2
  by_cases hk : 0 ≤ k ∧ k < 6
  · have hk1 := kind_lo hk
    have Hk := Lib.hid hk
    obtain ⟨hk2, hk3⟩ := hk
    go_wp2_with fail
    refine (Hwf.out Hk.out).mono ?_
    rintro e w3 ⟨rfl, hc3⟩
    have Hc3 := Lib.hid hc3
    obtain ⟨b0, b1, b2, b3, b4⟩ := box_kept w.heap.size Hb2.out hc3
    have Hc03 := Lib.hid (Hc2.out.trans hc3)
    clear hc3
    simp only [J.kind, J.num, J.text, J.names, J.elems]
    cases hu : wf u8 k n t ns es.length
    · have Hv := Lib.hid (Hvd.out.trans (by rw [if_neg (by have := Hk.out; omega), if_pos hu]))
      clear hu
      go_wp2_with fail
      go_ret
      exact ⟨by rw [Hv.out]; rfl, Hc03.out⟩
    · have Hv := Lib.hid (Hvd.out.trans (by rw [if_neg (by have := Hk.out; omega), if_neg (by rw [hu]; simp)]))
      clear hu
      go_wp2_with fail
      go_loopw [22] (fun ii wr => ∃ i : Nat, i ≤ es.length ∧ ii = .int .i64 (i : Nat) ∧ Hid (Chg [] w wr) ∧ Hid (vdL u8 es = vdL u8 (es.drop i))) (fun ii _ => es.length - (intOf ii).toNat)
      case atStart => exact ⟨0, by omega, rfl, Hc03, Lib.hid (by simp)⟩
      case round =>
        obtain ⟨i, hi, rfl, Hcr, Hvl⟩ := hrel
        by_cases hlt : i < es.length
        · have hij : (i : Int) < es.length := by omega
          have hesr : SlR p 5 (rdJ p f) wr (.slice a es.length cap) es := SlR.imp Hes.out (fun _ h => h) fun ad x hp hx => rdJ.kept (S := fun _ => False) Hcr.out.p (fun g hg e => e) hp hx
          obtain ⟨g, off, na', nc', ia', ic', rfl, hpg, e0, e1, e2, e3, e4, f', rfl, hjv⟩ := elem_at hesr hlt
          obtain ⟨el, hel⟩ : ∃ el, el = es[i] := ⟨_, rfl⟩
          have hdr : vdL u8 (es.drop i) = if el.vd u8 ≠ 0 then el.vd u8 else vdL u8 (es.drop (i + 1)) := by rw [List.drop_eq_getElem_cons hlt, vdL, hel]
          rw [← hel] at e0 e1 e2 e3 e4 hjv
          obtain ⟨ek, hek⟩ : ∃ x, x = el.kind := ⟨_, rfl⟩
          obtain ⟨en, hen⟩ : ∃ x, x = el.num := ⟨_, rfl⟩
          obtain ⟨et, het⟩ : ∃ x, x = el.text := ⟨_, rfl⟩
          rw [← hek] at e0 hjv
          rw [← hen] at e1 hjv
          rw [← het] at e2 hjv
          obtain ⟨nl, hnl⟩ : ∃ x, x = el.names.length := ⟨_, rfl⟩
          obtain ⟨il, hil⟩ : ∃ x, x = el.elems.length := ⟨_, rfl⟩
          rw [← hnl] at e3 hjv
          rw [← hil] at e4 hjv
          obtain ⟨w4, hw4⟩ : ∃ x, x = wr.alloc (.cells #[.int .i64 ek, .int .i64 en, .string et, .slice na' nl nc', .slice ia' il ic'] 25) := ⟨_, rfl⟩
          have hc4 : Chg [] wr w4 := by rw [hw4]; exact (Chg.refl _ _).alloc _
          have hb4 : w4.heap[wr.heap.size]? = some (.cells #[.int .i64 ek, .int .i64 en, .string et, .slice na' nl nc', .slice ia' il ic'] 25 (0, 0)) := by rw [hw4]; exact heap_at _ _ _ rfl
          obtain ⟨b0, b1, b2, b3, b4⟩ := box_kept wr.heap.size hb4 (Chg.refl [] w4)
          have Hcall := Lib.hid (ih f' (by omega) w4 el _ (hjv.kept (S := fun _ => False) hc4.p (fun _ _ h => h)) (HT.out.new (Hcr.out.trans hc4)))
          have Hc4 := Lib.hid (Hcr.out.trans hc4)
          have Hdr := Lib.hid hdr
          clear hesr hel hek hen het hnl hil hjv hb4 hpg hdr hc4
          go_upto_region 8 with fail
          rw [← hw4]
          clear hw4 e0 e1 e2 e3 e4
          go_wp2_with fail
          refine Hcall.out.mono ?_
          rintro e w5 ⟨rfl, hc5⟩
          have Hc5 := Lib.hid (Hc4.out.trans hc5)
          clear hc5 b0 b1 b2 b3 b4
          obtain ⟨E, hE⟩ : ∃ E, E = el.vd u8 := ⟨_, rfl⟩
          rw [← hE] at Hdr ⊢
          clear hE
          by_cases hz : E = 0
          · subst hz
            have Hvl' := Lib.hid (Hvl.out.trans (Hdr.out.trans (if_neg (by simp))))
            go_wp2_with fail
            exact ⟨⟨i + 1, by omega, by go_num, Hc5, Hvl'⟩, by simp [intOf]; omega⟩
          · have Hvl' := Lib.hid (Hv.out.trans (Hvl.out.trans (Hdr.out.trans (if_pos hz))))
            go_wp2_with fail
            go_ret
            exact ⟨by rw [Hvl'.out]; rfl, Hc5.out⟩
        · obtain rfl : i = es.length := by omega
          have Hvl' := Lib.hid (Hv.out.trans (Hvl.out.trans (by rw [List.drop_length, vdL])))
          go_wp2_with fail
          go_ret
          exact ⟨by rw [Hvl'.out]; rfl, Hcr.out⟩
  · have Hv := Lib.hid (Hvd.out.trans (by rw [if_pos (by omega)]))
    by_cases hkn : k < 0
    · clear hk
      go_wp2_with fail
      go_ret
      exact ⟨by rw [Hv.out]; rfl, Hc2.out⟩
    · have hk6 : 6 ≤ k := by omega
      clear hk
      go_wp2_with fail
      go_ret
      exact ⟨by rw [Hv.out]; rfl, Hc2.out⟩
theorem validate_any (p : Nat → Prop) : ∀ (f : Nat) (w : World) (j : J) (v : Value), JV p f w v j → Tb w → Calls Tryd.prog 52 #[v] w (VaPost j w) := by
  intro f
  induction f using Nat.strongRecOn with
  | ind f ih => exact fun w j v h1 h2 => validate_step p f ih w j v h1 h2
set_option maxHeartbeats 4000000 in
theorem Validate_any (p : Nat → Prop) (f : Nat) (w : World) (j : J) (v : Value) (hj : JV p f w v j) (hT : Tb w) (hp : ∀ g, p g → g < w.heap.size) :
    Calls Tryd.prog 32 #[v] w fun e w' => e = .returned (.int .i64 (j.valid u8)) ∧ Chg [] w w' := by
  obtain ⟨k, n, t, ns, es⟩ := j
  obtain ⟨na, nc, a, cap, rfl, hns, hes, _, ⟨hl1, hl2⟩, _⟩ := hj.shape
  simp only [J.kind, J.num, J.text, J.names, J.elems] at hns hes hl1 hl2 hj ⊢
  obtain ⟨w2, hw2⟩ : ∃ x, x = (w.alloc (.cells #[.int .i64 k, .int .i64 n, .string t, .slice na ns.length nc, .slice a es.length cap] 25)).alloc (.cells #[.int .i64 0] 3) := ⟨_, rfl⟩
  have hc2 : Chg [] w w2 := by rw [hw2]; exact ((Chg.refl [] w).alloc _).alloc _
  have hs1 : (w.alloc (.cells #[.int .i64 k, .int .i64 n, .string t, .slice na ns.length nc, .slice a es.length cap] 25)).heap.size = w.heap.size + 1 := by simp
  have hb2 : w2.heap[w.heap.size]? = some (.cells #[.int .i64 k, .int .i64 n, .string t, .slice na ns.length nc, .slice a es.length cap] 25 (0, 0)) := by
    rw [hw2, heap_past _ _ _ (by rw [hs1]; omega)]
    exact heap_at _ _ _ rfl
  have hbc : w2.heap[w.heap.size + 1]? = some (.cells #[.int .i64 0] 3 (0, 0)) := by rw [hw2]; exact heap_at _ _ _ hs1.symm
  have hj2 := hj.kept (S := fun _ => False) hc2.p (fun _ _ h => h)
  have Hlim := Lib.hid (limits_any p (w.heap.size + 1) (fun h => by have := hp _ h; omega) f w2 _ _ 1 0 hj2 (cell_of_heap hbc rfl) (frozen_of_heap hbc) (by omega) (by omega))
  have Hj2 := Lib.hid hj2
  have Htl := Lib.hid hT.lt
  have HT := Lib.hid (hT.new hc2)
  have Hc2 := Lib.hid hc2
  have Hb2 := Lib.hid hb2
  have Hp := Lib.hid hp
  obtain ⟨b0, b1, b2, b3, b4⟩ := box_kept w.heap.size hb2 (Chg.refl [] w2)
  clear hns hes hj hj2 hT hc2 hb2 hbc hs1 hp
  have Hvd : Hid ((J.mk k n t ns es).valid u8 = if (J.mk k n t ns es).nodes ≤ 400 ∧ (J.mk k n t ns es).depth ≤ 20 then (J.mk k n t ns es).vd u8 else 2) := Lib.hid rfl
  go_enter Tryd.func32, Tryd.ntmps32
  go_upto_region 2 with fail
  rw [← hw2]
  clear hw2
  go_wp2_with fail
  refine Hlim.out.mono ?_
  rintro e w3 ⟨b, c', rfl, hc3, _, _, hb, _⟩
  have Hb := Lib.hid hb
  have Hc3 := Lib.hid hc3
  have Hc03 : Hid (Chg [] w w3) := Lib.hid (Hc2.out.comp hc3 (by simp))
  have hblk := (hc3.block w.heap.size (lt_of_obj Hb2.out) (by simp)).trans Hb2.out
  obtain ⟨b0, b1, b2, b3, b4⟩ := box_kept w.heap.size hblk (Chg.refl [] w3)
  have Hva := Lib.hid (validate_any p f w3 _ _ (Hj2.out.kept hc3.toP (fun g hg h => by have := Hp.out g hg; simp at h; omega)) (HT.out.kept hc3.toP (fun h => by have := Htl.out.1; have h' := List.mem_singleton.1 h; omega) (fun h => by have := Htl.out.2; have h' := List.mem_singleton.1 h; omega)))
  clear hb hc3 hblk
  cases b with
  | true =>
    have Hv := Lib.hid (Hvd.out.trans (if_pos (by have := Hb.out.1 rfl; omega)))
    go_wp2_with fail
    refine Hva.out.mono ?_
    rintro e w4 ⟨rfl, hc4⟩
    have Hc4 := Lib.hid (Hc03.out.trans hc4)
    clear hc4
    go_wp2_with fail
    go_ret
    exact ⟨by rw [Hv.out]; rfl, Hc4.out⟩
  | false =>
    have Hv := Lib.hid (Hvd.out.trans (if_neg (fun h => by have := Hb.out.2 (by omega); cases this)))
    go_wp2_with fail
    go_ret
    exact ⟨by rw [Hv.out]; rfl, Hc03.out⟩
end Go.Proofs.YtiklgipcgdgkoaaDoor.Jv
