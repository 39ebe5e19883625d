/- JSON texts: IdenticalJSON at the same value. -/
import Derived.Test.YtpnaegfldkjikaaDoorJwD
namespace Go.Proofs.YtpnaegfldkjikaaDoor.Jv
open Go.RowKit Go.ChangeMaps Go.MapKept
set_option linter.unusedVariables false
set_option linter.unusedSimpArgs false
theorem rdS_same {p : Nat → Prop} {w w' : World} {v : Value} {l : List ByteArray} (h : SlR p 1 rdS w v l) (hc : Chg [] w w') : SlR p 1 rdS w' v l := strs_kept (S := fun _ => False) h hc.p (fun _ _ h => h)
set_option maxHeartbeats 4000000 in
theorem eqNs_any (p q : Nat → Prop) (w : World) (v1 v2 : Value) (E : List ByteArray) (h1 : SlR p 1 rdS w v1 E) (h2 : SlR q 1 rdS w v2 E) :
    Calls Tryd.prog 28 #[v1, v2] w fun e w' => e = .returned (.bool true) ∧ Chg [] w w' := by
  have H1 := Lib.hid h1
  have H2 := Lib.hid h2
  obtain ⟨a1, cap1, rfl, hml, hcp1, _⟩ := h1
  obtain ⟨a2, cap2, rfl, _, hcp2, _⟩ := h2
  unfold maxLen at hcp1
  go_enter Tryd.func28, Tryd.ntmps28
  go_wp2_with fail
  go_loopw [14] (fun i wr => ∃ k : Nat, k ≤ E.length ∧ i = .int .i64 (k : Nat) ∧ Chg [] w wr) (fun i _ => E.length - (intOf i).toNat)
  case atStart => exact ⟨0, by omega, rfl, Chg.refl _ _⟩
  case round =>
    obtain ⟨k, hk, rfl, hc⟩ := hrel
    by_cases hlt : k < E.length
    · obtain ⟨g, off, rfl, hp, c0, _⟩ := SlR.at (rdS_same H1.out hc) k hlt default
      obtain ⟨g2, off2, rfl, hp2, d0, _⟩ := SlR.at (rdS_same H2.out hc) k hlt default
      obtain ⟨x, hr⟩ : ∃ r, E.getD k default = r := ⟨_, rfl⟩
      rw [hr] at c0 d0
      rw [Nat.mul_one] at c0 d0
      have Hc := Lib.hid hc
      have hk1 : (k : Int) < E.length := by omega
      clear hr hc
      go_wp2_with fail
      exact ⟨⟨k + 1, by omega, by go_num, Hc.out⟩, by simp [intOf]; omega⟩
    · obtain rfl : k = E.length := by omega
      have hk1 : ¬ ((E.length : Int) < E.length) := by omega
      have Hc := Lib.hid hc
      clear hc
      go_wp2_with fail
      go_ret
      exact ⟨rfl, Hc.out⟩
set_option maxRecDepth 100000 in
set_option maxHeartbeats 8000000 in
theorem ident_any (p q : Nat → Prop) : ∀ (j : J) (f f' : Nat) (w : World) (v1 v2 : Value), JV p f w v1 j → JV q f' w v2 j → Calls Tryd.prog 14 #[v1, v2] w fun e w' => e = .returned (.bool true) ∧ Chg [] w w' := by
  refine J.ind fun k n t ns es ih f f' w v1 v2 h1 h2 => ?_
  obtain ⟨na, nc, a, cap, rfl, hns, hes, _, ⟨hl1, hl2⟩, hts⟩ := h1.shape
  obtain ⟨na', nc', a', cap', rfl, hns', hes', _, ⟨hl1', hl2'⟩, hts'⟩ := h2.shape
  simp only [J.kind, J.num, J.text, J.names, J.elems] at hns hes hl1 hl2 hts hns' hes' hl1' hl2' hts' ⊢
  unfold maxLen at hl2
  obtain ⟨w2, hw2⟩ : ∃ x, x = (w.alloc (.cells #[.int .i64 k, .int .i64 n, .string t, .slice na ns.length nc, .slice a es.length cap] 25)).alloc (.cells #[.int .i64 k, .int .i64 n, .string t, .slice na' ns.length nc', .slice a' es.length cap'] 25) := ⟨_, rfl⟩
  have hc2 : Chg [] w w2 := by rw [hw2]; exact ((Chg.refl [] w).alloc _).alloc _
  obtain ⟨b, hb⟩ : ∃ b, b = w.heap.size := ⟨_, rfl⟩
  have hb2 : w2.heap[b]? = some (.cells #[.int .i64 k, .int .i64 n, .string t, .slice na ns.length nc, .slice a es.length cap] 25 (0, 0)) := by
    rw [hw2, hb, heap_past _ _ _ (by simp)]
    exact heap_at _ _ _ rfl
  have hr2 : w2.heap[b + 1]? = some (.cells #[.int .i64 k, .int .i64 n, .string t, .slice na' ns.length nc', .slice a' es.length cap'] 25 (0, 0)) := by rw [hw2, hb]; exact heap_at _ _ _ (by simp)
  have Heq := Lib.hid (eqNs_any p q w2 _ _ ns (rdS_same hns hc2) (rdS_same hns' hc2))
  obtain ⟨b0, b1, b2, b3, b4⟩ := box_kept b hb2 (Chg.refl [] w2)
  obtain ⟨r0, r1, r2, r3, r4⟩ := box_kept (b + 1) hr2 (Chg.refl [] w2)
  have lb := lt_of_cell b0
  have lr := lt_of_cell r0
  have Hb2 := Lib.hid (And.intro hb2 hr2)
  have Hes := Lib.hid (And.intro hes hes')
  have Hc2 := Lib.hid hc2
  clear hns hes hns' hes' hc2 hb2 hr2 h1 h2 hts hts'
  go_enter Tryd.func14, Tryd.ntmps14
  go_upto_region 1 with fail
  rw [← hw2, ← hb]
  clear hw2 hb
  go_wp2_with fail
  refine Heq.out.mono ?_
  rintro e w3 ⟨rfl, hc3⟩
  obtain ⟨b0, b1, b2, b3, b4⟩ := box_kept b Hb2.out.1 hc3
  obtain ⟨r0, r1, r2, r3, r4⟩ := box_kept (b + 1) Hb2.out.2 hc3
  have Hc3 := Lib.hid hc3
  clear hc3
  go_wp2_with fail
  go_loopw [5, 6] (fun sv iv wr => ∃ i : Nat, i ≤ es.length ∧ sv = .bool true ∧ iv = .int .i64 (i : Nat) ∧ Hid (Chg [] w2 wr)) (fun _ iv _ => es.length - (intOf iv).toNat)
  case atStart => exact ⟨0, by omega, rfl, rfl, Hc3⟩
  case round =>
    obtain ⟨i, hi, rfl, rfl, Hc⟩ := hrel
    obtain ⟨b0, b1, b2, b3, b4⟩ := box_kept b Hb2.out.1 Hc.out
    obtain ⟨r0, r1, r2, r3, r4⟩ := box_kept (b + 1) Hb2.out.2 Hc.out
    by_cases hlt : i < es.length
    · have hij : (i : Int) < es.length := by omega
      have hi0 : (0 : Int) ≤ i := by omega
      go_upto_region 5 with fail
      refine wp_region_readsQ 10 (by kernel_rfl) (by kernel_rfl) ?_
      intro wd hwd
      simp only [List.take_succ_cons, List.take_zero, List.drop_succ_cons, List.drop_zero]
      have hcd : Chg [] wr wd := by rw [hwd]; exact (Chg.refl [] wr).drew
      clear hwd b0 b1 b2 b3 b4 r0 r1 r2 r3 r4
      obtain ⟨b0, b1, b2, b3, b4⟩ := box_kept b Hb2.out.1 (Hc.out.trans hcd)
      obtain ⟨r0, r1, r2, r3, r4⟩ := box_kept (b + 1) Hb2.out.2 (Hc.out.trans hcd)
      have hw2r := (Hc2.out.trans Hc.out).trans hcd
      have hes1 : SlR p 5 (rdJ p f) wd (.slice a es.length cap) es := SlR.imp Hes.out.1 (fun _ h => h) fun ad x hp hx => rdJ.kept (S := fun _ => False) hw2r.p (fun g hg e => e) hp hx
      have hes2 : SlR q 5 (rdJ q f') wd (.slice a' es.length cap') es := SlR.imp Hes.out.2 (fun _ h => h) fun ad x hp hx => rdJ.kept (S := fun _ => False) hw2r.p (fun g hg e => e) hp hx
      obtain ⟨g, off, xa, xc, ya, yc, rfl, _, e0, e1, e2, e3, e4, f1, rfl, hj1⟩ := elem_at hes1 hlt
      obtain ⟨g', off', xa', xc', ya', yc', rfl, _, d0, d1, d2, d3, d4, f2, rfl, hj2⟩ := elem_at hes2 hlt
      obtain ⟨el, hel⟩ : ∃ el, el = es[i] := ⟨_, rfl⟩
      have hmem : el ∈ es := hel ▸ List.getElem_mem hlt
      rw [← hel] at e0 e1 e2 e3 e4 hj1 d0 d1 d2 d3 d4 hj2
      have lg := lt_of_cell e0
      have lg' := lt_of_cell d0
      have Hcall := Lib.hid (ih el hmem f1 f2 wd _ _ hj1 hj2)
      have Hcd := Lib.hid (Hc.out.trans hcd)
      clear hel hmem hj1 hj2 hes1 hes2 hw2r hcd
      repeat go_big_quiet_step (fail)
      refine wpQuiet_nil ?_
      go_wp2_with fail
      refine Hcall.out.mono ?_
      rintro e w5 ⟨rfl, hc5⟩
      have H5 := Lib.hid (Hcd.out.trans hc5)
      clear hc5
      go_wp2_with fail
      exact ⟨⟨i + 1, by omega, rfl, by go_num, H5⟩, by simp [intOf]; omega⟩
    · obtain rfl : i = es.length := by omega
      have hij : ¬ ((es.length : Int) < es.length) := by omega
      go_wp2_with fail
      go_ret
      exact ⟨rfl, Hc2.out.trans Hc.out⟩
end Go.Proofs.YtpnaegfldkjikaaDoor.Jv
