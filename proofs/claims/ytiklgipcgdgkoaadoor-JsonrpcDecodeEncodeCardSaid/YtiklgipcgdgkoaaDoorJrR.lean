/- IdenticalJSON at the same value, EqualMessages, messageExample; a row of names grows. -/
import Derived.Test.YtiklgipcgdgkoaaDoorJrI
namespace Go.Proofs.YtiklgipcgdgkoaaDoor.Jv
open Go.RowKit Go.ChangeMaps Go.MapKept
set_option linter.unusedVariables false
set_option linter.unusedSimpArgs false
theorem run_append_nm (w : World) (ty : TypeId) (B : Nat) (v : Value) (l : List ByteArray) (t : ByteArray) (n : Nat) (hv : OwnN w B v l) (ht : t.size ≤ maxLen) (hb : w.heap[n]? = some (.cells #[.string t] 9 (0, 0))) (hlen : l.length ≤ 100000) (hB : B ≤ w.heap.size) :
    ∃ a cap w', (Builtin.append_ #[22, 22] ty #[v, .slice (some ⟨n, 0, none⟩) 1 1]).run Tryd.prog w = .ok (.slice a (l.length + 1) cap) w' ∧ OwnN w' B (.slice a (l.length + 1) cap) (l ++ [t]) ∧ Chg v.ownBlock.toList w w' ∧ ((Value.slice a (l.length + 1) cap).ownBlock = v.ownBlock ∨ (Value.slice a (l.length + 1) cap).ownBlock = some w.heap.size) := by
  obtain ⟨i0, hi, hz0, hz1, hz2⟩ := info_parts infoS
  obtain ⟨v', w', hr, h2, h3, _, h5⟩ := run_append_own_at (P := Tryd.prog) w B 22 ty 9 i0 (.string ⟨#[]⟩) 1 16 Tryd.underlying22 hi hz0 hz1 hz2 rfl (by decide) v l.length (ssk l) hv.1 ⟨n, 0, none⟩ 1 1 [sk t] rfl (fun j u hj => by
    rw [Addr.add_lit, Nat.zero_add]
    refine cell_of_heap hb ?_
    match j with
    | 0 => simpa [sk] using hj
    | j + 1 => simp at hj) (ssk_one [t]) (by unfold maxLen; omega) (by omega) hB
  have hsh := ownsRow_shape h2
  obtain ⟨a, cap, rfl⟩ := hsh
  refine ⟨a, cap, w', hr, ⟨?_, fun s hs => ?_⟩, (Chg.refl _ w).grown h3 (by intro k hk; left; simp [hk]), h5⟩
  · rw [List.length_append, List.length_singleton]
    unfold ssk at h2 ⊢
    rw [List.map_append]
    exact h2
  · rw [List.mem_append, List.mem_singleton] at hs
    rcases hs with hs | rfl
    · exact hv.2 s hs
    · exact ht
theorem rdS_same {p : Nat → Prop} {w w' : World} {v : Value} {l : List ByteArray} (h : SlR p 1 rdS w v l) (hc : Chg [] w w') : SlR p 1 rdS w' v l := strs_kept (S := fun _ => False) h hc.p (fun _ _ h => h)
set_option maxHeartbeats 4000000 in
theorem eqNs_any (p q : Nat → Prop) (w : World) (v1 v2 : Value) (E : List ByteArray) (h1 : SlR p 1 rdS w v1 E) (h2 : SlR q 1 rdS w v2 E) :
    Calls Tryd.prog 34 #[v1, v2] w fun e w' => e = .returned (.bool true) ∧ Chg [] w w' := by
  have H1 := Lib.hid h1
  have H2 := Lib.hid h2
  obtain ⟨a1, cap1, rfl, hml, hcp1, _⟩ := h1
  obtain ⟨a2, cap2, rfl, _, hcp2, _⟩ := h2
  unfold maxLen at hcp1
  go_enter Tryd.func34, Tryd.ntmps34
  go_wp2_with fail
  go_loopw [14] (fun i wr => ∃ k : Nat, k ≤ E.length ∧ i = .int .i64 (k : Nat) ∧ Chg [] w wr) (fun i _ => E.length - (intOf i).toNat)
  case atStart => exact ⟨0, by omega, rfl, Chg.refl _ _⟩
  case round =>
    obtain ⟨k, hk, rfl, hc⟩ := hrel
    by_cases hlt : k < E.length
    · obtain ⟨g, off, rfl, hp, c0, _⟩ := SlR.at (rdS_same H1.out hc) k hlt default
      obtain ⟨g2, off2, rfl, hp2, d0, _⟩ := SlR.at (rdS_same H2.out hc) k hlt default
      obtain ⟨x, hr⟩ : ∃ r, E.getD k default = r := ⟨_, rfl⟩
      rw [hr] at c0 d0
      rw [Nat.mul_one] at c0 d0
      have Hc := Lib.hid hc
      have hk1 : (k : Int) < E.length := by omega
      clear hr hc
      go_wp2_with fail
      exact ⟨⟨k + 1, by omega, by go_num, Hc.out⟩, by simp [intOf]; omega⟩
    · obtain rfl : k = E.length := by omega
      have hk1 : ¬ ((E.length : Int) < E.length) := by omega
      have Hc := Lib.hid hc
      clear hc
      go_wp2_with fail
      go_ret
      exact ⟨rfl, Hc.out⟩
set_option maxRecDepth 100000 in
set_option maxHeartbeats 8000000 in
theorem ident_any (p q : Nat → Prop) : ∀ (j : J) (f f' : Nat) (w : World) (v1 v2 : Value), JV p f w v1 j → JV q f' w v2 j → Calls Tryd.prog 9 #[v1, v2] w fun e w' => e = .returned (.bool true) ∧ Chg [] w w' := by
  refine J.ind fun k n t ns es ih f f' w v1 v2 h1 h2 => ?_
  obtain ⟨na, nc, a, cap, rfl, hns, hes, _, ⟨hl1, hl2⟩, hts⟩ := h1.shape
  obtain ⟨na', nc', a', cap', rfl, hns', hes', _, ⟨hl1', hl2'⟩, hts'⟩ := h2.shape
  simp only [J.kind, J.num, J.text, J.names, J.elems] at hns hes hl1 hl2 hts hns' hes' hl1' hl2' hts' ⊢
  unfold maxLen at hl2
  obtain ⟨w2, hw2⟩ : ∃ x, x = (w.alloc (.cells #[.int .i64 k, .int .i64 n, .string t, .slice na ns.length nc, .slice a es.length cap] 25)).alloc (.cells #[.int .i64 k, .int .i64 n, .string t, .slice na' ns.length nc', .slice a' es.length cap'] 25) := ⟨_, rfl⟩
  have hc2 : Chg [] w w2 := by rw [hw2]; exact ((Chg.refl [] w).alloc _).alloc _
  obtain ⟨b, hb⟩ : ∃ b, b = w.heap.size := ⟨_, rfl⟩
  have hb2 : w2.heap[b]? = some (.cells #[.int .i64 k, .int .i64 n, .string t, .slice na ns.length nc, .slice a es.length cap] 25 (0, 0)) := by
    rw [hw2, hb, heap_past _ _ _ (by simp)]
    exact heap_at _ _ _ rfl
  have hr2 : w2.heap[b + 1]? = some (.cells #[.int .i64 k, .int .i64 n, .string t, .slice na' ns.length nc', .slice a' es.length cap'] 25 (0, 0)) := by rw [hw2, hb]; exact heap_at _ _ _ (by simp)
  have Heq := Lib.hid (eqNs_any p q w2 _ _ ns (rdS_same hns hc2) (rdS_same hns' hc2))
  obtain ⟨b0, b1, b2, b3, b4⟩ := box_kept b hb2 (Chg.refl [] w2)
  obtain ⟨r0, r1, r2, r3, r4⟩ := box_kept (b + 1) hr2 (Chg.refl [] w2)
  have lb := lt_of_cell b0
  have lr := lt_of_cell r0
  have Hb2 := Lib.hid (And.intro hb2 hr2)
  have Hes := Lib.hid (And.intro hes hes')
  have Hc2 := Lib.hid hc2
  clear hns hes hns' hes' hc2 hb2 hr2 h1 h2 hts hts'
  go_enter Tryd.func9, Tryd.ntmps9
  go_upto_region 1 with fail
  rw [← hw2, ← hb]
  clear hw2 hb
  go_wp2_with fail
  refine Heq.out.mono ?_
  rintro e w3 ⟨rfl, hc3⟩
  obtain ⟨b0, b1, b2, b3, b4⟩ := box_kept b Hb2.out.1 hc3
  obtain ⟨r0, r1, r2, r3, r4⟩ := box_kept (b + 1) Hb2.out.2 hc3
  have Hc3 := Lib.hid hc3
  clear hc3
  go_wp2_with fail
  go_loopw [5, 6] (fun sv iv wr => ∃ i : Nat, i ≤ es.length ∧ sv = .bool true ∧ iv = .int .i64 (i : Nat) ∧ Hid (Chg [] w2 wr)) (fun _ iv _ => es.length - (intOf iv).toNat)
  case atStart => exact ⟨0, by omega, rfl, rfl, Hc3⟩
  case round =>
    obtain ⟨i, hi, rfl, rfl, Hc⟩ := hrel
    obtain ⟨b0, b1, b2, b3, b4⟩ := box_kept b Hb2.out.1 Hc.out
    obtain ⟨r0, r1, r2, r3, r4⟩ := box_kept (b + 1) Hb2.out.2 Hc.out
    by_cases hlt : i < es.length
    · have hij : (i : Int) < es.length := by omega
      have hi0 : (0 : Int) ≤ i := by omega
      go_upto_region 5 with fail
      refine wp_region_readsQ 10 (by kernel_rfl) (by kernel_rfl) ?_
      intro wd hwd
      simp only [List.take_succ_cons, List.take_zero, List.drop_succ_cons, List.drop_zero]
      have hcd : Chg [] wr wd := by rw [hwd]; exact (Chg.refl [] wr).drew
      clear hwd b0 b1 b2 b3 b4 r0 r1 r2 r3 r4
      obtain ⟨b0, b1, b2, b3, b4⟩ := box_kept b Hb2.out.1 (Hc.out.trans hcd)
      obtain ⟨r0, r1, r2, r3, r4⟩ := box_kept (b + 1) Hb2.out.2 (Hc.out.trans hcd)
      have hw2r := (Hc2.out.trans Hc.out).trans hcd
      have hes1 : SlR p 5 (rdJ p f) wd (.slice a es.length cap) es := SlR.imp Hes.out.1 (fun _ h => h) fun ad x hp hx => rdJ.kept (S := fun _ => False) hw2r.p (fun g hg e => e) hp hx
      have hes2 : SlR q 5 (rdJ q f') wd (.slice a' es.length cap') es := SlR.imp Hes.out.2 (fun _ h => h) fun ad x hp hx => rdJ.kept (S := fun _ => False) hw2r.p (fun g hg e => e) hp hx
      obtain ⟨g, off, xa, xc, ya, yc, rfl, _, e0, e1, e2, e3, e4, f1, rfl, hj1⟩ := elem_at hes1 hlt
      obtain ⟨g', off', xa', xc', ya', yc', rfl, _, d0, d1, d2, d3, d4, f2, rfl, hj2⟩ := elem_at hes2 hlt
      obtain ⟨el, hel⟩ : ∃ el, el = es[i] := ⟨_, rfl⟩
      have hmem : el ∈ es := hel ▸ List.getElem_mem hlt
      rw [← hel] at e0 e1 e2 e3 e4 hj1 d0 d1 d2 d3 d4 hj2
      have lg := lt_of_cell e0
      have lg' := lt_of_cell d0
      have Hcall := Lib.hid (ih el hmem f1 f2 wd _ _ hj1 hj2)
      have Hcd := Lib.hid (Hc.out.trans hcd)
      clear hel hmem hj1 hj2 hes1 hes2 hw2r hcd
      repeat go_big_quiet_step (fail)
      refine wpQuiet_nil ?_
      go_wp2_with fail
      refine Hcall.out.mono ?_
      rintro e w5 ⟨rfl, hc5⟩
      have H5 := Lib.hid (Hcd.out.trans hc5)
      clear hc5
      go_wp2_with fail
      exact ⟨⟨i + 1, by omega, rfl, by go_num, H5⟩, by simp [intOf]; omega⟩
    · obtain rfl : i = es.length := by omega
      have hij : ¬ ((es.length : Int) < es.length) := by omega
      go_wp2_with fail
      go_ret
      exact ⟨rfl, Hc2.out.trans Hc.out⟩
set_option maxRecDepth 100000 in
set_option maxHeartbeats 4000000 in
theorem eqM_any (p q : Nat → Prop) (f f' : Nat) (w : World) (k i c : Int) (t : ByteArray) (e1 e2 : Ev) (b : J) (h1 : JV p f w e1.val b) (h2 : JV q f' w e2.val b) : Calls Tryd.prog 11 #[mB k i c t e1, mB k i c t e2] w fun e w' => e = .returned (.bool true) ∧ Chg [] w w' := by
  unfold mB
  obtain ⟨w1, hw1⟩ : ∃ x, x = (w.alloc (.cells #[.int .i64 k, .int .i64 i, .int .i64 c, .string t, .int .i64 e1.k, .int .i64 e1.n, .string e1.t, .slice e1.na e1.nl e1.nc, .slice e1.ia e1.il e1.ic] 27)).alloc (.cells #[.int .i64 k, .int .i64 i, .int .i64 c, .string t, .int .i64 e2.k, .int .i64 e2.n, .string e2.t, .slice e2.na e2.nl e2.nc, .slice e2.ia e2.il e2.ic] 27) := ⟨_, rfl⟩
  obtain ⟨mb, hmb⟩ : ∃ x, x = w.heap.size := ⟨_, rfl⟩
  have hc1 : Chg [] w w1 := by rw [hw1]; exact ((Chg.refl _ _).alloc _).alloc _
  have hm1 : w1.heap[mb]? = some (.cells #[.int .i64 k, .int .i64 i, .int .i64 c, .string t, .int .i64 e1.k, .int .i64 e1.n, .string e1.t, .slice e1.na e1.nl e1.nc, .slice e1.ia e1.il e1.ic] 27 (0, 0)) := by
    rw [hw1, hmb, heap_past _ _ _ (by simp)]
    exact heap_at _ _ _ rfl
  have hr1 : w1.heap[mb + 1]? = some (.cells #[.int .i64 k, .int .i64 i, .int .i64 c, .string t, .int .i64 e2.k, .int .i64 e2.n, .string e2.t, .slice e2.na e2.nl e2.nc, .slice e2.ia e2.il e2.ic] 27 (0, 0)) := by
    rw [hw1, hmb]
    exact heap_at _ _ _ (by simp)
  obtain ⟨⟨x0, x1, x2, x3, x4, x5, x6, x7, x8⟩, xf, xl⟩ := nineM hm1
  obtain ⟨⟨y0, y1, y2, y3, y4, y5, y6, y7, y8⟩, yf, yl⟩ := nineM hr1
  have HI := Lib.hid (ident_any p q b f f' w1 _ _ (h1.chg hc1) (h2.chg hc1))
  unfold Ev.val at HI
  have Hc1 := Lib.hid hc1
  have hkk : (k == k) = true := beq_self_eq_true _
  have hii : (i == i) = true := beq_self_eq_true _
  have hcc : (c == c) = true := beq_self_eq_true _
  have htt : (t.toList == t.toList) = true := beq_self_eq_true _
  clear h1 h2 hc1 hm1 hr1 xf yf
  go_enter Tryd.func11, Tryd.ntmps11
  go_upto_region 1 with fail
  rw [← hw1, ← hmb]
  clear hw1 hmb
  go_wp2_with fail
  refine HI.out.mono ?_
  rintro e w2 ⟨rfl, hc2⟩
  have Hc2 := Lib.hid (Hc1.out.trans hc2)
  clear hc2
  go_wp2_with fail
  go_ret
  exact ⟨rfl, Hc2.out⟩
def TP2 (w : World) : Prop := Tb w ∧ P10 w
theorem TP2.new {w w' : World} (h : TP2 w) (hc : Chg [] w w') : TP2 w' := ⟨h.1.new hc, h.2.kept (S := fun _ => False) hc.p (fun h => h)⟩
theorem mexB_enc : (toM 1 1 0 ⟨#[97]⟩ J.zero).encode = (⟨#[123, 34, 105, 100, 34, 58, 49, 44, 34, 109, 101, 116, 104, 111, 100, 34, 58, 34, 97, 34, 44, 34, 112, 97, 114, 97, 109, 115, 34, 58, 110, 117, 108, 108, 125]⟩, 0) := by
  have hv : (toM 1 1 0 ⟨#[97]⟩ J.zero).valid u8 = 0 := by kernel_rfl
  have he : (toM 1 1 0 ⟨#[97]⟩ J.zero).enc = [123, 34, 105, 100, 34, 58, 49, 44, 34, 109, 101, 116, 104, 111, 100, 34, 58, 34, 97, 34, 44, 34, 112, 97, 114, 97, 109, 115, 34, 58, 110, 117, 108, 108, 125] := by
    have h1 : Lib.itoa 1 = [49] := by simp [Lib.itoa, Lib.decDigits]
    have h2 : encS ⟨#[97]⟩ = [34, 97, 34] := by decide
    have h3 : encS ⟨#[105, 100]⟩ = [34, 105, 100, 34] := by decide
    have h4 : encS ⟨#[109, 101, 116, 104, 111, 100]⟩ = [34, 109, 101, 116, 104, 111, 100, 34] := by decide
    have h5 : encS ⟨#[112, 97, 114, 97, 109, 115]⟩ = [34, 112, 97, 114, 97, 109, 115, 34] := by decide
    simp [toM, J.enc, encL, J.zero, h1, h2, h3, h4, h5]
  unfold J.encode
  rw [hv, he]
  rfl
set_option maxRecDepth 100000 in
set_option maxHeartbeats 8000000 in
theorem mexB_any (w : World) (hT : TP2 w) : Calls Tryd.prog 7 #[] w fun e w' => e = .returned (.bool true) ∧ Chg [] w w' := by
  have HE := Lib.hid (encode_b (fun g => 0 ≤ g ∧ g < w.heap.size) 0 1 1 0 ⟨#[97]⟩ ev0 J.zero w (by decide) (zeroN 0 0 w) (fun g hg => hg.2) hT.1)
  rw [show encM 1 1 0 ⟨#[97]⟩ J.zero = (0, toM 1 1 0 ⟨#[97]⟩ J.zero) by kernel_rfl] at HE
  have HT := Lib.hid hT
  have Hmx := Lib.hid mexB_enc
  generalize toM 1 1 0 ⟨#[97]⟩ J.zero = j at HE Hmx
  unfold mB at HE
  clear hT
  go_enter Tryd.func7, Tryd.ntmps7
  go_wp2_with fail
  refine HE.out.mono ?_
  rintro e w2 ⟨f2, ev, rfl, hv, hc2⟩
  obtain ⟨w3, hw3⟩ : ∃ x, x = w2.alloc (.cells #[.int .i64 ev.k, .int .i64 ev.n, .string ev.t, .slice ev.na ev.nl ev.nc, .slice ev.ia ev.il ev.ic] 25) := ⟨_, rfl⟩
  obtain ⟨vb, hvb⟩ : ∃ x, x = w2.heap.size := ⟨_, rfl⟩
  have hd3 : Chg [] w2 w3 := by rw [hw3]; exact (Chg.refl _ _).alloc _
  have hb3 : w3.heap[vb]? = some (.cells #[.int .i64 ev.k, .int .i64 ev.n, .string ev.t, .slice ev.na ev.nl ev.nc, .slice ev.ia ev.il ev.ic] 25 (0, 0)) := by rw [hw3, hvb]; exact heap_at _ _ _ rfl
  have hc3 := hc2.trans hd3
  have hj3 := hv.same hd3
  have Henc := Lib.hid (Encode_any _ f2 w3 j _ hj3 (fun g hg => hg.2) (HT.out.1.new hc3) (HT.out.new hc3).2 (fun _ => by
    have h := Hmx.out
    unfold J.encode at h
    split at h
    · cases h
    · split at h
      · cases h
      · omega))
  have Hc3 := Lib.hid hc3
  obtain ⟨b0, b1, b2, b3, b4⟩ := box_kept vb hb3 (Chg.refl [] w3)
  unfold Ev.val at *
  clear hd3 hc3 hj3 hv hc2 hb3
  go_upto_region 2 with fail
  rw [← hw3, ← hvb]
  clear hw3 hvb
  go_wp2_with fail
  refine Henc.out.mono ?_
  rintro e w4 ⟨rfl, hc4⟩
  rw [Hmx.out]
  have Hc4 := Lib.hid (Hc3.out.trans hc4)
  clear hc4
  go_wp2_with fail
  go_ret
  exact ⟨rfl, Hc4.out⟩
end Go.Proofs.YtiklgipcgdgkoaaDoor.Jv
