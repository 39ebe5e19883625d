/- Protocol messages: Encode at any message. -/
import Derived.Test.YtiklgipcgdgkoaaDoorJrD
namespace Go.Proofs.YtiklgipcgdgkoaaDoor.Jv
open Go.RowKit Go.ChangeMaps Go.MapKept
set_option linter.unusedVariables false
set_option linter.unusedSimpArgs false
def isNJ (b : J) : Bool := decide (b.kind = 0) && (decide (b.num = 0) && (decide (b.text = ⟨#[]⟩) && decide (b.names.length + b.elems.length = 0)))
def wfJ (k i c : Int) (t : ByteArray) (b : J) : Bool := (if k = 2 then decide (i = 0) else decide (0 ≤ i) && decide (i ≤ 2147483647)) && ((if k = 4 then decide (1 ≤ c) && decide (c ≤ 99) else decide (c = 0)) && ((if k = 4 ∨ k = 5 then isNJ b else true) && vmM k t))
/-- the object that stands for a message -/
def toM (k i c : Int) (t : ByteArray) (b : J) : J :=
  if k = 1 then .mk 5 0 ⟨#[]⟩ [⟨#[105, 100]⟩, ⟨#[109, 101, 116, 104, 111, 100]⟩, ⟨#[112, 97, 114, 97, 109, 115]⟩] [.mk 2 i ⟨#[]⟩ [] [], .mk 3 0 t [] [], b]
  else if k = 2 then .mk 5 0 ⟨#[]⟩ [⟨#[109, 101, 116, 104, 111, 100]⟩, ⟨#[112, 97, 114, 97, 109, 115]⟩] [.mk 3 0 t [] [], b]
  else if k = 3 then .mk 5 0 ⟨#[]⟩ [⟨#[105, 100]⟩, ⟨#[114, 101, 115, 117, 108, 116]⟩] [.mk 2 i ⟨#[]⟩ [] [], b]
  else if k = 4 then .mk 5 0 ⟨#[]⟩ [⟨#[105, 100]⟩, ⟨#[101, 114, 114, 111, 114]⟩] [.mk 2 i ⟨#[]⟩ [] [], .mk 5 0 ⟨#[]⟩ [⟨#[99, 111, 100, 101]⟩, ⟨#[109, 101, 115, 115, 97, 103, 101]⟩] [.mk 2 c ⟨#[]⟩ [] [], .mk 3 0 t [] []]]
  else .mk 5 0 ⟨#[]⟩ [⟨#[109, 101, 116, 104, 111, 100]⟩, ⟨#[112, 97, 114, 97, 109, 115]⟩] [.mk 3 0 ⟨#[36, 47, 99, 97, 110, 99, 101, 108]⟩ [] [], .mk 5 0 ⟨#[]⟩ [⟨#[105, 100]⟩] [.mk 2 i ⟨#[]⟩ [] []]]
/-- what Encode gives -/
def encM (k i c : Int) (t : ByteArray) (b : J) : Int × J :=
  if k < 1 ∨ 5 < k then (7, J.zero) else if wfJ k i c t b = false then (3, J.zero) else if b.valid u8 ≠ 0 then (b.valid u8, J.zero) else if (toM k i c t b).valid u8 ≠ 0 then ((toM k i c t b).valid u8, J.zero) else (0, toM k i c t b)
theorem toM_any (p : Nat → Prop) (f : Nat) (k i c : Int) (t : ByteArray) (e : Ev) (b : J) (w : World) (hk : 1 ≤ k ∧ k ≤ 5) (ht : t.size ≤ maxLen) (hb : JV p f w e.val b) (hs : Sm b) : Calls Tryd.prog 33 #[mB k i c t e] w (ToPostB (toM k i c t b) w) := by
  have : k = 1 ∨ k = 2 ∨ k = 3 ∨ k = 4 ∨ k = 5 := by omega
  rcases this with rfl | rfl | rfl | rfl | rfl
  · exact toB1 p f i c t e b w ht hb hs
  · exact toB2 p f i c t e b w ht hb hs
  · exact toB3 p f i c t e b w ht hb hs
  · exact toB4 p f i c t e b w ht hb hs
  · exact toB5 p f i c t e b w ht hb hs
theorem JV.lens {p : Nat → Prop} {f : Nat} {w : World} {e : Ev} {b : J} (h : JV p f w e.val b) : e.k = b.kind ∧ e.n = b.num ∧ e.t = b.text ∧ e.nl = b.names.length ∧ e.il = b.elems.length ∧ e.nl ≤ maxLen ∧ e.il ≤ maxLen := by
  obtain ⟨na, nc, ia, ic, hv, _, _, h1, h2, _⟩ := h.shape
  unfold Ev.val at hv
  simp only [Value.agg.injEq, Array.mk.injEq, List.cons.injEq, Value.int.injEq, Value.string.injEq, Value.slice.injEq, and_true, true_and] at hv
  obtain ⟨e0, e1, e2, ⟨_, e3, _⟩, _, e4, _⟩ := hv
  exact ⟨e0, e1, e2, e3, e4, by omega, by omega⟩
theorem isN_J {p : Nat → Prop} {f : Nat} {w : World} {e : Ev} {b : J} (h : JV p f w e.val b) : isN e = isNJ b := by
  obtain ⟨h0, h1, h2, h3, h4, _⟩ := h.lens
  unfold isN isNJ
  rw [h0, h1, h2, h3, h4]
theorem wf_J {p : Nat → Prop} {f : Nat} {w : World} {e : Ev} {b : J} (h : JV p f w e.val b) (k i c : Int) (t : ByteArray) : wfB k i c t e = wfJ k i c t b := by
  unfold wfB wfJ
  rw [isN_J h]
def EncPost (r : Int × J) (w : World) (e : Ending) (w' : World) : Prop := ∃ (f : Nat) (ev : Ev), e = .returned (.tuple #[ev.val, .int .i64 r.1]) ∧ JN w.heap.size f w' ev.val r.2 ∧ Chg [] w w'
theorem zeroN (B f : Nat) (w : World) : JN B f w (Ev.val ev0) J.zero := JN.mk (SlR.nil _ _ _ _) (SlR.nil _ _ _ _) (by decide)
theorem JV.chg {p : Nat → Prop} {f : Nat} {w w' : World} {v : Value} {j : J} (h : JV p f w v j) (hc : Chg [] w w') : JV p f w' v j := h.kept (S := fun _ => False) hc.p (fun _ _ h => h)
set_option maxRecDepth 100000 in
set_option maxHeartbeats 8000000 in
theorem encode_b (p : Nat → Prop) (f : Nat) (k i c : Int) (t : ByteArray) (e : Ev) (b : J) (w : World) (ht : t.size ≤ maxLen) (hb : JV p f w e.val b) (hp : ∀ g, p g → g < w.heap.size) (hT : Tb w) : Calls Tryd.prog 8 #[mB k i c t e] w (EncPost (encM k i c t b) w) := by
  obtain ⟨w1, hw1⟩ : ∃ x, x = (w.alloc (.cells #[.int .i64 k, .int .i64 i, .int .i64 c, .string t, .int .i64 e.k, .int .i64 e.n, .string e.t, .slice e.na e.nl e.nc, .slice e.ia e.il e.ic] 27)).alloc (.cells #[.int .i64 0, .int .i64 0, .string ⟨#[]⟩, .slice none 0 0, .slice none 0 0] 25) := ⟨_, rfl⟩
  obtain ⟨mb, hmb⟩ : ∃ x, x = w.heap.size := ⟨_, rfl⟩
  have hc1 : Chg [] w w1 := by rw [hw1]; exact ((Chg.refl _ _).alloc _).alloc _
  have hm1 : w1.heap[mb]? = some (.cells #[.int .i64 k, .int .i64 i, .int .i64 c, .string t, .int .i64 e.k, .int .i64 e.n, .string e.t, .slice e.na e.nl e.nc, .slice e.ia e.il e.ic] 27 (0, 0)) := by
    rw [hw1, hmb, heap_past _ _ _ (by simp)]
    exact heap_at _ _ _ rfl
  have hr1 : w1.heap[mb + 1]? = some (.cells #[.int .i64 0, .int .i64 0, .string ⟨#[]⟩, .slice none 0 0, .slice none 0 0] 25 (0, 0)) := by
    rw [hw1, hmb]
    exact heap_at _ _ _ (by simp)
  have Hmb := Lib.hid hmb
  have Hc1 := Lib.hid hc1
  have Hm1 := Lib.hid hm1
  have Hr1 := Lib.hid hr1
  have HT := Lib.hid hT
  have Hb := Lib.hid (fun W (hc : Chg [] w W) => hb.chg hc)
  have Hp := Lib.hid hp
  have fin : ∀ r : Int × J, encM k i c t b = r → Hid (encM k i c t b = r) := fun r h => Lib.hid h
  -- an end without a value
  have Hno : Hid (∀ (z : Int) W, Chg [] w1 W → encM k i c t b = (z, J.zero) → EncPost (encM k i c t b) w (.returned (.tuple #[.agg #[.int .i64 0, .int .i64 0, .string ⟨#[]⟩, .slice none 0 0, .slice none 0 0], .int .i64 z])) (st5 W (mb + 1) 0 ev0)) := Lib.hid (fun z W hW hz => by
    have hcs := st5_chg W (mb + 1) 0 ev0
    rw [hz]
    exact ⟨0, ev0, rfl, zeroN _ _ _, (Hc1.out.trans hW).comp hcs fun g hg => Or.inr (by have := List.mem_singleton.1 hg; have := Hmb.out; omega)⟩)
  by_cases hk : k < 1 ∨ 5 < k
  · have HF := fin (7, J.zero) (by unfold encM; rw [if_pos hk])
    obtain ⟨m0, m1, m2, m3, m4, m5, m6, m7, m8⟩ := msg_cells mb hm1 (Chg.refl [] w1)
    obtain ⟨r0, r1, r2, r3, r4⟩ := box_kept (mb + 1) hr1 (Chg.refl [] w1)
    have fr := fun i => frozen_of_heap (i := i) hr1
    have lr := lt_of_cell r0
    unfold mB
    clear hT hb hp hc1 hm1 hr1 fin
    by_cases hk1 : k < 1
    · have d1 : decide (k < 1) = true := decide_eq_true hk1
      clear hk hk1
      go_enter Tryd.func8, Tryd.ntmps8
      go_upto_region 1 with fail
      rw [← hw1, ← hmb]
      clear hw1 hmb
      go_wp2_with fail
      refine bodyPost_ret (v := .tuple #[.agg #[.int .i64 0, .int .i64 0, .string ⟨#[]⟩, .slice none 0 0, .slice none 0 0], .int .i64 7]) (by simp [results, Tryd.results8, go_sem, r0, r1, r2, r3, r4]) rfl ?_
      exact Hno.out 7 w1 (Chg.refl _ _) HF.out
    · have d1 : decide (k < 1) = false := decide_eq_false hk1
      have d2 : decide (k > 5) = true := decide_eq_true (by omega)
      clear hk hk1
      go_enter Tryd.func8, Tryd.ntmps8
      go_upto_region 1 with fail
      rw [← hw1, ← hmb]
      clear hw1 hmb
      go_wp2_with fail
      refine bodyPost_ret (v := .tuple #[.agg #[.int .i64 0, .int .i64 0, .string ⟨#[]⟩, .slice none 0 0, .slice none 0 0], .int .i64 7]) (by simp [results, Tryd.results8, go_sem, r0, r1, r2, r3, r4]) rfl ?_
      exact Hno.out 7 w1 (Chg.refl _ _) HF.out
  have d1 : decide (k < 1) = false := decide_eq_false (by omega)
  have d2 : decide (k > 5) = false := decide_eq_false (by omega)
  have hkk : 1 ≤ k ∧ k ≤ 5 := by omega
  have HW := Lib.hid (fun W (hc : Chg [] w W) => wellFormed_b k i c t e W hkk (HT.out.new hc) ht ⟨hb.lens.2.2.2.2.2.1, hb.lens.2.2.2.2.2.2⟩)
  rw [wf_J hb k i c t] at HW
  have Hkk := Lib.hid (And.intro hkk ht)
  have HE : Hid (encM k i c t b = if wfJ k i c t b = false then (3, J.zero) else if b.valid u8 ≠ 0 then (b.valid u8, J.zero) else if (toM k i c t b).valid u8 ≠ 0 then ((toM k i c t b).valid u8, J.zero) else (0, toM k i c t b)) := Lib.hid (by
    unfold encM
    rw [if_neg hk])
  have HO := Lib.hid (fun W (hc : Chg [] w W) hs => toM_any p f k i c t e b W hkk ht (Hb.out W hc) hs)
  generalize wfJ k i c t b = wfb at HW HE
  unfold mB Ev.val at *
  clear hT hb hp hc1 hm1 hr1 fin hk hkk ht
  go_enter Tryd.func8, Tryd.ntmps8
  go_upto_region 1 with fail
  rw [← hw1, ← hmb]
  clear hw1 hmb
  obtain ⟨m0, m1, m2, m3, m4, m5, m6, m7, m8⟩ := msg_cells mb Hm1.out (Chg.refl [] w1)
  go_wp2_with fail
  refine (HW.out w1 Hc1.out).mono ?_
  rintro e1 w2 ⟨rfl, hc2⟩
  have Hd2 := Lib.hid hc2
  have Hc2 := Lib.hid (Hc1.out.trans hc2)
  obtain ⟨m0, m1, m2, m3, m4, m5, m6, m7, m8⟩ := msg_cells mb Hm1.out hc2
  have hr2 := (hc2.block (mb + 1) (lt_of_obj Hr1.out) (by simp)).trans Hr1.out
  clear hc2
  cases wfb
  · obtain ⟨r0, r1, r2, r3, r4⟩ := box_kept (mb + 1) hr2 (Chg.refl [] w2)
    have fr := fun i => frozen_of_heap (i := i) hr2
    have lr := lt_of_cell r0
    clear hr2
    go_wp2_with fail
    refine bodyPost_ret (v := .tuple #[.agg #[.int .i64 0, .int .i64 0, .string ⟨#[]⟩, .slice none 0 0, .slice none 0 0], .int .i64 3]) (by simp [results, Tryd.results8, go_sem, r0, r1, r2, r3, r4]) rfl ?_
    exact Hno.out 3 w2 Hd2.out (by rw [HE.out]; rfl)
  clear hr2
  go_wp2_with fail
  refine (Validate_any p f w2 b _ (Hb.out w2 Hc2.out) (HT.out.new Hc2.out) (fun g hg => Nat.lt_of_lt_of_le (Hp.out g hg) Hc2.out.size)).mono ?_
  rintro e1 w3 ⟨rfl, hc3⟩
  have Hd3 := Lib.hid (Hd2.out.trans hc3)
  have Hc3 := Lib.hid (Hc2.out.trans hc3)
  obtain ⟨m0, m1, m2, m3, m4, m5, m6, m7, m8⟩ := msg_cells mb Hm1.out Hd3.out
  have hr3 := (Hd3.out.block (mb + 1) (lt_of_obj Hr1.out) (by simp)).trans Hr1.out
  clear hc3
  by_cases hbv : b.valid u8 = 0
  case neg =>
    have HE2 := Lib.hid (show encM k i c t b = (b.valid u8, J.zero) by rw [HE.out, if_neg (by simp), if_pos hbv])
    have hz2 : (b.valid u8 != 0) = true := by simpa using hbv
    obtain ⟨z, hz⟩ : ∃ z, b.valid u8 = z := ⟨_, rfl⟩
    rw [hz] at HE2 hz2 ⊢
    obtain ⟨r0, r1, r2, r3, r4⟩ := box_kept (mb + 1) hr3 (Chg.refl [] w3)
    have fr := fun i => frozen_of_heap (i := i) hr3
    have lr := lt_of_cell r0
    clear hr3 hbv hz HE HO
    go_wp2_with fail
    refine bodyPost_ret (v := .tuple #[.agg #[.int .i64 0, .int .i64 0, .string ⟨#[]⟩, .slice none 0 0, .slice none 0 0], .int .i64 z]) (by simp [results, Tryd.results8, go_sem, r0, r1, r2, r3, r4]) rfl ?_
    exact Hno.out z w3 Hd3.out HE2.out
  case pos =>
    rw [hbv]
    have HE2 := Lib.hid (show encM k i c t b = if (toM k i c t b).valid u8 ≠ 0 then ((toM k i c t b).valid u8, J.zero) else (0, toM k i c t b) by rw [HE.out, if_neg (by simp), if_neg (by simp [hbv])])
    have HO3 := Lib.hid (HO.out w3 Hc3.out (Sm.of hbv))
    clear hr3 hbv HE HO
    generalize toM k i c t b = j at HE2 HO3
    go_wp2_with fail
    refine HO3.out.mono ?_
    rintro e1 w4 ⟨f4, v4, rfl, hv4, hc4⟩
    obtain ⟨ev, rfl⟩ := hv4.ev'
    have Hd4 := Lib.hid (Hd3.out.trans hc4)
    have Hc4 := Lib.hid (Hc3.out.trans hc4)
    have Hv4 := Lib.hid hv4
    have Hg3 : Hid (mb + 1 < w3.heap.size ∧ w.heap.size ≤ w3.heap.size) := Lib.hid ⟨Nat.lt_of_lt_of_le (lt_of_obj Hr1.out) Hd3.out.size, Hc3.out.size⟩
    clear hv4 hc4 m0 m1 m2 m3 m4 m5 m6 m7 m8
    unfold Ev.val at *
    obtain ⟨w5, hw5⟩ : ∃ x, x = w4.alloc (.cells #[.int .i64 ev.k, .int .i64 ev.n, .string ev.t, .slice ev.na ev.nl ev.nc, .slice ev.ia ev.il ev.ic] 25) := ⟨_, rfl⟩
    obtain ⟨vb, hvb⟩ : ∃ x, x = w4.heap.size := ⟨_, rfl⟩
    have hc5 : Chg [] w4 w5 := by rw [hw5]; exact (Chg.refl _ _).alloc _
    have hb5 : w5.heap[vb]? = some (.cells #[.int .i64 ev.k, .int .i64 ev.n, .string ev.t, .slice ev.na ev.nl ev.nc, .slice ev.ia ev.il ev.ic] 25 (0, 0)) := by rw [hw5, hvb]; exact heap_at _ _ _ rfl
    have Hd5 := Lib.hid (Hd4.out.trans hc5)
    have Hc5 := Lib.hid (Hc4.out.trans hc5)
    have Hv5 := Lib.hid (Hv4.out.same hc5)
    have Hb5 := Lib.hid hb5
    clear hc5 hb5
    go_upto_region 9 with fail
    rw [← hw5, ← hvb]
    clear hw5 hvb
    obtain ⟨b0, b1, b2, b3, b4⟩ := box_kept vb Hb5.out (Chg.refl [] w5)
    go_wp2_with fail
    refine (Validate_any _ f4 w5 j _ Hv5.out (HT.out.new Hc5.out) (fun g hg => hg.2)).mono ?_
    rintro e1 w6 ⟨rfl, hc6⟩
    have Hc6 := Lib.hid (Hc5.out.trans hc6)
    have Hd6 := Lib.hid (Hd5.out.trans hc6)
    have Hv6 := Lib.hid (Hv5.out.same hc6)
    obtain ⟨b0, b1, b2, b3, b4⟩ := box_kept vb Hb5.out hc6
    have hr6 := ((Hd5.out.trans hc6).block (mb + 1) (lt_of_obj Hr1.out) (by simp)).trans Hr1.out
    obtain ⟨r0, r1, r2, r3, r4⟩ := box_kept (mb + 1) hr6 (Chg.refl [] w6)
    have fr := fun i => frozen_of_heap (i := i) hr6
    have lr := lt_of_cell r0
    clear hc6 hr6
    by_cases hjv : j.valid u8 = 0
    · rw [hjv]
      have HE3 := Lib.hid (show encM k i c t b = (0, j) by rw [HE2.out, if_neg (by simp [hjv])])
      clear hjv
      go_wp2_with fail
      refine bodyPost_ret (v := .tuple #[.agg #[.int .i64 ev.k, .int .i64 ev.n, .string ev.t, .slice ev.na ev.nl ev.nc, .slice ev.ia ev.il ev.ic], .int .i64 0]) (by simp [results, Tryd.results8, go_sem, r0, r1, r2, r3, r4]) rfl ?_
      have hcs := st5_chg w6 (mb + 1) 0 ev
      have hmbw := Hmb.out
      have h3 := Hg3.out
      have hv := (Hv6.out.kept hcs.toP fun g hg hm => by have := List.mem_singleton.1 hm; have := hg.1; omega).imp (q := fun g => w.heap.size ≤ g ∧ g < (st5 w6 (mb + 1) 0 ev).heap.size) fun g hg => ⟨by have := hg.1; omega, Nat.lt_of_lt_of_le hg.2 hcs.size⟩
      have hend : EncPost (encM k i c t b) w (.returned (.tuple #[ev.val, .int .i64 0])) (st5 w6 (mb + 1) 0 ev) := by
        rw [HE3.out]
        exact ⟨f4, ev, rfl, hv, Hc6.out.comp hcs fun g hg => Or.inr (by have := List.mem_singleton.1 hg; omega)⟩
      exact hend
    · have HE3 := Lib.hid (show encM k i c t b = (j.valid u8, J.zero) by rw [HE2.out, if_pos hjv])
      have hz2 : (j.valid u8 != 0) = true := by simpa using hjv
      obtain ⟨z, hz⟩ : ∃ z, j.valid u8 = z := ⟨_, rfl⟩
      rw [hz] at HE3 hz2 ⊢
      clear hjv hz HE2
      go_wp2_with fail
      refine bodyPost_ret (v := .tuple #[.agg #[.int .i64 0, .int .i64 0, .string ⟨#[]⟩, .slice none 0 0, .slice none 0 0], .int .i64 z]) (by simp [results, Tryd.results8, go_sem, r0, r1, r2, r3, r4]) rfl ?_
      exact Hno.out z w6 Hd6.out HE3.out
end Go.Proofs.YtiklgipcgdgkoaaDoor.Jv
