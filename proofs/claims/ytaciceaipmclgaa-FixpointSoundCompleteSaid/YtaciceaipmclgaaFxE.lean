/- validStep; Verify. -/
import Derived.Test.YtaciceaipmclgaaFxD
import Derived.BigQuiet
namespace Go.Proofs.Ytaciceaipmclgaa
open Go.RowKit
set_option linter.unusedVariables false
theorem valid11_any (w : World) (bs bt st s k e : Nat) (h : w.cell? ⟨bs, 0, none⟩ = some (nv st)) (ht : w.cell? ⟨bt, 2, none⟩ = some (nv e)) :
    Calls Try.prog 43 #[.agg #[nv s, nv k, nv e], .pointer (some ⟨bs, 0, none⟩), .pointer (some ⟨bt, 0, none⟩)] w fun o w' => o = .returned (.bool (s == st)) ∧ Chg [] w w' := by
  have q0 : w.cell? ⟨bs, 0, none⟩ = some (.int .i64 (st : Int)) := h
  have q1 : w.cell? ⟨bt, 2, none⟩ = some (.int .i64 (e : Int)) := ht
  have lb := lt_of_cell q0
  have lt := lt_of_cell q1
  clear h ht
  show Calls Try.prog _ #[.agg #[.int .i64 (s : Int), .int .i64 (k : Int), .int .i64 (e : Int)], _, _] w _
  by_cases hs : s = st
  · subst hs
    go_enter Try.func43, Try.ntmps43
    go_wp2
    go_ret
    exact ⟨by first | rfl | (simp; rfl), (Chg.refl _ _).alloc _⟩
  · have hne : ((s : Int) == (st : Int)) = false := beq_false_of_ne (by omega)
    have hne2 : ¬ (s : Int) = (st : Int) := by omega
    go_enter Try.func43, Try.ntmps43
    go_wp2
    go_ret
    exact ⟨by rw [beq_false_of_ne hs]; first | rfl | (simp; rfl), (Chg.refl _ _).alloc _⟩
set_option maxHeartbeats 1000000 in
theorem idxV_any (p : Nat → Prop) (w : World) (bs bt st : Nat) (v : Value) (e : Nat) (Q : PS) (hl : StepL p w v e Q) (hb : w.cell? ⟨bs, 0, none⟩ = some (nv st)) (ht : w.cell? ⟨bt, 2, none⟩ = some (nv e)) :
    Calls Try.prog 26 #[v, .func (.func 43) #[] #[.pointer (some ⟨bs, 0, none⟩), .pointer (some ⟨bt, 0, none⟩)]] w fun o w' => (∃ z, o = .returned (.int .i64 z) ∧ FPost (fun t => t.1 == st) Q dPS z) ∧ Chg [] w w' := by
  obtain ⟨a, cap, rfl, hl1, hl2, hl3, hc⟩ := id hl
  have Hl := Lib.hid hl
  have Hb := Lib.hid hb; have Ht := Lib.hid ht; clear hb ht
  clear hl hc
  go_enter Try.func26, Try.ntmps26
  go_wp2
  go_loopw [8] (fun i wr => ∃ k : Nat, k ≤ Q.length ∧ i = .int .i64 (k : Nat) ∧ Hid (∀ r ∈ Q.take k, (r.1 == st) = false) ∧ Chg [] w wr) (fun i _ => Q.length - (intOf i).toNat)
  case atStart => exact ⟨0, by omega, rfl, Lib.hid (by simp), Chg.refl _ _⟩
  case round =>
    obtain ⟨k, hk, rfl, Hn, hcw⟩ := hrel
    by_cases hlt : k < Q.length
    · obtain ⟨g, off, rfl, q0, q1, q2⟩ := (Hl.out.kept hcw (by simp)).at k hlt
      have lg := lt_of_cell q0
      obtain ⟨r, hr⟩ : ∃ r, Q.getD k dPS = r := ⟨_, rfl⟩
      rw [hr] at q0 q1
      have Hr := Lib.hid hr
      have Ha := Lib.hid (valid11_any wr bs bt st r.1 r.2 e ((hcw.cell (p := ⟨bs, 0, none⟩) (lt_of_cell Hb.out) (by simp)).trans Hb.out) ((hcw.cell (p := ⟨bt, 2, none⟩) (lt_of_cell Ht.out) (by simp)).trans Ht.out))
      clear hr
      have hk1 : (k : Int) < Q.length := by omega
      go_wp2_with fail
      refine Ha.out.mono ?_
      rintro o w1 ⟨rfl, c1⟩
      cases hb : r.1 == st
      · go_wp2
        exact ⟨⟨k + 1, by omega, by go_num, Lib.hid (mem_take_succ hlt dPS Hn.out (by rw [Hr.out, hb])), hcw.trans c1⟩, by simp [intOf]; omega⟩
      · go_wp2
        go_ret
        exact ⟨⟨_, rfl, .inl ⟨k, hlt, rfl, by show ((Q.getD k dPS).1 == st) = true; rw [Hr.out, hb]⟩⟩, hcw.trans c1⟩
    · obtain rfl : k = Q.length := by omega
      go_wp2
      go_ret
      exact ⟨⟨_, rfl, .inr ⟨rfl, by have := Hn.out; rw [List.take_length] at this; exact this⟩⟩, hcw⟩

theorem cfV_any (p : Nat → Prop) (w : World) (bs bt st : Nat) (v : Value) (e : Nat) (Q : PS) (hl : StepL p w v e Q) (hb : w.cell? ⟨bs, 0, none⟩ = some (nv st)) (ht : w.cell? ⟨bt, 2, none⟩ = some (nv e)) :
    Calls Try.prog 42 #[v, .func (.func 43) #[] #[.pointer (some ⟨bs, 0, none⟩), .pointer (some ⟨bt, 0, none⟩)]] w fun o w' => o = .returned (.bool (dOf Q st)) ∧ Chg [] w w' := by
  have H := Lib.hid (idxV_any p w bs bt st v e Q hl hb ht)
  obtain ⟨av, cv, rfl, _⟩ := hl
  go_enter Try.func42, Try.ntmps42
  go_wp2_with fail
  refine H.out.mono ?_
  rintro o w1 ⟨⟨z, rfl, hz⟩, c1⟩
  have Hd := Lib.hid hz.any
  clear hz H
  by_cases hz : 0 ≤ z
  · have hany : dOf Q st = true := by unfold dOf; rw [← Hd.out]; simpa using hz
    have hzd : decide (0 ≤ z) = true := by simpa using hz
    go_wp2
    go_ret
    exact ⟨by rw [hany]; rfl, c1⟩
  · have hany : dOf Q st = false := by unfold dOf; rw [← Hd.out]; simpa using hz
    have hzd : decide (0 ≤ z) = false := by simpa using hz
    go_wp2
    go_ret
    exact ⟨by rw [hany]; rfl, c1⟩
/-- the boxes that validStep's function looks into -/
structure VAt (p : Nat → Prop) (w : World) (bp bi bt i e : Nat) (Q : PS) : Prop where
  bp : ∃ a cap, w.cell? ⟨bp, 0, none⟩ = some (.slice a Q.length cap) ∧ StepL p w (.slice a Q.length cap) e Q
  bi : w.cell? ⟨bi, 0, none⟩ = some (nv i)
  bt : w.cell? ⟨bt, 2, none⟩ = some (nv e)
theorem VAt.kept {p : Nat → Prop} {w w' : World} {bp bi bt i e : Nat} {Q : PS} (h : VAt p w bp bi bt i e Q) (hc : Chg [] w w') : VAt p w' bp bi bt i e Q := by
  obtain ⟨⟨a, cap, h1, h2⟩, h3, h4⟩ := h
  exact ⟨⟨a, cap, (hc.cell (p := ⟨bp, 0, none⟩) (lt_of_cell h1) (by simp)).trans h1, h2.kept hc (by simp)⟩, (hc.cell (p := ⟨bi, 0, none⟩) (lt_of_cell h3) (by simp)).trans h3, (hc.cell (p := ⟨bt, 2, none⟩) (lt_of_cell h4) (by simp)).trans h4⟩
theorem valid1_any (p : Nat → Prop) (w : World) (bp bi bt i e j : Nat) (Q : PS) (h : VAt p w bp bi bt i e Q) (hi : i ≤ Q.length) :
    Calls Try.prog 41 #[.int .i64 (j : Int), .pointer (some ⟨bp, 0, none⟩), .pointer (some ⟨bi, 0, none⟩), .pointer (some ⟨bt, 0, none⟩)] w fun o w' => o = .returned (.bool (!dOf (Q.take i) j)) ∧ Chg [] w w' := by
  obtain ⟨⟨a, cap, h1, h2⟩, h3, h4⟩ := h
  have q0 : w.cell? ⟨bi, 0, none⟩ = some (.int .i64 (i : Int)) := h3
  have hcw : Chg [] w (w.alloc (.cells #[.int .i64 (j : Int)] 3)) := (Chg.refl _ _).alloc _
  have Hcf := Lib.hid (cfV_any p (w.alloc (.cells #[.int .i64 (j : Int)] 3)) w.heap.size bt j (.slice a i cap) e (Q.take i) ((h2.take i hi).kept hcw (by simp)) (cell_of_heap (heap_at _ _ _ rfl) rfl) ((hcw.cell (p := ⟨bt, 2, none⟩) (lt_of_cell h4) (by simp)).trans h4))
  obtain ⟨_, _, he, hl1, hl2, hl3, _⟩ := h2
  cases he
  unfold maxLen at hl3
  have l1 := lt_of_cell h1
  have l2 := lt_of_cell h3
  have hi0 : (0 : Int) ≤ (i : Int) := by omega
  have hi1 : (i : Int) ≤ (cap : Int) := by omega
  clear h3 h4
  go_enter Try.func41, Try.ntmps41
  go_wp2_with fail
  refine Hcf.out.mono ?_
  rintro o w1 ⟨rfl, c1⟩
  go_wp2
  go_ret
  exact ⟨rfl, hcw.trans c1⟩
set_option maxHeartbeats 1000000 in
theorem idxM_any (p q : Nat → Prop) (w : World) (bp bi bt i e : Nat) (Q : PS) (v : Value) (xs : List Int) (h : VAt p w bp bi bt i e Q) (hi : i ≤ Q.length) (hl : Ints q w v xs) (hx : ∀ j ∈ xs, 0 ≤ j ∧ j < 100) :
    Calls Try.prog 44 #[v, .func (.func 41) #[] #[.pointer (some ⟨bp, 0, none⟩), .pointer (some ⟨bi, 0, none⟩), .pointer (some ⟨bt, 0, none⟩)]] w fun o w' => (∃ z, o = .returned (.int .i64 z) ∧ FPost (fun j : Int => !dOf (Q.take i) j.toNat) xs 0 z) ∧ Chg [] w w' := by
  obtain ⟨av, capv, rfl, hl1, hl2, hcv⟩ := id hl
  have Hl := Lib.hid hl
  have H := Lib.hid h
  have Hx := Lib.hid hx
  clear hl hcv h hx
  unfold maxLen at hl2
  go_enter Try.func44, Try.ntmps44
  go_wp2
  go_loopw [8] (fun x wr => ∃ k : Nat, k ≤ xs.length ∧ x = .int .i64 (k : Nat) ∧ Hid (∀ r ∈ xs.take k, (!dOf (Q.take i) r.toNat) = false) ∧ Chg [] w wr) (fun x _ => xs.length - (intOf x).toNat)
  case atStart => exact ⟨0, by omega, rfl, Lib.hid (by simp), Chg.refl _ _⟩
  case round =>
    obtain ⟨k, hk, rfl, Hn, hcw⟩ := hrel
    by_cases hlt : k < xs.length
    · obtain ⟨_, _, he, _, _, hcc⟩ := Hl.out.kept hcw (by simp)
      cases he
      obtain ⟨g, off, rfl, hp, hcc⟩ := hcc (by omega)
      have q0 : _ = some (Value.int .i64 (xs.getD k 0)) := hcc k hlt
      obtain ⟨r, hr⟩ : ∃ r, xs.getD k 0 = r := ⟨_, rfl⟩
      have hrm := Hx.out r (by rw [← hr]; exact getD_mem hlt 0)
      rw [hr] at q0
      have Hr := Lib.hid hr
      obtain ⟨m, rfl⟩ : ∃ m : Nat, r = (m : Int) := ⟨r.toNat, by omega⟩
      have hk1 : (k : Int) < xs.length := by omega
      have Hv := Lib.hid (valid1_any p wr bp bi bt i e m Q (H.out.kept hcw) hi)
      clear hr hcc hrm
      go_wp2_with fail
      refine Hv.out.mono ?_
      rintro o w1 ⟨rfl, c1⟩
      cases hb : dOf (Q.take i) m
      · go_wp2
        go_ret
        exact ⟨⟨_, rfl, .inl ⟨k, hlt, rfl, by rw [Hr.out]; show (!dOf (Q.take i) m) = true; rw [hb]; rfl⟩⟩, hcw.trans c1⟩
      · go_wp2
        exact ⟨⟨k + 1, by omega, by go_num, Lib.hid (mem_take_succ hlt 0 Hn.out (by rw [Hr.out]; show (!dOf (Q.take i) m) = false; rw [hb]; rfl)), hcw.trans c1⟩, by simp [intOf]; omega⟩
    · obtain rfl : k = xs.length := by omega
      go_wp2
      go_ret
      exact ⟨⟨_, rfl, .inr ⟨rfl, by have := Hn.out; rw [List.take_length] at this; exact this⟩⟩, hcw⟩
theorem cfM_any (p q : Nat → Prop) (w : World) (bp bi bt i e : Nat) (Q : PS) (v : Value) (xs : List Int) (h : VAt p w bp bi bt i e Q) (hi : i ≤ Q.length) (hl : Ints q w v xs) (hx : ∀ j ∈ xs, 0 ≤ j ∧ j < 100) (hd : ∀ j ∈ xs, dOf (Q.take i) j.toNat = true) :
    Calls Try.prog 33 #[v, .func (.func 41) #[] #[.pointer (some ⟨bp, 0, none⟩), .pointer (some ⟨bi, 0, none⟩), .pointer (some ⟨bt, 0, none⟩)]] w fun o w' => o = .returned (.bool false) ∧ Chg [] w w' := by
  have H := Lib.hid (idxM_any p q w bp bi bt i e Q v xs h hi hl hx)
  obtain ⟨av, cv, rfl, _⟩ := hl
  go_enter Try.func33, Try.ntmps33
  go_wp2_with fail
  refine H.out.mono ?_
  rintro o w1 ⟨⟨z, rfl, hz⟩, c1⟩
  have hzn : z = -1 := by
    rcases hz with ⟨k, hk, rfl, hq⟩ | ⟨hz, _⟩
    · simp only [hd _ (getD_mem hk 0)] at hq
      cases hq
    · exact hz
  subst hzn
  clear hz H
  go_wp2
  go_ret
  exact ⟨rfl, c1⟩
end Go.Proofs.Ytaciceaipmclgaa
