/- CancelToken: the law's walk. -/
import Derived.Test.YtdeodcomlakpaaaGn
import Derived.Test.YtdeodcomlakpaaaNx
namespace Go.Proofs.Ytdeodcomlakpaaa
open Go.RowKit Go.ChangeMaps Go.MapKept
set_option linter.unusedVariables false
set_option linter.unusedSimpArgs false
set_option maxRecDepth 100000 in
set_option maxHeartbeats 16000000 in
theorem tokenLaw_any (p0 : Nat → Prop) (w : World) (inp : Int) (qs : List (List QO)) (ss : List I3) (q : Int) (qv sv : Value) (hq : I3ss p0 w qv qs) (hs : I3s p0 w sv ss) (hp0 : ∀ k, p0 k → k < w.heap.size) :
    Calls Try.prog 7 #[.agg #[.int .i64 inp, qv], sv, .int .i64 q] w fun e w' => e = .returned (.bool true) ∧ Chg [] w w' := by
  obtain ⟨av, capv, rfl, hlm, hlc⟩ := hq.shape
  have Hq := Lib.hid hq
  have Hs := Lib.hid hs
  have Hp0 := Lib.hid hp0
  have hc0 : Chg [] w (w.alloc (.cells #[.int .i64 inp, .slice av qs.length capv] 42)) := (Chg.refl [] w).alloc _
  have Hc0 := Lib.hid hc0
  clear hq hs hp0 hc0
  unfold maxLen at hlm
  go_enter Try.func7, Try.ntmps7
  go_wp2_with fail
  refine (memoExample_any _).mono ?_
  rintro e w1 ⟨rfl, c1⟩
  have m0 : w1.cell? ⟨w.heap.size, 0, none⟩ = some (.int .i64 inp) := (c1.cell (p := ⟨w.heap.size, 0, none⟩) (by simp) (by simp)).trans (cell_of_heap (heap_at _ _ _ rfl) rfl)
  have m1 : w1.cell? ⟨w.heap.size, 1, none⟩ = some (.slice av qs.length capv) := (c1.cell (p := ⟨w.heap.size, 1, none⟩) (by simp) (by simp)).trans (cell_of_heap (heap_at _ _ _ rfl) rfl)
  have lm := lt_of_cell m0
  have Hc1 := Lib.hid (Hc0.out.trans c1)
  clear c1
  go_wp2_with fail
  refine (usable_any (fun g => g < w1.heap.size) _ inp qs _ (Hq.out.old Hp0.out Hc1.out)).mono ?_
  rintro e w2 ⟨b, rfl, hb, c2⟩
  have n0 := (c2.cell (p := ⟨w.heap.size, 0, none⟩) lm (by simp)).trans m0
  have n1 := (c2.cell (p := ⟨w.heap.size, 1, none⟩) lm (by simp)).trans m1
  have ln := lt_of_cell n0
  have Hc2 := Lib.hid (Hc1.out.trans c2)
  clear c2 m0 m1 lm
  cases b with
  | false =>
    clear hb
    go_wp2_with fail
    refine (memoExample_any _).mono ?_
    rintro e w3 ⟨rfl, c3⟩
    go_wp2
    go_ret
    exact ⟨rfl, Hc2.out.trans c3⟩
  | true =>
    obtain ⟨hok, hl0, hi0⟩ := hb.1 rfl
    clear hb
    obtain ⟨N, rfl⟩ := Int.eq_ofNat_of_zero_le hok.inp.1
    have hN := hok.inp.2
    have hL := hok.size
    simp only at hN hL
    obtain ⟨qn, hqn, hmq⟩ := modN q qs.length (by omega) (by omega)
    have Hmq := Lib.hid hmq
    have Hok := Lib.hid hok
    have Hst := Lib.hid (started_any hok w2 hl0 (by omega) _ _ ss (Hq.out.old Hp0.out Hc2.out) (I3s.imp (I3s.kept (S := fun _ => False) Hs.out Hc2.out.p (fun _ _ h => h)) fun g hg => Nat.lt_of_lt_of_le (Hp0.out g hg) Hc2.out.size))
    clear hmq hok
    go_wp2_with fail
    refine Hst.out.mono ?_
    rintro e w3 ⟨b, gi, d, ins, rfl, hM, hR⟩
    have hil : ins.length = N := by have h : (ins.length : Int) = (N : Int) := hM.len; omega
    rw [hil]
    have Hil := Lib.hid hil
    have Hn := Lib.hid (And.intro ln (And.intro n0 n1))
    have r0 := (hM.db.chg.cell (p := ⟨w.heap.size, 0, none⟩) Hn.out.1 (by simp)).trans Hn.out.2.1
    have r1 := (hM.db.chg.cell (p := ⟨w.heap.size, 1, none⟩) Hn.out.1 (by simp)).trans Hn.out.2.2
    have lr := lt_of_cell r0
    have HM := Lib.hid hM
    have HR := Lib.hid hR
    clear hM hR hil n0 n1 ln Hst
    go_wp2_with fail
    refine (tokNew _).mono ?_
    rintro e w4 ⟨rfl, hw4⟩
    have c4 : Chg [] w3 w4 := by rw [hw4]; exact (Chg.refl [] w3).alloc _
    have ht4 : w4.heap[w3.heap.size]? = some (tokObj 0) := by rw [hw4]; exact heap_at _ _ _ rfl
    have r0 := (c4.cell (p := ⟨w.heap.size, 0, none⟩) lr (by simp)).trans r0
    have r1 := (c4.cell (p := ⟨w.heap.size, 1, none⟩) lr (by simp)).trans r1
    have lr := lt_of_cell r0
    have Hm3 := Lib.hid HM.out.db.mem
    have HM4 := Lib.hid (HM.out.new c4)
    have HT4 := Lib.hid ht4
    clear hw4 c4 ht4
    go_wp2_with fail
    refine (tokCanceled _ _ 0 (cell_of_heap HT4.out rfl)).mono ?_
    rintro e w' ⟨rfl, rfl⟩
    simp only [decide_true, Bool.not_true]
    go_wp2_with fail
    refine (Hmq.out _).mono ?_
    rintro e w' ⟨rfl, rfl⟩
    clear Hmq
    go_wp2_with fail
    refine (queryKey_any _ _).mono ?_
    rintro e w5 ⟨rfl, c5⟩
    unfold i3v
    obtain ⟨w6, hw6⟩ : ∃ x, x = w5.alloc (.cells #[.int .i64 1, .int .i64 (qn : Int), .int .i64 0] 27) := ⟨_, rfl⟩
    have c6 : Chg [] w5 w6 := by rw [hw6]; exact (Chg.refl [] w5).alloc _
    have hM5 := HM4.out.new c5
    have hk6 : Box b w6 d w5.heap.size (.cells #[.int .i64 1, .int .i64 (qn : Int), .int .i64 0] 27 (0, 0)) := by rw [hw6]; exact Box.make hM5.db.mem _ _
    have ht6 : w6.heap[w3.heap.size]? = some (tokObj 0) := ((c5.trans c6).block _ (lt_of_obj HT4.out) (by simp)).trans HT4.out
    have hlt5 : w3.heap.size < w5.heap.size := Nat.lt_of_lt_of_le (lt_of_obj HT4.out) c5.size
    have HM6 := Lib.hid (hM5.new c6)
    have HK6 := Lib.hid hk6
    have HT6 := Lib.hid ht6
    have Hlt5 := Lib.hid hlt5
    clear c5 c6 hM5 hk6 ht6 hlt5 r0 r1 lr
    go_wp2_with fail
    rw [← hw6]
    clear hw6
    refine (tokCancel _ _ 0 HT6.out).mono ?_
    rintro e w7 ⟨rfl, ht7, c7⟩
    have hnm : w3.heap.size ∉ d.muts b ∧ w3.heap.size ∉ d.imms := ⟨fun hm => by have := Hm3.out.lt _ hm; omega, fun hm => by have := Hm3.out.bound _ hm; omega⟩
    have c7' : ChgP (fun x => x = w3.heap.size) w6 w7 := c7.toP.mono (fun x hx => by simpa using hx)
    have hM7 := HM6.out.side c7' hnm.1 hnm.2 HM.out.lt
    have hk7 : Box b w7 d w5.heap.size (.cells #[.int .i64 1, .int .i64 (qn : Int), .int .i64 0] 27 (0, 0)) := ⟨(c7'.block _ (lt_of_obj HK6.out.blk) (by have := Hlt5.out; omega)).trans HK6.out.blk, HK6.out.off⟩
    have HB7 := Lib.hid (show Box b w7 d w3.heap.size (tokObj 1) from ⟨ht7, hnm.1⟩)
    have k0 : w7.cell? ⟨w5.heap.size, 0, none⟩ = some (.int .i64 1) := cell_of_heap hk7.blk rfl
    have k1 : w7.cell? ⟨w5.heap.size, 1, none⟩ = some (.int .i64 (qn : Int)) := cell_of_heap hk7.blk rfl
    have k2 : w7.cell? ⟨w5.heap.size, 2, none⟩ = some (.int .i64 0) := cell_of_heap hk7.blk rfl
    have lk := lt_of_cell k0
    have HM7 := Lib.hid hM7
    have HK7 := Lib.hid hk7
    clear ht7 c7 c7' hnm hM7 hk7
    go_wp2_with fail
    refine (computations_any _ b d HM7.out.db.mem).mono ?_
    rintro e w' ⟨rfl, rfl⟩
    go_wp2_with fail
    refine (cancelGet_any Hok.out HM7.out.db (stp := fun _ => true) (.pointer (some ⟨w3.heap.size, 0, none⟩)) (fun x => x = w3.heap.size) (fun g hg => by subst hg; exact ⟨lt_of_obj HB7.out.blk, HB7.out.off⟩) (fun w0 RO hS => stopTok (v := 1) (hS _ rfl).1 ((hS _ rfl).2.trans HB7.out.blk)) hqn).mono ?_
    intro e w8 hg
    obtain ⟨d8, a8, m8, c8, x8, rfl, hx8, hM8, hR8, ha8, hcnt8⟩ := StoppedPost.mk Hok.out HM7.out HR.out (by omega) hqn hg
    have hk8 := HK7.out.after ha8
    have HB8 := Lib.hid (HB7.out.after ha8)
    have k0 : w8.cell? ⟨w5.heap.size, 0, none⟩ = some (.int .i64 1) := cell_of_heap hk8.blk rfl
    have k1 : w8.cell? ⟨w5.heap.size, 1, none⟩ = some (.int .i64 (qn : Int)) := cell_of_heap hk8.blk rfl
    have k2 : w8.cell? ⟨w5.heap.size, 2, none⟩ = some (.int .i64 0) := cell_of_heap hk8.blk rfl
    have lk := lt_of_cell k0
    obtain ⟨w9, hw9⟩ : ∃ x, x = w8.alloc (.cells #[.slice a8 m8 c8, .string ⟨#[]⟩] 31) := ⟨_, rfl⟩
    have c9 : Chg [] w8 w9 := by rw [hw9]; exact (Chg.refl [] w8).alloc _
    have hk9 := hk8.new c9
    have HB9 := Lib.hid (HB8.out.new c9)
    have HM9 := Lib.hid (hM8.new c9)
    have HR9 := Lib.hid hR8
    have HK9 := Lib.hid hk9
    have Hcnt8 := Lib.hid hcnt8
    clear hg hM8 hR8 ha8 c9 hk8 hcnt8 k0 k1 k2 lk
    have k0 : w9.cell? ⟨w5.heap.size, 0, none⟩ = some (.int .i64 1) := cell_of_heap hk9.blk rfl
    have k1 : w9.cell? ⟨w5.heap.size, 1, none⟩ = some (.int .i64 (qn : Int)) := cell_of_heap hk9.blk rfl
    have k2 : w9.cell? ⟨w5.heap.size, 2, none⟩ = some (.int .i64 0) := cell_of_heap hk9.blk rfl
    have lk := lt_of_cell k0
    clear hk9
    rcases hx8 with rfl | rfl
    all_goals
      go_wp2_with fail
      rw [← hw9]
      clear hw9
      refine (computations_any _ b d8 HM9.out.db.mem).mono ?_
      rintro e w' ⟨rfl, rfl⟩
      rw [Hcnt8.out]
      go_wp2_with fail
      refine (cancelGet_any Hok.out HM9.out.db (stp := fun _ => false) (.pointer none) (fun _ => False) (fun g hg => hg.elim) (fun w0 RO hS => stopNil) hqn).mono ?_
      intro e w10 hg
      obtain ⟨d10, a10, c10, r10, rfl, hi10, hM10, hR10, hf10, ha10⟩ := GotPost.mk Hok.out HM9.out HR9.out (by omega) hqn hg
      have hk10 := HK9.out.after ha10
      have hB10 := HB9.out.after ha10
      obtain ⟨w11, hw11⟩ : ∃ x, x = w10.alloc (.cells #[.slice a10 1 c10, .string ⟨#[]⟩] 31) := ⟨_, rfl⟩
      have c11 : Chg [] w10 w11 := by rw [hw11]; exact (Chg.refl [] w10).alloc _
      have hv11 : Box b w11 d10 w10.heap.size (.cells #[.slice a10 1 c10, .string ⟨#[]⟩] 31 (0, 0)) := by rw [hw11]; exact Box.make hM10.db.mem _ _
      have hk11 := hk10.new c11
      have HB11 := Lib.hid (hB10.new c11)
      have HM11 := Lib.hid (hM10.new c11)
      have HR11 := Lib.hid hR10
      have HF11 := Lib.hid hf10
      have HV11 := Lib.hid hv11
      have Hi11 := Lib.hid (hi10.same c11)
      have k0 : w10.cell? ⟨w5.heap.size, 0, none⟩ = some (.int .i64 1) := cell_of_heap hk10.blk rfl
      have k1 : w10.cell? ⟨w5.heap.size, 1, none⟩ = some (.int .i64 (qn : Int)) := cell_of_heap hk10.blk rfl
      have k2 : w10.cell? ⟨w5.heap.size, 2, none⟩ = some (.int .i64 0) := cell_of_heap hk10.blk rfl
      have lk := lt_of_cell k0
      clear hg hi10 hM10 hR10 hf10 ha10 c11 hv11 hk10 hB10 hk11
      go_wp2_with fail
      rw [← hw11]
      clear hw11
      refine (cancelGet_any Hok.out HM11.out.db (stp := fun _ => true) (.pointer (some ⟨w3.heap.size, 0, none⟩)) (fun x => x = w3.heap.size) (fun g hg => by subst hg; exact ⟨lt_of_obj HB11.out.blk, HB11.out.off⟩) (fun w0 RO hS => stopTok (v := 1) (hS _ rfl).1 ((hS _ rfl).2.trans HB11.out.blk)) hqn).mono ?_
      intro e w12 hg
      obtain ⟨d12, a12, c12, r12, rfl, hi12, hM12, hR12, hf12, ha12, hcnt12⟩ := AgainPost.mk Hok.out HM11.out HR11.out (by omega) hqn HF11.out hg
      have hB12 := HB11.out.after ha12
      obtain ⟨w13, hw13⟩ : ∃ x, x = w12.alloc (.cells #[.slice a12 1 c12, .string ⟨#[]⟩] 31) := ⟨_, rfl⟩
      have c13 : Chg [] w12 w13 := by rw [hw13]; exact (Chg.refl [] w12).alloc _
      have hu13 : Box b w13 d12 w12.heap.size (.cells #[.slice a12 1 c12, .string ⟨#[]⟩] 31 (0, 0)) := by rw [hw13]; exact Box.make hM12.db.mem _ _
      have hv13 := (HV11.out.after ha12).new c13
      have HB13 := Lib.hid (hB12.new c13)
      have HM13 := Lib.hid (hM12.new c13)
      have HV13 := Lib.hid (And.intro hv13 hu13)
      have Hi13 := Lib.hid (And.intro ((ha12.ints HM11.out.db.mem Hi11.out).same c13) (hi12.same c13))
      clear hg hi12 hM12 hR12 hf12 ha12 c13 hu13 hv13 hB12 k0 k1 k2 lk hcnt12
      go_wp2_with fail
      rw [← hw13]
      clear hw13
      refine (memoExample_any _).mono ?_
      rintro e w14 ⟨rfl, c14⟩
      have HB14 := Lib.hid (HB13.out.new c14)
      have HM14 := Lib.hid (HM13.out.new c14)
      have HV14 := Lib.hid (And.intro (HV13.out.1.new c14) (HV13.out.2.new c14))
      have Hi14 := Lib.hid (And.intro (Hi13.out.1.same c14) (Hi13.out.2.same c14))
      clear c14
      have v0 : w14.cell? ⟨w10.heap.size, 0, none⟩ = some (.slice a10 1 c10) := cell_of_heap HV14.out.1.blk rfl
      have v1 : w14.cell? ⟨w10.heap.size, 1, none⟩ = some (.string ⟨#[]⟩) := cell_of_heap HV14.out.1.blk rfl
      have u0 : w14.cell? ⟨w12.heap.size, 0, none⟩ = some (.slice a12 1 c12) := cell_of_heap HV14.out.2.blk rfl
      have u1 : w14.cell? ⟨w12.heap.size, 1, none⟩ = some (.string ⟨#[]⟩) := cell_of_heap HV14.out.2.blk rfl
      go_wp2_with fail
      refine (tokCanceled _ _ 1 (cell_of_heap HB14.out.blk rfl)).mono ?_
      rintro e w' ⟨rfl, rfl⟩
      simp only [Int.reduceEq, decide_false, Bool.not_false]
      go_wp2_with fail
      refine (equalValues_any _ _ _ _ _ Hi14.out.1 Hi14.out.2).mono ?_
      rintro e w15 ⟨rfl, c15⟩
      have HM15 := Lib.hid (HM14.out.new c15)
      clear c15 v0 v1 u0 u1
      simp only [decide_true]
      go_wp2_with fail
      go_ret
      exact ⟨rfl, Hc2.out.trans HM15.out.db.chg⟩
end Go.Proofs.Ytdeodcomlakpaaa
