/- EvictRetainReadsNothing: the law's walk. -/
import Derived.Test.YtdeodcomlakpaaaGn
import Derived.Test.YtdeodcomlakpaaaNy
namespace Go.Proofs.Ytdeodcomlakpaaa
open Go.RowKit Go.ChangeMaps Go.MapKept
set_option linter.unusedVariables false
set_option linter.unusedSimpArgs false
theorem forgetAll_same (ks : List QK) : ∀ s : PS, (forgetAll s ks).rev = s.rev ∧ (forgetAll s ks).cnt = s.cnt ∧ (forgetAll s ks).act = s.act := by
  induction ks with
  | nil => intro s; exact ⟨rfl, rfl, rfl⟩
  | cons k r ih => intro s; exact ih (forgetP s k)
theorem Fresh.forgetAll {p : Prg} {s : PS} {ins : List Int} {q : Nat} {r : RV} (h : Fresh p s ins q r) {zs : List QK} (hn : (1, (q : Int), 0) ∉ zs) : Fresh p (forgetAll s zs) ins q r :=
  ⟨by rw [forgetAll_es, if_neg hn]; exact h.get, h.ver.trans (forgetAll_same zs s).1.symm, h.xs, h.deps⟩
set_option maxRecDepth 100000 in
set_option maxHeartbeats 16000000 in
theorem retainLaw_any (p0 : Nat → Prop) (w : World) (inp : Int) (qs : List (List QO)) (ss : List I3) (q : Int) (qv sv : Value) (hq : I3ss p0 w qv qs) (hs : I3s p0 w sv ss) (hp0 : ∀ k, p0 k → k < w.heap.size) :
    Calls Try.prog 9 #[.agg #[.int .i64 inp, qv], sv, .int .i64 q] w fun e w' => e = .returned (.bool true) ∧ Chg [] w w' := by
  obtain ⟨av, capv, rfl, hlm, hlc⟩ := hq.shape
  have Hq := Lib.hid hq
  have Hs := Lib.hid hs
  have Hp0 := Lib.hid hp0
  have hc0 : Chg [] w (w.alloc (.cells #[.int .i64 inp, .slice av qs.length capv] 42)) := (Chg.refl [] w).alloc _
  have Hc0 := Lib.hid hc0
  clear hq hs hp0 hc0
  unfold maxLen at hlm
  go_enter Try.func9, Try.ntmps9
  go_wp2_with fail
  refine (memoExample_any _).mono ?_
  rintro e w1 ⟨rfl, c1⟩
  have m0 : w1.cell? ⟨w.heap.size, 0, none⟩ = some (.int .i64 inp) := (c1.cell (p := ⟨w.heap.size, 0, none⟩) (by simp) (by simp)).trans (cell_of_heap (heap_at _ _ _ rfl) rfl)
  have m1 : w1.cell? ⟨w.heap.size, 1, none⟩ = some (.slice av qs.length capv) := (c1.cell (p := ⟨w.heap.size, 1, none⟩) (by simp) (by simp)).trans (cell_of_heap (heap_at _ _ _ rfl) rfl)
  have lm := lt_of_cell m0
  have Hc1 := Lib.hid (Hc0.out.trans c1)
  clear c1
  go_wp2_with fail
  refine (usable_any (fun g => g < w1.heap.size) _ inp qs _ (Hq.out.old Hp0.out Hc1.out)).mono ?_
  rintro e w2 ⟨b, rfl, hb, c2⟩
  have n0 := (c2.cell (p := ⟨w.heap.size, 0, none⟩) lm (by simp)).trans m0
  have n1 := (c2.cell (p := ⟨w.heap.size, 1, none⟩) lm (by simp)).trans m1
  have ln := lt_of_cell n0
  have Hc2 := Lib.hid (Hc1.out.trans c2)
  clear c2 m0 m1 lm
  cases b with
  | false =>
    clear hb
    go_wp2_with fail
    refine (memoExample_any _).mono ?_
    rintro e w3 ⟨rfl, c3⟩
    go_wp2
    go_ret
    exact ⟨rfl, Hc2.out.trans c3⟩
  | true =>
    obtain ⟨hok, hl0, hi0⟩ := hb.1 rfl
    clear hb
    obtain ⟨N, rfl⟩ := Int.eq_ofNat_of_zero_le hok.inp.1
    have hN := hok.inp.2
    have hL := hok.size
    simp only at hN hL
    obtain ⟨qn, hqn, hmq⟩ := modN q qs.length (by omega) (by omega)
    have Hmq := Lib.hid hmq
    have Hok := Lib.hid hok
    have Hst := Lib.hid (started_any hok w2 hl0 (by omega) _ _ ss (Hq.out.old Hp0.out Hc2.out) (I3s.imp (I3s.kept (S := fun _ => False) Hs.out Hc2.out.p (fun _ _ h => h)) fun g hg => Nat.lt_of_lt_of_le (Hp0.out g hg) Hc2.out.size))
    clear hmq hok
    go_wp2_with fail
    refine Hst.out.mono ?_
    rintro e w3 ⟨b, gi, d, ins, rfl, hM, hR⟩
    have hil : ins.length = N := by have h : (ins.length : Int) = (N : Int) := hM.len; omega
    rw [hil]
    have Hil := Lib.hid hil
    have Hn := Lib.hid (And.intro ln (And.intro n0 n1))
    have r0 := (hM.db.chg.cell (p := ⟨w.heap.size, 0, none⟩) Hn.out.1 (by simp)).trans Hn.out.2.1
    have r1 := (hM.db.chg.cell (p := ⟨w.heap.size, 1, none⟩) Hn.out.1 (by simp)).trans Hn.out.2.2
    have lr := lt_of_cell r0
    have HM := Lib.hid hM
    have HR := Lib.hid hR
    clear hM hR hil n0 n1 ln Hst
    go_wp2_with fail
    refine (Hmq.out _).mono ?_
    rintro e w' ⟨rfl, rfl⟩
    clear Hmq
    go_wp2_with fail
    refine (queryKey_any _ _).mono ?_
    rintro e w4 ⟨rfl, c4⟩
    unfold i3v
    obtain ⟨w5, hw5⟩ : ∃ x, x = w4.alloc (.cells #[.int .i64 1, .int .i64 (qn : Int), .int .i64 0] 27) := ⟨_, rfl⟩
    have c5 : Chg [] w4 w5 := by rw [hw5]; exact (Chg.refl [] w4).alloc _
    have hM4 := HM.out.new c4
    have hk5 : Box b w5 d w4.heap.size (.cells #[.int .i64 1, .int .i64 (qn : Int), .int .i64 0] 27 (0, 0)) := by rw [hw5]; exact Box.make hM4.db.mem _ _
    have HM5 := Lib.hid (hM4.new c5)
    have HK5 := Lib.hid hk5
    have k0 : w5.cell? ⟨w4.heap.size, 0, none⟩ = some (.int .i64 1) := cell_of_heap hk5.blk rfl
    have k1 : w5.cell? ⟨w4.heap.size, 1, none⟩ = some (.int .i64 (qn : Int)) := cell_of_heap hk5.blk rfl
    have k2 : w5.cell? ⟨w4.heap.size, 2, none⟩ = some (.int .i64 0) := cell_of_heap hk5.blk rfl
    have lk := lt_of_cell k0
    clear c4 c5 hM4 hk5 r0 r1 lr
    go_wp2_with fail
    rw [← hw5]
    clear hw5
    refine (HM5.out.get Hok.out HR.out (by omega) hqn).mono ?_
    rintro e w6 ⟨d6, a6, c6, r6, rfl, hi6, hM6, hR6, hf6, ha6⟩
    have hk6 := HK5.out.after ha6
    have k0 : w6.cell? ⟨w4.heap.size, 0, none⟩ = some (.int .i64 1) := cell_of_heap hk6.blk rfl
    have k1 : w6.cell? ⟨w4.heap.size, 1, none⟩ = some (.int .i64 (qn : Int)) := cell_of_heap hk6.blk rfl
    have k2 : w6.cell? ⟨w4.heap.size, 2, none⟩ = some (.int .i64 0) := cell_of_heap hk6.blk rfl
    have lk := lt_of_cell k0
    obtain ⟨w7, hw7⟩ : ∃ x, x = (w6.alloc (.cells #[.slice a6 1 c6, .string ⟨#[]⟩] 31)).alloc (.cells #[.int .i64 1, .int .i64 (qn : Int), .int .i64 0] 27) := ⟨_, rfl⟩
    have c6a : Chg [] w6 (w6.alloc (.cells #[.slice a6 1 c6, .string ⟨#[]⟩] 31)) := (Chg.refl [] w6).alloc _
    have c7a : Chg [] (w6.alloc (.cells #[.slice a6 1 c6, .string ⟨#[]⟩] 31)) w7 := by rw [hw7]; exact (Chg.refl [] _).alloc _
    have hv7 : Box b w7 d6 w6.heap.size (.cells #[.slice a6 1 c6, .string ⟨#[]⟩] 31 (0, 0)) := (Box.make hM6.db.mem _ _).new c7a
    have hr7 : w7.heap[w6.heap.size + 1]? = some (.cells #[.int .i64 1, .int .i64 (qn : Int), .int .i64 0] 27 (0, 0)) := by rw [hw7]; exact heap_at _ _ _ (by simp)
    have hk7 : I3s (fun _ => True) w7 (.slice (some ⟨w6.heap.size + 1, 0, none⟩) 1 1) [(1, (qn : Int), 0)] := by
      refine ⟨_, _, rfl, by simp, by unfold maxLen; omega, fun _ => ⟨_, _, rfl, trivial, fun j hj => ?_⟩⟩
      obtain rfl : j = 0 := by simpa using hj
      exact ⟨cell_of_heap (i := 0) hr7 rfl, cell_of_heap (i := 1) hr7 rfl, cell_of_heap (i := 2) hr7 rfl⟩
    have HM7 := Lib.hid (hM6.new (c6a.trans c7a))
    have HR7 := Lib.hid hR6
    have HF7 := Lib.hid hf6
    have HV7 := Lib.hid hv7
    have HK7 := Lib.hid (hk6.new (c6a.trans c7a))
    have HX7 := Lib.hid hk7
    have Hi7 := Lib.hid (hi6.same (c6a.trans c7a))
    clear hi6 hM6 hR6 hf6 ha6 c6a c7a hv7 hk7 hk6 hr7
    go_wp2_with fail
    rw [← hw7]
    clear hw7 k0 k1 k2 lk
    refine (retain_any Hok.out HM7.out.db (HR7.out.useB (by omega)) _ _ (1, (qn : Int), 0) HX7.out (Or.inr ⟨rfl, by simp, by simp only; omega, rfl⟩)).mono ?_
    rintro e w8 ⟨zs, d8, n8, hz8, rfl, hd8, ha8, hp8⟩
    have hM8 := HM7.out.after hd8 ha8
    have hR8 := HR7.out.forgetAll zs
    have hF8 := HF7.out.forgetAll hz8
    rw [← hp8] at hR8 hF8
    have hk8 := HK7.out.after ha8
    have k0 : w8.cell? ⟨w4.heap.size, 0, none⟩ = some (.int .i64 1) := cell_of_heap hk8.blk rfl
    have k1 : w8.cell? ⟨w4.heap.size, 1, none⟩ = some (.int .i64 (qn : Int)) := cell_of_heap hk8.blk rfl
    have k2 : w8.cell? ⟨w4.heap.size, 2, none⟩ = some (.int .i64 0) := cell_of_heap hk8.blk rfl
    have lk := lt_of_cell k0
    have HV8 := Lib.hid (HV7.out.after ha8)
    have Hi8 := Lib.hid (ha8.ints HM7.out.db.mem Hi7.out)
    have HM8 := Lib.hid hM8
    have HR8 := Lib.hid hR8
    have HF8 := Lib.hid hF8
    clear hd8 ha8 hp8 hz8 hM8 hR8 hF8 hk8
    go_wp2_with fail
    refine (computations_any _ b d8 HM8.out.db.mem).mono ?_
    rintro e w' ⟨rfl, rfl⟩
    go_wp2_with fail
    refine (HM8.out.db.get Hok.out qn hqn).mono ?_
    intro e w10 hg
    obtain ⟨d10, a10, c10, r10, rfl, hi10, hM10, hR10, hf10, ha10, hcnt10⟩ := AgainPost.mk Hok.out HM8.out HR8.out (by omega) hqn HF8.out hg
    obtain ⟨w9, hw9⟩ : ∃ x, x = w10.alloc (.cells #[.slice a10 1 c10, .string ⟨#[]⟩] 31) := ⟨_, rfl⟩
    have c9 : Chg [] w10 w9 := by rw [hw9]; exact (Chg.refl [] w10).alloc _
    have hv9 : w9.heap[w10.heap.size]? = some (.cells #[.slice a10 1 c10, .string ⟨#[]⟩] 31 (0, 0)) := by rw [hw9]; exact heap_at _ _ _ rfl
    have hv9' := (HV8.out.after ha10).new c9
    have v0 : w9.cell? ⟨w6.heap.size, 0, none⟩ = some (.slice a6 1 c6) := cell_of_heap hv9'.blk rfl
    have v1 : w9.cell? ⟨w6.heap.size, 1, none⟩ = some (.string ⟨#[]⟩) := cell_of_heap hv9'.blk rfl
    have u0 : w9.cell? ⟨w10.heap.size, 0, none⟩ = some (.slice a10 1 c10) := cell_of_heap hv9 rfl
    have u1 : w9.cell? ⟨w10.heap.size, 1, none⟩ = some (.string ⟨#[]⟩) := cell_of_heap hv9 rfl
    have lv := lt_of_cell v0
    have lu := lt_of_cell u0
    have HM9 := Lib.hid (hM10.new c9)
    have Hi9 := Lib.hid (And.intro ((ha10.ints HM8.out.db.mem Hi8.out).same c9) (hi10.same c9))
    have Hcnt := Lib.hid hcnt10
    clear hg hi10 hM10 hR10 hf10 ha10 c9 hv9 hv9' k0 k1 k2 lk hcnt10
    go_wp2_with fail
    rw [← hw9]
    clear hw9
    refine (memoExample_any _).mono ?_
    rintro e w11 ⟨rfl, c11⟩
    have v0 := (c11.cell (p := ⟨w6.heap.size, 0, none⟩) lv (by simp)).trans v0
    have v1 := (c11.cell (p := ⟨w6.heap.size, 1, none⟩) lv (by simp)).trans v1
    have u0 := (c11.cell (p := ⟨w10.heap.size, 0, none⟩) lu (by simp)).trans u0
    have u1 := (c11.cell (p := ⟨w10.heap.size, 1, none⟩) lu (by simp)).trans u1
    have lv := lt_of_cell v0
    have lu := lt_of_cell u0
    have HM11 := Lib.hid (HM9.out.new c11)
    have Hi11 := Lib.hid (And.intro (Hi9.out.1.same c11) (Hi9.out.2.same c11))
    clear c11
    go_wp2_with fail
    refine (computations_any _ b d10 HM11.out.db.mem).mono ?_
    rintro e w' ⟨rfl, rfl⟩
    rw [Hcnt.out]
    go_wp2_with fail
    refine (equalValues_any _ _ _ _ _ Hi11.out.1 Hi11.out.2).mono ?_
    rintro e w12 ⟨rfl, c12⟩
    have HM12 := Lib.hid (HM11.out.new c12)
    clear c12 v0 v1 u0 u1 lv lu
    simp only [decide_true]
    go_wp2_with fail
    go_ret
    exact ⟨rfl, Hc2.out.trans HM12.out.db.chg⟩
end Go.Proofs.Ytdeodcomlakpaaa
