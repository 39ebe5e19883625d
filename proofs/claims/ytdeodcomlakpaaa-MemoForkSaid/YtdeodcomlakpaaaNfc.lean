/- MemoFork: the law's walk. -/
import Derived.Test.YtdeodcomlakpaaaNfb
import Derived.Test.YtdeodcomlakpaaaNra
namespace Go.Proofs.Ytdeodcomlakpaaa
open Go.RowKit Go.ChangeMaps Go.MapKept
set_option linter.unusedVariables false
set_option linter.unusedSimpArgs false
set_option maxRecDepth 100000 in
set_option maxHeartbeats 16000000 in
theorem forkLaw_any (p0 : Nat → Prop) (w : World) (inp : Int) (qs : List (List QO)) (ss ss2 : List I3) (q : Int) (qv sv sv2 : Value) (hq : I3ss p0 w qv qs) (hs : I3s p0 w sv ss) (hs2 : I3s p0 w sv2 ss2) (hp0 : ∀ k, p0 k → k < w.heap.size) :
    Calls Try.prog 12 #[.agg #[.int .i64 inp, qv], sv, sv2, .int .i64 q] w fun e w' => e = .returned (.bool true) ∧ Chg [] w w' := by
  obtain ⟨av, capv, rfl, hlm, hlc⟩ := hq.shape
  have Hq := Lib.hid hq
  have Hs := Lib.hid hs
  have Hs2 := Lib.hid hs2
  have Hp0 := Lib.hid hp0
  have hc0 : Chg [] w (w.alloc (.cells #[.int .i64 inp, .slice av qs.length capv] 42)) := (Chg.refl [] w).alloc _
  have Hc0 := Lib.hid hc0
  clear hq hs hs2 hp0 hc0
  unfold maxLen at hlm
  go_enter Try.func12, Try.ntmps12
  go_wp2_with fail
  refine (memoExample_any _).mono ?_
  rintro e w1 ⟨rfl, c1⟩
  have m0 : w1.cell? ⟨w.heap.size, 0, none⟩ = some (.int .i64 inp) := (c1.cell (p := ⟨w.heap.size, 0, none⟩) (by simp) (by simp)).trans (cell_of_heap (heap_at _ _ _ rfl) rfl)
  have m1 : w1.cell? ⟨w.heap.size, 1, none⟩ = some (.slice av qs.length capv) := (c1.cell (p := ⟨w.heap.size, 1, none⟩) (by simp) (by simp)).trans (cell_of_heap (heap_at _ _ _ rfl) rfl)
  have lm := lt_of_cell m0
  have Hc1 := Lib.hid (Hc0.out.trans c1)
  clear c1
  go_wp2_with fail
  refine (usable_any (fun g => g < w1.heap.size) _ inp qs _ (Hq.out.old Hp0.out Hc1.out)).mono ?_
  rintro e w2 ⟨b, rfl, hb, c2⟩
  have n0 := (c2.cell (p := ⟨w.heap.size, 0, none⟩) lm (by simp)).trans m0
  have n1 := (c2.cell (p := ⟨w.heap.size, 1, none⟩) lm (by simp)).trans m1
  have ln := lt_of_cell n0
  have Hc2 := Lib.hid (Hc1.out.trans c2)
  clear c2 m0 m1 lm
  cases b with
  | false =>
    clear hb
    go_wp2_with fail
    refine (memoExample_any _).mono ?_
    rintro e w3 ⟨rfl, c3⟩
    go_wp2
    go_ret
    exact ⟨rfl, Hc2.out.trans c3⟩
  | true =>
    obtain ⟨hok, hl0, hi0⟩ := hb.1 rfl
    clear hb
    obtain ⟨N, rfl⟩ := Int.eq_ofNat_of_zero_le hok.inp.1
    have hN := hok.inp.2
    have hL := hok.size
    simp only at hN hL
    obtain ⟨qn, hqn, hmq⟩ := modN q qs.length (by omega) (by omega)
    have Hmq := Lib.hid (fun w => (hmq w).mono fun e w' ⟨h1, h2⟩ => And.intro h1 h2.symm)
    have Hs22 := Lib.hid (I3s.imp (I3s.kept (S := fun _ => False) Hs2.out Hc2.out.p (fun _ _ h => h)) (fun g hg => Nat.lt_of_lt_of_le (Hp0.out g hg) Hc2.out.size) : I3s (fun g => g < w2.heap.size) w2 sv2 ss2)
    have Hok := Lib.hid hok
    have Hst := Lib.hid (started_any hok w2 hl0 (by omega) _ _ ss (Hq.out.old Hp0.out Hc2.out) (I3s.imp (I3s.kept (S := fun _ => False) Hs.out Hc2.out.p (fun _ _ h => h)) fun g hg => Nat.lt_of_lt_of_le (Hp0.out g hg) Hc2.out.size))
    clear hmq hok
    go_wp2_with fail
    refine Hst.out.mono ?_
    rintro e w3 ⟨b, gi, d, ins, rfl, hM, hR⟩
    have hil : ins.length = N := by have h : (ins.length : Int) = (N : Int) := hM.len; omega
    rw [hil]
    have Hil := Lib.hid hil
    have Hn := Lib.hid (And.intro ln (And.intro n0 n1))
    have r0 := (hM.db.chg.cell (p := ⟨w.heap.size, 0, none⟩) Hn.out.1 (by simp)).trans Hn.out.2.1
    have r1 := (hM.db.chg.cell (p := ⟨w.heap.size, 1, none⟩) Hn.out.1 (by simp)).trans Hn.out.2.2
    have lr := lt_of_cell r0
    have HM := Lib.hid hM
    have HR := Lib.hid hR
    clear hM hR hil n0 n1 ln Hst
    go_wp2_with fail
    refine (HM.out.fork Hok.out HR.out).mono ?_
    rintro e w4 ⟨nb, d2, rfl, hM4, hR4, hF4⟩
    have lgi := HM.out.lt
    have r0 := (hF4.chg.cell (p := ⟨w.heap.size, 0, none⟩) lr (by simp)).trans r0
    have r1 := (hF4.chg.cell (p := ⟨w.heap.size, 1, none⟩) lr (by simp)).trans r1
    have lr := lt_of_cell r0
    have hin4 := hM4.ints Hok.out
    have HM4 := Lib.hid hM4
    have HR4 := Lib.hid hR4
    have HF4 := Lib.hid hF4
    rw [Hil.out] at hin4
    clear hM4 hR4 hF4
    go_wp2_with fail
    refine (cloneInts_any _ _ _ ins (by have := Hil.out; omega) (by have := Hil.out; omega) hin4).mono ?_
    rintro e w5 ⟨v5, rfl, hrow5, c5⟩
    have r0 := (c5.cell (p := ⟨w.heap.size, 0, none⟩) lr (by simp)).trans r0
    have r1 := (c5.cell (p := ⟨w.heap.size, 1, none⟩) lr (by simp)).trans r1
    have lr := lt_of_cell r0
    have HI5 := Lib.hid (intsP_of_row hrow5)
    have HM5 := Lib.hid (HM4.out.new c5)
    have Hc5 := Lib.hid c5
    have Hrun := Lib.hid (script_any Hok.out HM5.out HR.out (by omega) hl0 (by omega) av capv sv2 ss2 Hs22.out)
    clear hin4 hrow5 c5
    go_wp2_with fail
    refine Hrun.out.mono ?_
    rintro e w6 ⟨rfl, d6, ins6, hM6, hR6, hF6⟩
    have hdb6 := HF4.out.past w5 w6 Hc5.out hF6.chg hM6.db.chg
    have hi6 : IntsP (fun g => w4.heap.size ≤ g ∧ g < w5.heap.size) w6 v5 ins := HI5.out.kept hF6.chg fun g hg hm => by
      have hz := HF4.out.chg.size
      rcases hm with hm | rfl
      · have := HM.out.db.mem.lt g hm; omega
      · omega
    have hil6 : ins6.length = N := by have h : (ins6.length : Int) = (N : Int) := hM6.len; omega
    have r0 := (hM6.db.chg.cell (p := ⟨w.heap.size, 0, none⟩) Hn.out.1 (by simp)).trans Hn.out.2.1
    have r1 := (hM6.db.chg.cell (p := ⟨w.heap.size, 1, none⟩) Hn.out.1 (by simp)).trans Hn.out.2.2
    have lr := lt_of_cell r0
    -- the fork's blocks are none of the original's
    have hap : ∀ g, g ∈ d2.muts nb → g ∉ d6.muts b ∧ g ∉ d6.imms ∧ gi < g := fun g hg => by
      have h1 := HF4.out.new g hg
      have h2 := HF4.out.db.mem.lt g hg
      have h3 := Hc5.out.size
      refine ⟨fun hm => ?_, fun hm => ?_, by omega⟩
      · rcases hF6.muts g hm with hm | hm
        · have := HM.out.db.mem.lt g hm; omega
        · omega
      · rcases hF6.imms g hm with hm | hm
        · have := HM.out.db.mem.bound g hm; omega
        · omega
    have HM6 := Lib.hid hM6
    have Hz56 := Lib.hid hF6.chg.size
    have HR6 := Lib.hid hR6
    have Hdb6 := Lib.hid hdb6
    have Hi6 := Lib.hid hi6
    have Hil6 := Lib.hid hil6
    have Hap := Lib.hid hap
    have Hap2 := Lib.hid (fun g (hg : g ∈ d6.muts b) => (show g < w4.heap.size ∨ w5.heap.size ≤ g from (hF6.muts g hg).imp (fun hm => by have := HM.out.db.mem.lt g hm; have := HF4.out.chg.size; omega) id))
    clear hM6 hR6 hF6 hdb6 hi6 hil6 hap lgi Hrun
    go_wp2_with fail
    refine (Hmq.out _).mono ?_
    rintro e w' ⟨rfl, rfl⟩
    clear Hmq
    go_wp2_with fail
    refine (queryKey_any _ _).mono ?_
    rintro e w7 ⟨rfl, c7⟩
    have HM7 := Lib.hid (HM6.out.new c7)
    have Hz57 := Lib.hid (Nat.le_trans Hz56.out c7.size)
    have Hdb7 := Lib.hid (Hdb6.out.new c7)
    have Hi7 := Lib.hid ((Hi6.out.kept (c7.p (S := fun _ => False)) (fun _ _ h => h)))
    clear c7 r0 r1 lr
    go_wp2_with fail
    refine (Hdb7.out.get Hok.out qn hqn).mono ?_
    rintro e w8 ⟨d8, hd8, hpl8, ha8, hm8⟩
    obtain ⟨s8, r8, h1, h2, h3, h4⟩ := HR4.out.got Hok.out (by omega) hqn
    rw [h1] at hm8
    simp only [h2, h3.xs] at hm8
    obtain ⟨a8, c8, rfl, hi8⟩ := hm8
    have hM8 := HM7.out.past ha8.chg Hap.out
    have hio8 : IntsP (fun g => w4.heap.size ≤ g ∧ g < w5.heap.size) w8 v5 ins := Hi7.out.kept ha8.chg fun g hg hm => by
      have := HF4.out.db.mem.lt g hm; omega
    obtain ⟨w9, hw9⟩ : ∃ x, x = w8.alloc (.cells #[.slice a8 1 c8, .string ⟨#[]⟩] 31) := ⟨_, rfl⟩
    have c9 : Chg [] w8 w9 := by rw [hw9]; exact (Chg.refl [] w8).alloc _
    have HV9 := Lib.hid (show Box b w9 d6 w8.heap.size (.cells #[.slice a8 1 c8, .string ⟨#[]⟩] 31 (0, 0)) by rw [hw9]; exact Box.make hM8.db.mem _ _)
    have HM9 := Lib.hid (hM8.new c9)
    have Hz59 := Lib.hid (Nat.le_trans Hz57.out (Nat.le_trans ha8.chg.size c9.size))
    have Hi9 := Lib.hid ((show Inp.Ints w8 (.slice a8 1 c8) [val ⟨(N : Int), qs⟩ ins qn] from hi8).same c9)
    have Hio9 := Lib.hid (hio8.kept (c9.p (S := fun _ => False)) (fun _ _ h => h))
    clear hd8 hpl8 ha8 h1 h2 h3 h4 hi8 hM8 hio8 c9
    go_wp2_with fail
    rw [← hw9]
    clear hw9
    refine (queryKey_any _ _).mono ?_
    rintro e w10 ⟨rfl, c10⟩
    have HM10 := Lib.hid (HM9.out.new c10)
    have Hz58 := Lib.hid (Nat.le_trans Hz59.out c10.size)
    have HV10 := Lib.hid (HV9.out.new c10)
    have Hi10 := Lib.hid (Hi9.out.same c10)
    have Hio10 := Lib.hid (Hio9.out.kept (c10.p (S := fun _ => False)) (fun _ _ h => h))
    clear c10
    go_wp2_with fail
    refine (HM10.out.get Hok.out HR6.out (by omega) hqn).mono ?_
    rintro e w11 ⟨d11, a11, c11, r11, rfl, hi11, hM11, hR11, hf11, ha11⟩
    have hio11 : IntsP (fun g => w4.heap.size ≤ g ∧ g < w5.heap.size) w11 v5 ins := Hio10.out.kept ha11.chg fun g hg hm => by
      have := Hap2.out g hm; omega
    obtain ⟨w12, hw12⟩ : ∃ x, x = w11.alloc (.cells #[.slice a11 1 c11, .string ⟨#[]⟩] 31) := ⟨_, rfl⟩
    have c12 : Chg [] w11 w12 := by rw [hw12]; exact (Chg.refl [] w11).alloc _
    have hv12 := (HV10.out.after ha11).new c12
    have hu12 : w12.heap[w11.heap.size]? = some (.cells #[.slice a11 1 c11, .string ⟨#[]⟩] 31 (0, 0)) := by rw [hw12]; exact heap_at _ _ _ rfl
    have v0 : w12.cell? ⟨w8.heap.size, 0, none⟩ = some (.slice a8 1 c8) := cell_of_heap hv12.blk rfl
    have v1 : w12.cell? ⟨w8.heap.size, 1, none⟩ = some (.string ⟨#[]⟩) := cell_of_heap hv12.blk rfl
    have u0 : w12.cell? ⟨w11.heap.size, 0, none⟩ = some (.slice a11 1 c11) := cell_of_heap hu12 rfl
    have u1 : w12.cell? ⟨w11.heap.size, 1, none⟩ = some (.string ⟨#[]⟩) := cell_of_heap hu12 rfl
    have lv := lt_of_cell v0
    have lu := lt_of_cell u0
    have HM12 := Lib.hid (hM11.new c12)
    have Hlast := Lib.hid (show w5.heap.size ≤ w12.heap.size from Nat.le_trans Hz58.out (Nat.le_trans ha11.chg.size c12.size))
    have Hi12 := Lib.hid (And.intro ((ha11.ints HM10.out.db.mem Hi10.out).same c12) (hi11.same c12))
    have Hio12 := Lib.hid (hio11.kept (c12.p (S := fun _ => False)) (fun _ _ h => h))
    have r0 := (hM11.db.chg.cell (p := ⟨w.heap.size, 0, none⟩) Hn.out.1 (by simp)).trans Hn.out.2.1
    have r1 := (hM11.db.chg.cell (p := ⟨w.heap.size, 1, none⟩) Hn.out.1 (by simp)).trans Hn.out.2.2
    have lr := lt_of_cell r0
    clear hi11 hM11 hR11 hf11 ha11 hio11 c12 hv12 hu12
    go_wp2_with fail
    rw [← hw12]
    clear hw12 r0 r1 lr
    have r0 := (HM12.out.db.chg.cell (p := ⟨w.heap.size, 0, none⟩) Hn.out.1 (by simp)).trans Hn.out.2.1
    have r1 := (HM12.out.db.chg.cell (p := ⟨w.heap.size, 1, none⟩) Hn.out.1 (by simp)).trans Hn.out.2.2
    have lr := lt_of_cell r0
    have hqs12 := Hq.out.old Hp0.out (Hc2.out.trans HM12.out.db.chg)
    refine (eval_any (fun g => g < w12.heap.size) _ ⟨N, qs⟩ ins qn _ _ hqs12 (Hio12.out.imp fun g hg => by have h3 := Hlast.out; omega) (fun k hk => hk)).mono ?_
    rintro e w13 ⟨h13 | h13, c13⟩
    · obtain ⟨_, rfl⟩ := h13
      have v0 := (c13.cell (p := ⟨w8.heap.size, 0, none⟩) lv (by simp)).trans v0
      have v1 := (c13.cell (p := ⟨w8.heap.size, 1, none⟩) lv (by simp)).trans v1
      have u0 := (c13.cell (p := ⟨w11.heap.size, 0, none⟩) lu (by simp)).trans u0
      have u1 := (c13.cell (p := ⟨w11.heap.size, 1, none⟩) lu (by simp)).trans u1
      have r0 := (c13.cell (p := ⟨w.heap.size, 0, none⟩) lr (by simp)).trans r0
      have r1 := (c13.cell (p := ⟨w.heap.size, 1, none⟩) lr (by simp)).trans r1
      have lv := lt_of_cell v0
      have lu := lt_of_cell u0
      have lr := lt_of_cell r0
      have HM13 := Lib.hid (HM12.out.new c13)
      have Hi13 := Lib.hid (And.intro (Hi12.out.1.same c13) (Hi12.out.2.same c13))
      obtain ⟨va, hva⟩ : ∃ va, val ⟨N, qs⟩ ins ((qn : Int)).toNat = va := ⟨_, rfl⟩
      rw [hva]
      have Hva := Lib.hid hva
      clear hqs12 c13 hva
      go_wp2_with fail
      have hqs13 := Hq.out.old Hp0.out (Hc2.out.trans HM13.out.db.chg)
      have hin13 := HM13.out.ints Hok.out
      rw [Hil6.out] at hin13
      refine (eval_any (fun g => g < w13.heap.size) _ ⟨N, qs⟩ ins6 qn _ _ hqs13 hin13 (fun k hk => hk)).mono ?_
      rintro e w14 ⟨h14 | h14, c14⟩
      · obtain ⟨_, rfl⟩ := h14
        have x0 := (c14.cell (p := ⟨w8.heap.size, 0, none⟩) lv (by simp)).trans v0
        have x1 := (c14.cell (p := ⟨w8.heap.size, 1, none⟩) lv (by simp)).trans v1
        have y0 := (c14.cell (p := ⟨w11.heap.size, 0, none⟩) lu (by simp)).trans u0
        have y1 := (c14.cell (p := ⟨w11.heap.size, 1, none⟩) lu (by simp)).trans u1
        have lx := lt_of_cell x0
        have ly := lt_of_cell y0
        have HM14 := Lib.hid (HM13.out.new c14)
        have Hi14 := Lib.hid (And.intro (Hi13.out.1.same c14) (Hi13.out.2.same c14))
        obtain ⟨vb, hvb⟩ : ∃ vb, val ⟨N, qs⟩ ins6 ((qn : Int)).toNat = vb := ⟨_, rfl⟩
        rw [hvb]
        have Hvb := Lib.hid hvb
        have K5 := Lib.hid (fun (wz : World) (hz : Chg [] w14 wz) => (And.intro (And.intro ((hz.cell (p := ⟨w8.heap.size, 0, none⟩) lx (by simp)).trans x0) ((hz.cell (p := ⟨w8.heap.size, 1, none⟩) lx (by simp)).trans x1)) (And.intro ((hz.cell (p := ⟨w11.heap.size, 0, none⟩) ly (by simp)).trans y0) ((hz.cell (p := ⟨w11.heap.size, 1, none⟩) ly (by simp)).trans y1))))
        clear hqs13 hin13 c14 hvb v0 v1 u0 u1 r0 r1 lv lu lr
        go_wp2_with fail
        go_region_held3 (fun w' => (w'.cell? ⟨w8.heap.size, 0, none⟩ = some (.slice a8 1 c8) ∧ w'.cell? ⟨w8.heap.size, 1, none⟩ = some (.string ⟨#[]⟩)) ∧ w'.cell? ⟨w11.heap.size, 0, none⟩ = some (.slice a11 1 c11) ∧ w'.cell? ⟨w11.heap.size, 1, none⟩ = some (.string ⟨#[]⟩))
          (first | (go_keep; done) | (exact K5.out _ (by assumption)))
          (first
            | (go_at_call 14; refine (memoExample_any _).mono ?_; rintro e w15 ⟨rfl, c15⟩; have H8 := ((Chg.refl [] w14).drew).trans c15; have HH8 := Lib.hid H8; clear c15)
            | (go_at_call 18; (with_reducible refine (number_any va _).mono ?_); rintro e w16 ⟨a16, c16, rfl, hi16, cc16⟩; have H9 := HH8.out.trans cc16; have HH9 := Lib.hid H9; have Hi16 := Lib.hid hi16; clear cc16 hi16 H8)
            | (go_at_call 18; (with_reducible refine (number_any vb _).mono ?_); rintro e w18 ⟨a18, c18, rfl, hi18, cc18⟩; have H11 := HH10.out.trans cc18; have HH11 := Lib.hid H11; have Hi18 := Lib.hid hi18; clear cc18 hi18 H10)
            | (go_at_call 20; (with_reducible refine (equalValues_any _ (.slice a8 1 c8) (.slice a16 1 c16) _ _ (Hi14.out.1.same HH9.out) Hi16.out).mono ?_); rintro e w17 ⟨rfl, c17⟩; have H10 := HH9.out.trans c17; have HH10 := Lib.hid H10; have hvv : val ⟨N, qs⟩ ins qn = va := Hva.out; rw [hvv]; simp only [decide_true]; clear c17 hvv H9)
            | (go_at_call 20; (with_reducible refine (equalValues_any _ (.slice a11 1 c11) (.slice a18 1 c18) _ _ (Hi14.out.2.same HH11.out) Hi18.out).mono ?_); rintro e w19 ⟨rfl, c19⟩; have H12 := HH11.out.trans c19; have HH12 := Lib.hid H12; have hvv : val ⟨N, qs⟩ ins6 qn = vb := Hvb.out; rw [hvv]; simp only [decide_true]; clear c19 hvv H11))
        all_goals
          go_wp2_with fail
          go_ret
          exact ⟨rfl, (Hc2.out.trans HM14.out.db.chg).trans HH12.out⟩
      · exact absurd ⟨Hok.out, by rw [Hil6.out], by omega, by simp only; omega⟩ h14.1
    · exact absurd ⟨Hok.out, by rw [Hil.out], by omega, by simp only; omega⟩ h13.1
end Go.Proofs.Ytdeodcomlakpaaa
