/- QuerylangUnreadInput: the law's walk. -/
import Derived.Test.YtipipklgjcjnoaaQryP
import Derived.Test.YtipipklgjcjnoaaQryK
namespace Go.Proofs.Ytipipklgjcjnoaa
open Go.RowKit Go.ChangeMaps Go.MapKept
set_option linter.unusedVariables false
/-- a row of the call's own, and a number stored into it -/
theorem ints_set {w : World} {base : Nat} {v : Value} {xs : List Int} (h : w.ownsRow base 3 1 v xs.length (xs.map (Value.int .i64))) {j : Nat} (hj : j < xs.length) :
    ∃ g cap, v = .slice (some ⟨g, 0, none⟩) xs.length cap ∧ base ≤ g ∧ w.cell? ⟨g, j, none⟩ = some (.int .i64 (xs.getD j 0)) ∧ w.frozen? ⟨g, j, none⟩ = false ∧ ∀ y, IntsP (fun k => k < (w.setCell ⟨g, j, none⟩ (.int .i64 y)).heap.size) (w.setCell ⟨g, j, none⟩ (.int .i64 y)) v (xs.set j y) := by
  have h' := h
  rcases h.2 with ⟨_, h0⟩ | ⟨g, cap, cur, rfl, h1, h2, h3, h4, h5, h6⟩
  · omega
  · have hcell : ∀ i (hi : i < xs.length), cur[i]? = some (.int .i64 xs[i]) := by
      intro i hi
      have e := congrArg (fun l => l[i]?) h6
      simp only [Nat.mul_one, List.getElem?_take, if_pos hi, List.getElem?_map, List.getElem?_eq_getElem hi, Option.map_some] at e
      rw [← e, Array.getElem?_toList]
    refine ⟨g, cap, rfl, h1, cell_of_heap h2 (by rw [hcell j hj, List.getD_eq_getElem?_getD, List.getElem?_eq_getElem hj]; rfl), frozen_of_heap h2, fun y => ?_⟩
    have hs := heap_setCell_same h2 (i := j) (.int .i64 y)
    refine ⟨_, cap, by rw [List.length_set], by rw [List.length_set]; exact h3, h4, fun _ => ⟨g, 0, rfl, by have := lt_of_obj h2; simpa using this, fun i hi => ?_⟩⟩
    rw [List.length_set] at hi
    show World.cell? _ ⟨g, 0 + i * 1, none⟩ = _
    rw [Nat.zero_add, Nat.mul_one]
    refine cell_of_heap hs ?_
    rw [Array.getElem?_setIfInBounds]
    by_cases e : j = i
    · subst e
      have hc : j < cur.size := by rw [h5]; omega
      simp [hc]
    · rw [if_neg e, hcell i hi]
      simp [e]
theorem IntsP.old {w w' : World} {v : Value} {xs : List Int} (h : IntsP (fun g => g < w.heap.size) w v xs) (hc : Chg [] w w') : IntsP (fun g => g < w'.heap.size) w' v xs :=
  (h.kept (hc.p (S := fun _ => False)) (fun _ _ h => h)).imp fun g hg => Nat.lt_of_lt_of_le hg hc.size
set_option maxRecDepth 100000 in
set_option maxHeartbeats 8000000 in
theorem unreadLaw_any (p0 : Nat → Prop) (w : World) (inp : Int) (qs : List (List QO)) (ins : List Int) (q i nv : Int) (qv iv : Value) (hq : I3ss p0 w qv qs) (hi : IntsP p0 w iv ins) (hp0 : ∀ k, p0 k → k < w.heap.size) :
    Calls Try.prog 5 #[.agg #[.int .i64 inp, qv], iv, .int .i64 q, .int .i64 i, .int .i64 nv] w fun e w' => e = .returned (.bool true) ∧ Chg [] w w' := by
  obtain ⟨av, capv, rfl, hlm, hlc⟩ := hq.shape
  have Hq := Lib.hid hq
  have Hi := Lib.hid hi
  have Hp0 := Lib.hid hp0
  have hc0 : Chg [] w (w.alloc (.cells #[.int .i64 inp, .slice av qs.length capv] 24)) := (Chg.refl [] w).alloc _
  have Hc0 := Lib.hid hc0
  clear hq hi hp0 hc0
  unfold maxLen at hlm
  go_enter Try.func5, Try.ntmps5
  go_wp2_with fail
  refine (queryExample_any _).mono ?_
  rintro e w1 ⟨rfl, c1⟩
  have m0 : w1.cell? ⟨w.heap.size, 0, none⟩ = some (.int .i64 inp) := (c1.cell (p := ⟨w.heap.size, 0, none⟩) (by simp) (by simp)).trans (cell_of_heap (heap_at _ _ _ rfl) rfl)
  have m1 : w1.cell? ⟨w.heap.size, 1, none⟩ = some (.slice av qs.length capv) := (c1.cell (p := ⟨w.heap.size, 1, none⟩) (by simp) (by simp)).trans (cell_of_heap (heap_at _ _ _ rfl) rfl)
  have lm := lt_of_cell m0
  have Hc1 := Lib.hid (Hc0.out.trans c1)
  clear c1
  go_wp2_with fail
  refine (usable_any (fun g => g < w1.heap.size) _ inp qs _ (Hq.out.old Hp0.out Hc1.out)).mono ?_
  rintro e w2 ⟨b, rfl, hb, c2⟩
  have n0 := (c2.cell (p := ⟨w.heap.size, 0, none⟩) lm (by simp)).trans m0
  have n1 := (c2.cell (p := ⟨w.heap.size, 1, none⟩) lm (by simp)).trans m1
  have ln := lt_of_cell n0
  have Hc2 := Lib.hid (Hc1.out.trans c2)
  clear c2 m0 m1 lm
  cases b with
  | false =>
    clear hb
    go_wp2_with fail
    refine (queryExample_any _).mono ?_
    rintro e w3 ⟨rfl, c3⟩
    go_wp2
    go_ret
    exact ⟨rfl, Hc2.out.trans c3⟩
  | true =>
    obtain ⟨hok, hl0, hi0⟩ := hb.1 rfl
    clear hb
    obtain ⟨N, rfl⟩ := Int.eq_ofNat_of_zero_le hok.inp.1
    have hN := hok.inp.2
    have hL := hok.size
    simp only at hN hL
    obtain ⟨qn, hqn, hmq⟩ := modN q qs.length (by omega) (by omega)
    obtain ⟨jn, hjn, hmi⟩ := modN i N (by omega) (by omega)
    have Hmq := Lib.hid hmq
    have Hmi := Lib.hid hmi
    have Hok := Lib.hid hok
    clear hmq hmi hok
    go_wp2_with fail
    go_region_held3 (fun w' => w'.cell? ⟨w.heap.size, 0, none⟩ = some (.int .i64 (N : Int)) ∧ w'.cell? ⟨w.heap.size, 1, none⟩ = some (.slice av qs.length capv))
      (first | (go_keep; done) | (exact kS3))
      (first
        | (go_at_call 8; refine (fit_any p0 _ _ ins N (by omega) (IntsP.kept Hi.out ((Hc2.out.drew).p (S := fun _ => False)) (fun _ _ h => h))).mono ?_; rintro e w3 ⟨gf, rfl, hgf, hrf, cf⟩; have kS3 : w3.cell? ⟨w.heap.size, 0, none⟩ = some (.int .i64 (N : Int)) ∧ w3.cell? ⟨w.heap.size, 1, none⟩ = some (.slice av qs.length capv) := ⟨(cf.cell (p := ⟨w.heap.size, 0, none⟩) ln (by simp)).trans n0, (cf.cell (p := ⟨w.heap.size, 1, none⟩) ln (by simp)).trans n1⟩; have Hrf := Lib.hid hrf; have Hcf := Lib.hid (Hc2.out.drew.trans cf); have Hgf := Lib.hid hgf; clear hrf cf hgf)
        | (go_at_call 9; with_reducible refine (Hmq.out _).mono ?_; rintro e w' ⟨rfl, rfl⟩)
        | (go_at_call 9; with_reducible refine (Hmi.out _).mono ?_; rintro e w' ⟨rfl, rfl⟩))
    all_goals
      obtain ⟨k0, k1⟩ := kS3
      have lk := lt_of_cell k0
      have hlen := fitL_len ins N
      have hqs3 := Hq.out.old Hp0.out Hcf.out
      have hin3 := ints_row hlen (by omega) Hrf.out
      have hev : EvOk ⟨N, qs⟩ (fitL ins N) qn := ⟨Hok.out, by rw [hlen], by omega, by simp only; omega⟩
      have Hqs3 := Lib.hid hqs3
      have Hin3 := Lib.hid hin3
      have Hlen := Lib.hid hlen
      have Hev := Lib.hid hev
      have hgw : w.heap.size < gf := by have := Hgf.out; have : w.heap.size < w2.drew.heap.size := ln; omega
      clear hqs3 hin3 hlen n0 n1 hev
      generalize fitL ins N = xs at Hin3 Hlen Hev Hrf
      go_wp2_with fail
      refine (influences_any (fun g => g < w3.heap.size) _ ⟨N, qs⟩ xs qn jn _ _ Hqs3.out Hin3.out (fun k hk => hk) Hev.out (by omega)).mono ?_
      rintro e w4 ⟨b, rfl, hb, c4⟩
      have k04 := (c4.cell (p := ⟨w.heap.size, 0, none⟩) lk (by simp)).trans k0
      have k14 := (c4.cell (p := ⟨w.heap.size, 1, none⟩) lk (by simp)).trans k1
      have lk4 := lt_of_cell k04
      have hc4 := Hcf.out.trans c4
      have Hc4 := Lib.hid hc4
      have hin4 := (Hin3.out.kept (c4.p (S := fun _ => False)) (fun _ _ h => h)).imp (q := fun g => g < w4.heap.size) (fun g hg => Nat.lt_of_lt_of_le hg c4.size)
      have Hin4 := Lib.hid hin4
      clear k0 k1 lk hc4 c4 hin4
      cases b with
      | true =>
        clear hb
        go_wp2_with fail
        refine (queryExample_any _).mono ?_
        rintro e w5 ⟨rfl, c5⟩
        go_wp2
        go_ret
        exact ⟨rfl, Hc4.out.trans c5⟩
      | false =>
        have Hb := Lib.hid (hb rfl)
        clear hb
        go_wp2_with fail
        refine (cloneInts_any (fun g => g < w4.heap.size) w4 _ xs (by rw [Hlen.out]; omega) (by rw [Hlen.out]; omega) Hin4.out).mono ?_
        rintro e w5 ⟨v5, rfl, hown5, c5⟩
        obtain ⟨g5, cap5, hv5, hg5, q5, f5, hset5⟩ := ints_set hown5 (j := jn) (by rw [Hlen.out]; exact hjn)
        rw [Hlen.out] at hv5
        subst hv5
        have hset6 := hset5 nv
        have hc6 : Chg [] w4 (w5.setCell ⟨g5, jn, none⟩ (.int .i64 nv)) := c5.setCell (p := ⟨g5, jn, none⟩) (Or.inr hg5) _
        have k05 := (c5.cell (p := ⟨w.heap.size, 0, none⟩) lk4 (by simp)).trans k04
        have k15 := (c5.cell (p := ⟨w.heap.size, 1, none⟩) lk4 (by simp)).trans k14
        have k06 := (hc6.cell (p := ⟨w.heap.size, 0, none⟩) lk4 (by simp)).trans k04
        have k16 := (hc6.cell (p := ⟨w.heap.size, 1, none⟩) lk4 (by simp)).trans k14
        have hin6 := (Hin4.out.kept (hc6.p (S := fun _ => False)) (fun _ _ h => h)).imp (q := fun g => g < (w5.setCell ⟨g5, jn, none⟩ (.int .i64 nv)).heap.size) (fun g hg => Nat.lt_of_lt_of_le hg hc6.size)
        have hqs6 := Hq.out.old Hp0.out (Hc4.out.trans hc6)
        have hgne : w.heap.size < g5 := by have : w.heap.size < w4.heap.size := lk4; omega
        have hjn1 : (jn : Int) < (N : Int) := by omega
        have hjn0 : (0 : Int) ≤ (jn : Int) := by omega
        have lk6 := lt_of_cell k06
        have lg5 := lt_of_cell q5
        have Hin6 := Lib.hid hin6
        have Hset6 := Lib.hid hset6
        have Hqs6 := Lib.hid hqs6
        have Hc6 := Lib.hid (Hc4.out.trans hc6)
        clear k04 k14 hown5 c5 hset5 hset6 hin6 hqs6 hc6
        have hev' : EvOk ⟨N, qs⟩ (xs.set jn nv) qn := ⟨Hok.out, by rw [List.length_set, Hlen.out], by omega, by simp only; omega⟩
        have Hev' := Lib.hid hev'
        have hun : val ⟨N, qs⟩ xs ((qn : Int)).toNat = val ⟨N, qs⟩ (xs.set jn nv) ((qn : Int)).toNat ∧ reads ⟨N, qs⟩ xs ((qn : Int)).toNat = reads ⟨N, qs⟩ (xs.set jn nv) ((qn : Int)).toNat := by
          obtain ⟨P, hPq, hP⟩ := Hb.out
          have := unread Hok.out (ins := xs) (ins' := xs.set jn nv) hP (fun j hj => by rw [getD_setI _ _ _ (by rw [Hlen.out]; exact hjn), if_neg hj]) (qn + 1) qn (by omega) hPq
          simpa using this
        have Hun := Lib.hid hun
        obtain ⟨va, hva⟩ : ∃ va, val ⟨N, qs⟩ xs ((qn : Int)).toNat = va := ⟨_, rfl⟩
        have Hva := Lib.hid (And.intro hva (hun.1.symm.trans hva))
        clear hev' hun hva
        go_wp2_with fail
        obtain ⟨w6, hw6⟩ : ∃ x, x = w5.setCell ⟨g5, jn, none⟩ (.int .i64 nv) := ⟨_, rfl⟩
        rw [← hw6] at k06 k16 lk6 Hin6 Hset6 Hqs6 Hc6 ⊢
        clear hw6 k05 k15 q5 f5 hgne
        have hz : ((0 : Int) == 0) = true := rfl
        refine (eval_yes _ _ ⟨N, qs⟩ xs qn _ _ Hqs6.out Hin6.out (fun k hk => hk) Hev.out).mono ?_
        rintro e w7 ⟨rfl, c7⟩
        rw [Hva.out.1]
        have k07 := (c7.cell (p := ⟨w.heap.size, 0, none⟩) lk6 (by simp)).trans k06
        have k17 := (c7.cell (p := ⟨w.heap.size, 1, none⟩) lk6 (by simp)).trans k16
        have lk7 := lt_of_cell k07
        have Hin7 := Lib.hid (Hin6.out.old c7)
        have Hset7 := Lib.hid (Hset6.out.old c7)
        have Hqs7 := Lib.hid (Hq.out.old Hp0.out (Hc6.out.trans c7))
        have Hc7 := Lib.hid (Hc6.out.trans c7)
        clear c7 k06 k16 lk6 Hin6 Hset6 Hqs6 Hc6
        go_wp2_with fail
        refine (eval_yes _ _ ⟨N, qs⟩ (xs.set jn nv) qn _ _ Hqs7.out Hset7.out (fun k hk => hk) Hev'.out).mono ?_
        rintro e w8 ⟨rfl, c8⟩
        have k08 := (c8.cell (p := ⟨w.heap.size, 0, none⟩) lk7 (by simp)).trans k07
        have k18 := (c8.cell (p := ⟨w.heap.size, 1, none⟩) lk7 (by simp)).trans k17
        have lk8 := lt_of_cell k08
        have Hin8 := Lib.hid (Hin7.out.old c8)
        have Hset8 := Lib.hid (Hset7.out.old c8)
        have Hqs8 := Lib.hid (Hq.out.old Hp0.out (Hc7.out.trans c8))
        have Hc8 := Lib.hid (Hc7.out.trans c8)
        rw [Hva.out.2]
        clear c8 k07 k17 lk7 Hin7 Hset7 Hqs7 Hc7
        go_wp2_with fail
        refine (reads_yes _ _ ⟨N, qs⟩ xs qn _ _ Hqs8.out Hin8.out (fun k hk => hk) Hev.out).mono ?_
        rintro e w9 ⟨r1, rfl, hr1, c9⟩
        have k09 := (c9.cell (p := ⟨w.heap.size, 0, none⟩) lk8 (by simp)).trans k08
        have k19 := (c9.cell (p := ⟨w.heap.size, 1, none⟩) lk8 (by simp)).trans k18
        have lk9 := lt_of_cell k09
        have Hset9 := Lib.hid (Hset8.out.old c9)
        have Hqs9 := Lib.hid (Hq.out.old Hp0.out (Hc8.out.trans c9))
        have Hc9 := Lib.hid (Hc8.out.trans c9)
        have Hr1 := Lib.hid hr1
        clear c9 k08 k18 lk8 Hin8 Hset8 Hqs8 Hc8 hr1
        go_wp2_with fail
        refine (reads_yes _ _ ⟨N, qs⟩ (xs.set jn nv) qn _ _ Hqs9.out Hset9.out (fun k hk => hk) Hev'.out).mono ?_
        rintro e w10 ⟨r2, rfl, hr2, c10⟩
        rw [← Hun.out.2] at hr2
        have Hr1' := Lib.hid (Hr1.out.kept (c10.p (S := fun _ => False)) (fun _ _ h => h))
        have Hr2 := Lib.hid hr2
        have Hc10 := Lib.hid (Hc9.out.trans c10)
        clear c10 k09 k19 lk9 Hset9 Hqs9 Hc9 hr2 Hr1
        generalize reads ⟨N, qs⟩ xs ((qn : Int)).toNat = rs at Hr1' Hr2
        go_wp2_with fail
        refine (queryExample_any _).mono ?_
        rintro e w11 ⟨rfl, c11⟩
        have Hr11 := Lib.hid (Hr1'.out.kept (c11.p (S := fun _ => False)) (fun _ _ h => h))
        have Hr12 := Lib.hid (Hr2.out.kept (c11.p (S := fun _ => False)) (fun _ _ h => h))
        have Hc11 := Lib.hid (Hc10.out.trans c11)
        clear c11
        go_wp2_with fail
        refine (keysEqual_yes _ _ w11 r1 r2 rs Hr11.out Hr12.out).mono ?_
        rintro e w12 ⟨rfl, c12⟩
        go_wp2
        go_ret
        exact ⟨rfl, Hc11.out.trans c12⟩
end Go.Proofs.Ytipipklgjcjnoaa
